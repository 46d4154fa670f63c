/- What range34 hands back over such a row of keys. Contract, no statement. -/
import Derived.Test.YtapglfnjoppjiaaDoorKeys
namespace Go.Proofs.YtapglfnjoppjiaaDoor
open Go.RowKit

/-- A row of 40 keys. -/
def Keys40 (w : World) (g : Nat) (ks : List (List UInt8)) : Prop := ks.length = 40 ∧ g < w.heap.size ∧ ∀ j, j < 40 → w.cell? ⟨g, j, none⟩ = some (.string (bs (ks.getD j [])))
theorem Keys40.grow {w w' : World} {g : Nat} {ks : List (List UInt8)} (h : Keys40 w g ks) (hb : Below w.heap.size w w') : Keys40 w' g ks :=
  ⟨h.1, Nat.lt_of_lt_of_le h.2.1 hb.size, fun j hj => (hb.cell (p := ⟨g, j, none⟩) h.2.1).trans (h.2.2 j hj)⟩
theorem Keys40.mem {w : World} {g : Nat} {ks : List (List UInt8)} (h : Keys40 w g ks) {j : Nat} (hj : j < 40) : ks.getD j [] ∈ ks := by
  have := h.1
  rw [List.getD_eq_getElem?_getD, List.getElem?_eq_getElem (by omega)]; exact List.getElem_mem _

def RangePost (ks : List (List UInt8)) (en : Ending) : Prop :=
  ∃ (f t : List UInt8) (e : Bool), f ∈ ks ∧ (e = true → t ∈ ks) ∧ (e = false → t = []) ∧ en = .returned (rgV (bs f) (bs t) e)

set_option maxHeartbeats 400000 in
theorem range_any (g cap : Nat) (ks : List (List UInt8)) (n : Int) (w : World) (hK : Keys40 w g ks) (_hcap : 40 ≤ cap) :
    Calls Tryd.prog 25 #[.slice (some ⟨g, 0, none⟩) 40 cap, .int .i64 n] w fun en w' => RangePost ks en ∧ Below w.heap.size w w' := by
  have HK := Lib.hid hK
  have hlt := hK.2.1
  clear hK
  go_enter Tryd.func25, Tryd.ntmps25
  go_wp2_with fail
  refine (pick_any _ _ _ (by decide) (by decide)).mono ?_; rintro en w1 ⟨rfl, rfl⟩
  have hp := pick_range n 40 (by decide)
  obtain ⟨p, hpe⟩ := Int.eq_ofNat_of_zero_le hp.1
  rw [hpe] at hp ⊢
  clear hpe
  have hp40 : p < 40 := by omega
  obtain ⟨f, hfm, hc1⟩ : ∃ f, f ∈ ks ∧ w.cell? ⟨g, p, none⟩ = some (.string (bs f)) := ⟨_, HK.out.mem hp40, HK.out.2.2 p hp40⟩
  go_wp2_with fail
  refine (pick_any _ _ _ (by decide) (by decide)).mono ?_; rintro en w1 ⟨rfl, rfl⟩
  have hq := pick_range (wrap64 (n.tdiv 40)) 49 (by decide)
  generalize pickI (wrap64 (n.tdiv 40)) 49 = q' at hq ⊢
  obtain ⟨q, rfl⟩ := Int.eq_ofNat_of_zero_le hq.1
  by_cases hq40 : q < 40
  · obtain ⟨t, htm, hc2⟩ : ∃ t, t ∈ ks ∧ w.cell? ⟨g, q, none⟩ = some (.string (bs t)) := ⟨_, HK.out.mem hq40, HK.out.2.2 q hq40⟩
    go_wp2_with fail
    refine bodyPost_ret (v := rgV (bs f) (bs t) true) (by simp [results, Tryd.results25, go_sem]) rfl ⟨⟨f, t, true, hfm, fun _ => htm, fun h => (by cases h), rfl⟩, ?_⟩
    exact ((Below.refl _ _).alloc (Nat.le_refl _) _).alloc (by simp) _
  · go_wp2_with fail
    refine bodyPost_ret (v := rgV (bs f) (bs []) false) (by simp [results, Tryd.results25, go_sem, bs]) rfl ⟨⟨f, [], false, hfm, fun h => (by cases h), fun _ => rfl, rfl⟩, ?_⟩
    exact ((Below.refl _ _).alloc (Nat.le_refl _) _).alloc (by simp) _

end Go.Proofs.YtapglfnjoppjiaaDoor
