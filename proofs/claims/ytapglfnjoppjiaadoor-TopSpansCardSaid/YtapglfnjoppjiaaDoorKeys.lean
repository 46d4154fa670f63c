/- The 40 keys that keys34 hands back. No conditions. -/
import Derived.Test.YtapglfnjoppjiaaDoorAwake
import Derived.Test.YtapglfnjoppjiaaDoorShelf
import Derived.Lib.OwnBridge
namespace Go.Proofs.YtapglfnjoppjiaaDoor
open Go.RowKit

/-- The 40 keys of up to three letters, in the order in which they are made. -/
def keyL : List (List UInt8) :=
  [[]] ++ ([[0], [97], [98]] : List (List UInt8)) ++
  (([[0], [97], [98]] : List (List UInt8)).flatMap fun k => [k ++ [0], k ++ [97], k ++ [98]]) ++
  ((([[0], [97], [98]] : List (List UInt8)).flatMap fun k => [k ++ [0], k ++ [97], k ++ [98]]).flatMap fun k => [k ++ [0], k ++ [97], k ++ [98]])
theorem keyL_length : keyL.length = 40 := by decide
theorem keyL_step : ∀ i, i < 13 → keyL.getD (1 + 3 * i) [] = keyL.getD i [] ++ [0] ∧ keyL.getD (2 + 3 * i) [] = keyL.getD i [] ++ [97] ∧ keyL.getD (3 + 3 * i) [] = keyL.getD i [] ++ [98] ∧ (keyL.getD i []).length < 3 := by decide
theorem keyL_last : ∀ i, i < 40 → 13 ≤ i → (keyL.getD i []).length = 3 := by decide

/-- A text of letters as a string. -/
def bs (l : List UInt8) : ByteArray := ⟨l.toArray⟩
/-- A string as a value. -/
def sv (l : List UInt8) : Value := .string (bs l)
theorem bs_toList (l : List UInt8) : (bs l).toList = l := by simp [bs, ByteArray.toList_eq]

theorem elem30 : ElemOk Tryd.prog 30 9 (.string ⟨#[]⟩) 1 16 := ⟨Tryd.underlying30, by kernel_rfl, rfl, by decide⟩

theorem bs_push (x : List UInt8) (c : UInt8) : bs x ++ ⟨#[c]⟩ = bs (x ++ [c]) := by
  apply ByteArray.ext
  simp [bs]

/-- How many keys there are behind i rounds. -/
def keyN (i : Nat) : Nat := if i < 13 then 1 + 3 * i else 40

theorem grownBy_grow (w : World) (os : Array Obj) (r : Option Nat) : w.grownBy (Sort.grow w os) r :=
  ⟨rfl, rfl, rfl, by simp [Sort.grow], fun k hk _ => Sort.heap_grow_old w os hk⟩

/-- What the keys' function leaves. -/
def KeysPost (w : World) (en : Ending) (w' : World) : Prop :=
  ∃ (g cap : Nat) (ks : List (List UInt8)), en = .returned (.slice (some ⟨g, 0, none⟩) 40 cap) ∧ w'.ownsRow w.heap.size 9 1 (.slice (some ⟨g, 0, none⟩) 40 cap) 40 (ks.map sv) ∧ ks.length = 40 ∧ (∀ k, k ∈ ks ↔ k ∈ keyL) ∧ Below w.heap.size w w'

theorem keysN {w : World} {g cap : Nat} {w1 : World} {n : Nat} {os : Array Obj} (hL : Below w.heap.size w w1) (hg : w.heap.size ≤ g) (h : w1.ownsRow w.heap.size 9 1 (.slice (some ⟨g, 0, none⟩) 40 cap) 40 (keyL.map sv)) :
    KeysPost w (.returned (.slice (some ⟨g, 0, none⟩) 40 cap)) (Sort.grow (Sort.putRow encStr (Sort.ahead w1 n) g 0 (keyL.mergeSort fun x y => decide (x ≤ y)).toArray) os) := by
  have hl : (keyL.mergeSort fun x y => decide (x ≤ y)).length = 40 := by rw [List.length_mergeSort]; exact keyL_length
  refine ⟨g, cap, keyL.mergeSort fun x y => decide (x ≤ y), rfl, ?_, hl, fun k => List.mem_mergeSort, ?_⟩
  · have := Lib.ownsRow_putRow (enc := encStr) (q := n) (ys := keyL.mergeSort fun x y => decide (x ≤ y)) h hl (Nat.le_refl _)
    rw [List.take_of_length_le (Nat.le_of_eq hl)] at this
    exact this.kept (grownBy_grow _ _ none) (.inr (by simp [Value.ownBlock]))
  · exact (Lib.below_putRow hL hg).grown (grownBy_grow _ _ none) (by simp [Sort.putRow, Sort.mapBlock, Sort.ahead]; exact hL.size) (fun j hj => by cases hj)

set_option maxHeartbeats 400000 in
set_option maxRecDepth 100000 in
theorem keys_any (w : World) :
    Calls Tryd.prog 24 #[] w (KeysPost w) := by
  go_enter Tryd.func24, Tryd.ntmps24
  go_wp2_with fail
  go_loopw [1, 2] (fun v i wr => ∃ k : Nat, k ≤ 40 ∧ i = .int .i64 k ∧ wr.ownsRow w.heap.size 9 1 v (keyN k) ((keyL.take (keyN k)).map sv) ∧ Below w.heap.size w wr) (fun _ i _ => 40 - (intOf i).toNat)
  case atStart => exact ⟨0, by omega, rfl, World.ownsRow_lit w #[.string ⟨#[]⟩] 1 (Nat.le_refl _) (by decide) rfl, (Below.refl _ _).alloc (Nat.le_refl _) _⟩
  case round =>
    obtain ⟨k, hk, rfl, hown, hL⟩ := hrel
    have hn0 : 0 < keyN k := by unfold keyN; split <;> omega
    have hn40 : keyN k ≤ 40 := by unfold keyN; split <;> omega
    have hkn : k < 40 → k < keyN k := by unfold keyN; split <;> omega
    obtain ⟨g, cap, rfl, hg, hgw, hcap, hcell⟩ := own_form hown hn0
    rw [Nat.mul_one] at hcell
    by_cases h13 : k < 13
    · have hks := keyL_step k h13
      have hkc : wr.cell? ⟨g, k, none⟩ = some (.string (bs (keyL.getD k []))) := by
        rw [hcell k (hkn (by omega)), List.getElem?_map, List.getElem?_take, if_pos (hkn (by omega)), List.getD_eq_getElem?_getD, List.getElem?_eq_getElem (by rw [keyL_length]; omega)]; rfl
      have hkn2 : k < keyN k := hkn (by omega)
      have hN : keyN k = 1 + 3 * k := by unfold keyN; rw [if_pos h13]
      have hsz : (bs (keyL.getD k [])).size < 3 := hks.2.2.2
      have hadd : ¬ 9223372036854775807 < (bs (keyL.getD k [])).size + 1 := by omega
      have HS := Lib.hid hks; have HN := Lib.hid hN; have HC := Lib.hid hcell; have HK := Lib.hid hkn
      clear hks hN hcell hkn
      generalize hx : keyL.getD k [] = x at hkc hsz hadd
      have HX := Lib.hid hx; clear hx
      generalize hnn : keyN k = n at *
      have HNN := Lib.hid hnn; clear hnn
      go_wp2_with fail
      go_region_held3 (fun w' => w'.cell? ⟨g, k, none⟩ = some (.string (bs x)))
        (first | go_keep | (rw [hap.keep g (by simp [Value.ownBlock]) k (by omega)]; go_keep))
        ((refine step_append_x _ (by rfl) _ _ elem30 (by rfl) (by rfl) ((hown.alloc _).drew) ⟨wr.heap.size, 0, none⟩ 3 3 [.string (bs x ++ ⟨#[0]⟩), .string (bs x ++ ⟨#[97]⟩), .string (bs x ++ ⟨#[98]⟩)] (by rfl) (by rfl) (World.news_of_block (cs := #[.string (bs x ++ ⟨#[0]⟩), .string (bs x ++ ⟨#[97]⟩), .string (bs x ++ ⟨#[98]⟩)]) (t := 9) (fr := (0, 0)) (heap_alloc_new wr _)) (by simp [Value.oneCell']) (by omega) (by decide) (by have := hL.size; simp; omega) ?_; intro v' w1 hap))
      have hL1 : Below w.heap.size w w1 := ((hL.alloc hL.size _).drew).grown hap.by_ (by have := hL.size; simp; omega) (fun j hj => by simp [Value.ownBlock] at hj; omega)
      have hown1 := hap.own
      clear hap hown
      go_wp2_with fail
      go_roundw
      case rel =>
        refine ⟨k + 1, by omega, by go_num, ?_, hL1⟩
        have hn' : keyN (k + 1) = n + 3 := by have := HN.out; unfold keyN; split <;> omega
        rw [hn']
        have hks := HS.out
        have hX := HX.out
        rw [hX] at hks
        have hn1 := HN.out
        have e : (keyL.take (n + 3)).map sv = (keyL.take n).map sv ++ [.string (bs x ++ ⟨#[0]⟩), .string (bs x ++ ⟨#[97]⟩), .string (bs x ++ ⟨#[98]⟩)] := by
          rw [List.take_add, List.map_append]
          congr 1
          have h0 : keyL.drop n = keyL.getD n [] :: keyL.getD (n + 1) [] :: keyL.getD (n + 2) [] :: keyL.drop (n + 3) := by
            have hl := keyL_length
            rw [List.drop_eq_getElem_cons (show n < keyL.length by omega), List.drop_eq_getElem_cons (show n + 1 < keyL.length by omega), List.drop_eq_getElem_cons (show n + 1 + 1 < keyL.length by omega)]
            simp only [List.getD_eq_getElem?_getD, List.getElem?_eq_getElem (show n < keyL.length by omega), List.getElem?_eq_getElem (show n + 1 < keyL.length by omega), List.getElem?_eq_getElem (show n + 2 < keyL.length by omega), Option.getD_some]
          rw [h0, show n = 1 + 3 * k from hn1, show 1 + 3 * k + 1 = 2 + 3 * k by omega, show 1 + 3 * k + 2 = 3 + 3 * k by omega, hks.1, hks.2.1, hks.2.2.1]
          simp only [List.take_succ_cons, List.take_zero, List.map_cons, List.map_nil, sv, bs_push]
        rw [e]; exact hown1
      case measure => simp [intOf]; omega
    · by_cases h40 : k < 40
      · have hkc : wr.cell? ⟨g, k, none⟩ = some (.string (bs (keyL.getD k []))) := by
          rw [hcell k (hkn h40), List.getElem?_map, List.getElem?_take, if_pos (hkn h40), List.getD_eq_getElem?_getD, List.getElem?_eq_getElem (by rw [keyL_length]; omega)]; rfl
        have hkn2 : k < keyN k := hkn h40
        have hsz : 3 ≤ (bs (keyL.getD k [])).size := by have := keyL_last k h40 (by omega); exact Nat.le_of_eq this.symm
        have hN : keyN k = keyN (k + 1) := by unfold keyN; rw [if_neg h13, if_neg (by omega)]
        have HN := Lib.hid hN
        clear hN hcell hkn
        generalize hx : keyL.getD k [] = x at hkc hsz
        clear hx
        generalize hnn : keyN k = n at *
        have HNN := Lib.hid hnn; clear hnn
        go_wp2_with fail
        go_roundw
        case rel => exact ⟨k + 1, by omega, by go_num, by rw [← HN.out]; exact hown, hL⟩
        case measure => simp [intOf]; omega
      · obtain rfl : k = 40 := by omega
        have hN : keyN 40 = 40 := rfl
        have ht : keyL.take 40 = keyL := List.take_of_length_le (Nat.le_of_eq keyL_length)
        clear hkn hcell hn40 hn0 hcap
        rw [hN] at hown ⊢
        rw [ht] at hown
        clear hN ht
        go_wp2_with fail
        obtain ⟨g', cap', e, _, _, _, _, _, hH⟩ := Lib.holds_of_ownsRow (enc := encStr) hown (by simp)
        injection e with e1 _ e3
        injection e1 with e1
        injection e1 with e1
        subst e1; subst e3
        refine (Tryd.slices_Sort_string g 0 cap keyL wr hH hgw (by decide)).mono ?_
        rintro en w2 ⟨rfl, n, os, hw2⟩
        have HP : KeysPost w (.returned (.slice (some ⟨g, 0, none⟩) 40 cap)) w2 := by rw [hw2]; exact keysN hL hg hown
        clear hw2 hH hown
        go_wp2_with fail
        go_ret
        exact HP

end Go.Proofs.YtapglfnjoppjiaaDoor
