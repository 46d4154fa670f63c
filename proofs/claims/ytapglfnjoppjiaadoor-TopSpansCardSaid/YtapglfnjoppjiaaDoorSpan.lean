/- What the functions of package span answer, for every range whose bounds have at most 513 bytes. Contracts, no statement. -/
import Derived.Test.YtapglfnjoppjiaaDoorProg
import Derived.Test.YtapglfnjoppjiaaDoorKit
import Derived.RegionTactic
import Derived.ChangeAlike
import Derived.Deep.QuietTactic
import Derived.BigQuiet
namespace Go.Proofs.YtapglfnjoppjiaaDoor
open Go.RowKit

/-- A range as a value. -/
abbrev rgV (f t : ByteArray) (e : Bool) : Value := .agg #[.string f, .string t, .bool e]

/-- Is a key behind a range? -/
def overB (t k : ByteArray) (e : Bool) : Bool := e && !(Op.bytesLess k.toList t.toList)

set_option maxHeartbeats 400000 in
theorem over_any (f t k : ByteArray) (e : Bool) (w : World) :
    Calls Tryd.prog 122 #[rgV f t e, .string k] w fun en w' => en = .returned (.bool (overB t k e)) ∧ Below w.heap.size w w' := by
  go_enter Tryd.func122, Tryd.ntmps122
  go_wp2
  all_goals go_ret
  all_goals (refine ⟨by cases e <;> simp_all [overB], ?_⟩; exact (Below.refl _ _).alloc (Nat.le_refl _) _)

/-- Has a range a key? -/
def hasB (f t k : ByteArray) (e : Bool) : Bool := !(Op.bytesLess k.toList f.toList) && !(overB t k e)

set_option maxHeartbeats 400000 in
theorem bhas_any (f t k : ByteArray) (e : Bool) (w : World) :
    Calls Tryd.prog 82 #[rgV f t e, .string k] w fun en w' => en = .returned (.bool (hasB f t k e)) ∧ Below w.heap.size w w' := by
  go_enter Tryd.func82, Tryd.ntmps82
  by_cases h : Op.bytesLess k.toList f.toList = true
  · go_wp2
    go_ret
    refine ⟨by simp [hasB, h], ?_⟩; exact (Below.refl _ _).alloc (Nat.le_refl _) _
  · go_wp2_with (go_at_call 122; refine (over_any _ _ _ _ _).mono ?_; rintro en w1 ⟨rfl, hb⟩)
    go_ret
    refine ⟨by simp [hasB, h], ?_⟩
    exact ((Below.refl _ _).alloc (Nat.le_refl _) _).trans (hb.mono (by simp))

/-- Is a range right (its bounds not too long)? -/
def rightB (f t : ByteArray) (e : Bool) : Bool := if e then Op.bytesLess f.toList t.toList else t.toList.isEmpty

set_option maxHeartbeats 400000 in
theorem right_any (f t : ByteArray) (e : Bool) (w : World) (hf : f.size ≤ 513) (ht : t.size ≤ 513) :
    Calls Tryd.prog 32 #[rgV f t e] w fun en w' => en = .returned (.bool (rightB f t e)) ∧ Below w.heap.size w w' := by
  go_enter Tryd.func32, Tryd.ntmps32
  go_wp2
  all_goals go_ret
  all_goals (refine ⟨?_, (Below.refl _ _).alloc (Nat.le_refl _) _⟩)
  all_goals (cases e <;> simp_all [rightB])

/-- 'right' as the statement has it. -/
def righT (f t : ByteArray) (e : Bool) : Bool := !e || Op.bytesLess f.toList t.toList

set_option maxHeartbeats 400000 in
theorem trig_any (f t : ByteArray) (e : Bool) (w : World) :
    Calls Tryd.prog 26 #[rgV f t e] w fun en w' => en = .returned (.bool (righT f t e)) ∧ Below w.heap.size w w' := by
  go_enter Tryd.func26, Tryd.ntmps26
  go_wp2
  all_goals go_ret
  all_goals (refine ⟨?_, (Below.refl _ _).alloc (Nat.le_refl _) _⟩)
  all_goals (cases e <;> simp_all [righT])

set_option maxHeartbeats 400000 in
theorem has_any (f t k : ByteArray) (e : Bool) (w : World) (hf : f.size ≤ 513) (ht : t.size ≤ 513) :
    Calls Tryd.prog 29 #[rgV f t e, .string k] w fun en w' => en = .returned (.bool (rightB f t e && hasB f t k e)) ∧ Below w.heap.size w w' := by
  go_enter Tryd.func29, Tryd.ntmps29
  by_cases h : rightB f t e = true
  · go_wp2_with (first | (go_at_call 32; refine (right_any _ _ _ _ hf ht).mono ?_; rintro en w1 ⟨rfl, hb⟩; obtain ⟨hc, hfz⟩ := bcell hb) | (go_at_call 82; refine (bhas_any _ _ _ _ _).mono ?_; rintro en w2 ⟨rfl, hb2⟩))
    go_ret
    refine ⟨by simp [h], ?_⟩
    exact (((Below.refl _ _).alloc (Nat.le_refl _) _).trans (hb.mono (by simp))).trans (hb2.mono (by have := hb.size; simp at this; omega))
  · go_wp2_with (first | (go_at_call 32; refine (right_any _ _ _ _ hf ht).mono ?_; rintro en w1 ⟨rfl, hb⟩; obtain ⟨hc, hfz⟩ := bcell hb))
    go_ret
    refine ⟨by simp [h], ?_⟩
    exact (((Below.refl _ _).alloc (Nat.le_refl _) _).trans (hb.mono (by simp)))


/-- Do two ranges meet? -/
def meetsB (f t : ByteArray) (e : Bool) (f' t' : ByteArray) (e' : Bool) : Bool :=
  rightB f t e && rightB f' t' e' && (hasB f t f' e || hasB f' t' f e')

set_option maxHeartbeats 1000000 in
theorem meets_any (f t : ByteArray) (e : Bool) (f' t' : ByteArray) (e' : Bool) (w : World) (hf : f.size ≤ 513) (ht : t.size ≤ 513) (hf' : f'.size ≤ 513) (ht' : t'.size ≤ 513) :
    Calls Tryd.prog 33 #[rgV f t e, rgV f' t' e'] w fun en w' => en = .returned (.bool (meetsB f t e f' t' e')) ∧ Below w.heap.size w w' := by
  go_enter Tryd.func33, Tryd.ntmps33
  by_cases h : rightB f t e = true
  · go_wp2_with fail
    refine (right_any _ _ _ _ hf ht).mono ?_; rintro en w1 ⟨rfl, hb⟩
    have A0 : Blk w1 w.heap.size 51 [.string f, .string t, .bool e] := Blk.grow (by exact Blk.alloc (Blk.newAt rfl) _) hb
    have A1 : Blk w1 (w.heap.size + 1) 51 [.string f', .string t', .bool e'] := Blk.grow (by exact Blk.newAt (by simp)) hb
    have L : Below w.heap.size w w1 := lstep (((Below.refl _ _).alloc (Nat.le_refl _) _).alloc (by simp) _) hb (Nat.le_refl _)
    have C0 := A0.c3; have C1 := A1.c3; clear hb
    by_cases h' : rightB f' t' e' = true
    · go_wp2_with fail
      refine (right_any _ _ _ _ hf' ht').mono ?_; rintro en w2 ⟨rfl, hb⟩
      replace A0 := A0.grow hb; replace A1 := A1.grow hb; replace L := lstep L hb (Nat.le_refl _); replace C0 := A0.c3; replace C1 := A1.c3; clear hb
      go_wp2_with fail
      go_region
      go_wp2_with fail
      refine (bhas_any _ _ _ _ _).mono ?_; rintro en w3 ⟨rfl, hb⟩
      replace A0 := A0.drew.grow hb; replace L := lstep L.drew hb (Nat.le_refl _); replace C0 := A0.c3; clear hb A1
      by_cases h3 : hasB f t f' e = true
      · go_wp2_with fail
        go_ret
        exact ⟨by simp [meetsB, h, h', h3], L⟩
      · go_wp2_with fail
        refine (bhas_any _ _ _ _ _).mono ?_; rintro en w4 ⟨rfl, hb⟩
        replace L := lstep L hb (Nat.le_refl _)
        go_wp2_with fail
        go_ret
        exact ⟨by simp [meetsB, h, h', h3], L⟩
    · go_wp2_with fail
      refine (right_any _ _ _ _ hf' ht').mono ?_; rintro en w2 ⟨rfl, hb⟩
      replace L := lstep L hb (Nat.le_refl _)
      go_wp2_with fail
      go_ret
      exact ⟨by simp [meetsB, h, h'], L⟩
  · go_wp2_with fail
    refine (right_any _ _ _ _ hf ht).mono ?_; rintro en w1 ⟨rfl, hb⟩
    have L : Below w.heap.size w w1 := lstep (((Below.refl _ _).alloc (Nat.le_refl _) _).alloc (by simp) _) hb (Nat.le_refl _)
    go_wp2_with fail
    go_ret
    exact ⟨by simp [meetsB, h], L⟩


/-- 'has' as the statement has it. -/
def hasT (f t k : ByteArray) (e : Bool) : Bool := righT f t e && !(Op.bytesLess k.toList f.toList) && (!e || Op.bytesLess k.toList t.toList)

theorem leq_of (a b : List UInt8) : (Op.bytesLess a b || a == b) = !(Op.bytesLess b a) := by
  induction a generalizing b with
  | nil => cases b <;> simp [Op.bytesLess]
  | cons x a ih =>
    cases b with
    | nil => simp [Op.bytesLess]
    | cons y b =>
      simp only [Op.bytesLess]
      have := ih b
      by_cases h : x = y
      · subst h
        have h1 : ¬ x < x := UInt8.lt_irrefl x
        simp only [h1, decide_false, Bool.false_or, beq_self_eq_true, Bool.true_and]
        rw [← this]
        simp
      · rcases (show x < y ∨ y < x by simp only [UInt8.lt_iff_toNat_lt]; have : x.toNat ≠ y.toNat := fun e => h (UInt8.toNat_inj.1 e); omega) with hl | hl
        · have h1 : ¬ y < x := by simp only [UInt8.lt_iff_toNat_lt] at *; omega
          have h2 : ¬ y = x := fun e => h e.symm
          simp [hl, h1, h2]
        · have h1 : ¬ x < y := by simp only [UInt8.lt_iff_toNat_lt] at *; omega
          simp [hl, h1, h]

set_option maxHeartbeats 1000000 in
theorem thas_any (f t k : ByteArray) (e : Bool) (b : Nat) (w : World) (hb : w.cell? ⟨b, 0, none⟩ = some (.func (.func 26) #[] #[])) (hlt : b < w.heap.size) :
    Calls Tryd.prog 27 #[rgV f t e, .string k, .pointer (some ⟨b, 0, none⟩)] w fun en w' => en = .returned (.bool (hasT f t k e)) ∧ Below w.heap.size w w' := by
  go_enter Tryd.func27, Tryd.ntmps27
  go_wp2_with fail
  refine (trig_any _ _ _ _).mono ?_; rintro en w1 ⟨rfl, hb1⟩
  have L : Below w.heap.size w w1 := lstep (((Below.refl _ _).alloc (Nat.le_refl _) _)) hb1 (Nat.le_refl _)
  obtain ⟨hc, hfz⟩ := bcell hb1
  have q := leq_of f.toList k.toList
  by_cases h : righT f t e = true
  · go_wp2_with fail
    all_goals go_ret
    all_goals refine ⟨?_, L⟩
    all_goals cases e <;> simp_all [hasT]
  · go_wp2_with fail
    all_goals go_ret
    all_goals refine ⟨?_, L⟩
    all_goals cases e <;> simp_all [hasT]

theorem neg_lt_tmod (n m : Int) (hm : 0 < m) : -m < n.tmod m := by
  have h := Int.natAbs_tmod n m
  have h2 : n.natAbs % m.natAbs < m.natAbs := Nat.mod_lt _ (by omega)
  omega

/-- Lies a range in another one, as the program asks it? -/
def withinB (f t : ByteArray) (e : Bool) (f' t' : ByteArray) (e' : Bool) : Bool :=
  rightB f t e && rightB f' t' e' && !(Op.bytesLess f.toList f'.toList) && (!e' || (e && !(Op.bytesLess t'.toList t.toList)))

set_option maxHeartbeats 1000000 in
theorem within_any (f t : ByteArray) (e : Bool) (f' t' : ByteArray) (e' : Bool) (w : World) (hf : f.size ≤ 513) (ht : t.size ≤ 513) (hf' : f'.size ≤ 513) (ht' : t'.size ≤ 513) :
    Calls Tryd.prog 34 #[rgV f t e, rgV f' t' e'] w fun en w' => en = .returned (.bool (withinB f t e f' t' e')) ∧ Below w.heap.size w w' := by
  go_enter Tryd.func34, Tryd.ntmps34
  have q := leq_of t.toList t'.toList
  by_cases h : rightB f t e = true
  · go_wp2_with fail
    refine (right_any _ _ _ _ hf ht).mono ?_; rintro en w1 ⟨rfl, hb⟩
    have L : Below w.heap.size w w1 := lstep (((Below.refl _ _).alloc (Nat.le_refl _) _).alloc (by simp) _) hb (Nat.le_refl _)
    obtain ⟨hc, hfz⟩ := bcell hb
    by_cases h' : rightB f' t' e' = true
    · go_wp2_with fail
      refine (right_any _ _ _ _ hf' ht').mono ?_; rintro en w2 ⟨rfl, hb2⟩
      replace L := lstep L hb2 (Nat.le_refl _)
      have hz : w.heap.size + 1 < w1.heap.size := by have := hb.size; simp at this; omega
      have hz' : w.heap.size < w1.heap.size := by omega
      obtain ⟨hc2, hfz2⟩ := bcell hb2
      go_wp2_with fail
      all_goals go_ret
      all_goals refine ⟨ret_bool ?_, L⟩
      all_goals clear hc hc2 hfz hfz2 hb hb2 L hz hz' q hf ht hf' ht'
      all_goals (unfold withinB; rw [h, h']; simp [*])
    · go_wp2_with fail
      refine (right_any _ _ _ _ hf' ht').mono ?_; rintro en w2 ⟨rfl, hb2⟩
      replace L := lstep L hb2 (Nat.le_refl _)
      go_wp2_with fail
      go_ret
      exact ⟨by simp [withinB, h, h'], L⟩
  · go_wp2_with fail
    refine (right_any _ _ _ _ hf ht).mono ?_; rintro en w1 ⟨rfl, hb⟩
    have L : Below w.heap.size w w1 := lstep (((Below.refl _ _).alloc (Nat.le_refl _) _).alloc (by simp) _) hb (Nat.le_refl _)
    go_wp2_with fail
    go_ret
    exact ⟨by simp [withinB, h], L⟩

/-- The number below m that pick33 tells. -/
def pickI (n m : Int) : Int := (n.tmod m + m) % m
theorem pick_range (n m : Int) (hm : 0 < m) : 0 ≤ pickI n m ∧ pickI n m < m := ⟨Int.emod_nonneg _ (by omega), Int.emod_lt_of_pos _ hm⟩

theorem pick_any (n m : Int) (w : World) (hm : 0 < m) (hm' : m ≤ 1000000000) :
    Calls Tryd.prog 16 #[.int .i64 n, .int .i64 m] w fun en w' => en = .returned (.int .i64 (pickI n m)) ∧ w = w' := by
  have h1 : (m == 0) = false := by simp; omega
  have h2 : (m == -1) = false := by simp; omega
  have h3 : -m < n.tmod m := neg_lt_tmod n m hm
  have h4 : n.tmod m < m := Int.tmod_lt_of_pos _ hm
  go_enter Tryd.func16, Tryd.ntmps16
  go_wp2
  go_ret
  exact ⟨rfl, rfl⟩

set_option maxHeartbeats 400000 in
theorem point_any (k : ByteArray) (w : World) (hk : k.size ≤ 512) :
    Calls Tryd.prog 30 #[.string k] w fun en w' => en = .returned (rgV k (k ++ ⟨#[0]⟩) true) ∧ Below w.heap.size w w' := by
  go_enter Tryd.func30, Tryd.ntmps30
  go_wp2
  exact bodyPost_ret (v := rgV k (k ++ ⟨#[0]⟩) true) (by simp [results, Tryd.results30, go_sem]) rfl ⟨rfl, (Below.refl _ _).alloc (Nat.le_refl _) _⟩

/-- The greater, the smaller one of two strings. -/
def maxS (a b : ByteArray) : ByteArray := if Op.bytesLess a.toList b.toList then b else a
def minS (a b : ByteArray) : ByteArray := if Op.bytesLess b.toList a.toList then b else a
section
variable {P : Program} (w : World)
theorem run_max_str (ts : Array TypeId) (t : TypeId) (x y : ByteArray) : (Builtin.max_ ts t #[.string x, .string y]).run P w = .ok (.string (maxS x y)) w := by
  simp [Builtin.max_, Builtin.max2, Op.stringOp, maxS]
  cases Op.bytesLess x.toList y.toList <;> rfl
theorem run_min_str (ts : Array TypeId) (t : TypeId) (x y : ByteArray) : (Builtin.min_ ts t #[.string x, .string y]).run P w = .ok (.string (minS x y)) w := by
  have h := leq_of x.toList y.toList
  simp [Builtin.min_, Builtin.min2, Op.stringOp, minS]
  rw [h]
  cases Op.bytesLess y.toList x.toList <;> rfl
end
attribute [local go_sem] run_max_str run_min_str

/-- What both ranges have. -/
def bothV (f t : ByteArray) (e : Bool) (f' t' : ByteArray) (e' : Bool) : Value :=
  rgV (maxS f f') (if e then (if e' then minS t t' else t) else if e' then t' else ⟨#[]⟩) (e || e')
def noRange : Value := rgV ⟨#[]⟩ ⟨#[]⟩ false

set_option maxHeartbeats 1000000 in
theorem both_any (f t : ByteArray) (e : Bool) (f' t' : ByteArray) (e' : Bool) (w : World) (hf : f.size ≤ 513) (ht : t.size ≤ 513) (hf' : f'.size ≤ 513) (ht' : t'.size ≤ 513) :
    Calls Tryd.prog 28 #[rgV f t e, rgV f' t' e'] w fun en w' => en = .returned (.tuple #[if meetsB f t e f' t' e' then bothV f t e f' t' e' else noRange, .bool (meetsB f t e f' t' e')]) ∧ Below w.heap.size w w' := by
  go_enter Tryd.func28, Tryd.ntmps28
  go_wp2_with fail
  refine (meets_any _ _ _ _ _ _ _ hf ht hf' ht').mono ?_; rintro en w1 ⟨rfl, hb⟩
  have L : Below w.heap.size w w1 := lstep ((((Below.refl _ _).alloc (Nat.le_refl _) _).alloc (by simp) _).alloc (by simp; omega) _) hb (Nat.le_refl _)
  have A0 : Blk w1 w.heap.size 51 [.string f, .string t, .bool e] := Blk.grow (by exact Blk.alloc (Blk.alloc (Blk.newAt rfl) _) _) hb
  have A1 : Blk w1 (w.heap.size + 1) 51 [.string f', .string t', .bool e'] := Blk.grow (by exact Blk.alloc (Blk.newAt (by simp)) _) hb
  have A2 : Blk w1 (w.heap.size + 1 + 1) 51 [.string ⟨#[]⟩, .string ⟨#[]⟩, .bool false] := Blk.grow (by exact Blk.newAt (by simp)) hb
  have C0 := A0.c3; have C1 := A1.c3; have C2 := A2.c3; have F2 := A2.free 0;  have F21 := A2.free 1;  have F22 := A2.free 2
  have hlt := A2.lt; have hlt1 := A1.lt; have hlt0 := A0.lt
  clear hb
  by_cases h : meetsB f t e f' t' e' = true
  · cases e <;> cases e'
    · go_wp2_with fail
      refine bodyPost_ret (v := .tuple #[bothV f t false f' t' false, .bool true]) (by simp [results, Tryd.results28, go_sem, bothV, C2, hlt]) rfl ⟨rfl, ?_⟩
      exact (((L.setCell (by simp; omega) _).setCell (by simp; omega) _).setCell (by simp; omega) _).alloc (by simp; omega) _
    · go_wp2_with fail
      refine bodyPost_ret (v := .tuple #[bothV f t false f' t' true, .bool true]) (by simp [results, Tryd.results28, go_sem, bothV, C2, hlt]) rfl ⟨rfl, ?_⟩
      exact (((L.setCell (by simp; omega) _).setCell (by simp; omega) _).setCell (by simp; omega) _).alloc (by simp; omega) _
    · go_wp2_with fail
      refine bodyPost_ret (v := .tuple #[bothV f t true f' t' false, .bool true]) (by simp [results, Tryd.results28, go_sem, bothV, C2, hlt]) rfl ⟨rfl, ?_⟩
      exact (((L.setCell (by simp; omega) _).setCell (by simp; omega) _).setCell (by simp; omega) _).alloc (by simp; omega) _
    · go_wp2_with fail
      refine bodyPost_ret (v := .tuple #[bothV f t true f' t' true, .bool true]) (by simp [results, Tryd.results28, go_sem, bothV, C2, hlt]) rfl ⟨rfl, ?_⟩
      exact (((L.setCell (by simp; omega) _).setCell (by simp; omega) _).setCell (by simp; omega) _).alloc (by simp; omega) _
  · go_wp2_with fail
    refine bodyPost_ret (v := .tuple #[noRange, .bool false]) (by simp [results, Tryd.results28, go_sem, noRange, C2]) rfl ⟨rfl, ?_⟩
    exact ((L.setCell (by simp; omega) _).setCell (by simp; omega) _).setCell (by simp; omega) _

/-- Stands a string ahead of the first n bytes of another one? -/
def cutP (a b : ByteArray) (n : Nat) : Bool := Op.bytesLess a.toList (b.extract 0 n).toList
/-- What 'Cut' tells. -/
def CutPost (a b : ByteArray) (en : Ending) : Prop :=
  (∃ n, 1 ≤ n ∧ n ≤ b.size ∧ cutP a b n = true ∧ (∀ j, 1 ≤ j → j < n → cutP a b j = false) ∧ en = .returned (.tuple #[.string (b.extract 0 n), .int .i64 0])) ∨
  ((∀ j, 1 ≤ j → j ≤ b.size → cutP a b j = false) ∧ en = .returned (.tuple #[.string ⟨#[]⟩, .int .i64 30]))

set_option maxHeartbeats 400000 in
theorem cut_any (a b : ByteArray) (w : World) (hb : b.size ≤ 1000000) :
    Calls Tryd.prog 31 #[.string a, .string b] w fun en w' => CutPost a b en ∧ w = w' := by
  go_enter Tryd.func31, Tryd.ntmps31
  go_wp2
  go_loop [9] (fun i => ∃ k : Nat, k ≤ b.size ∧ i = .int .i64 k ∧ ∀ j, 1 ≤ j → j ≤ k → cutP a b j = false) (fun i => b.size - (intOf i).toNat)
  case atStart => exact ⟨0, Nat.zero_le _, rfl, fun j h1 h2 => by omega⟩
  case round =>
    obtain ⟨k, hk, rfl, hall⟩ := hrel
    by_cases hlt : k < b.size
    · by_cases hp : Op.bytesLess a.toList (b.extract 0 (k + 1)).toList = true
      · have H := Lib.hid hall; clear hall
        go_wp2
        go_ret2
        exact ⟨.inl ⟨k + 1, by omega, by omega, hp, fun j h1 h2 => H.out j h1 (by omega), rfl⟩, rfl⟩
      · have H := Lib.hid hall; clear hall
        go_wp2
        go_round
        case rel => exact ⟨k + 1, by omega, by go_num, fun j h1 h2 => by
          rcases Nat.lt_or_ge j (k + 1) with h | h
          · exact H.out j h1 (by omega)
          · obtain rfl : j = k + 1 := by omega
            simpa [cutP] using hp⟩
        case measure => simp [intOf]; omega
    · have H := Lib.hid hall; clear hall
      go_wp2
      go_ret2
      exact ⟨.inr ⟨fun j h1 h2 => H.out j h1 (by omega), rfl⟩, rfl⟩

end Go.Proofs.YtapglfnjoppjiaaDoor
