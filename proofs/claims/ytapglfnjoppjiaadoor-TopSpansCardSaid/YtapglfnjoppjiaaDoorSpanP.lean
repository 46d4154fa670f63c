/- The order of strings, and the plain law of ranges over the 40 keys. No program is walked here. -/
import Derived.Test.YtapglfnjoppjiaaDoorSpanR
namespace Go.Proofs.YtapglfnjoppjiaaDoor
open Go.RowKit

/-! The order of strings. -/
abbrev bl (a b : List UInt8) : Bool := Op.bytesLess a b
theorem bl_irrefl (a : List UInt8) : bl a a = false := by
  induction a with
  | nil => rfl
  | cons x a ih => simp [bl, Op.bytesLess] at *; exact ih
theorem bl_trans {a b c : List UInt8} (h : bl a b = true) (k : bl b c = true) : bl a c = true := by
  induction a generalizing b c with
  | nil =>
    cases c with
    | nil => cases b <;> simp [bl, Op.bytesLess] at k
    | cons z c => rfl
  | cons x a ih =>
    cases b with
    | nil => simp [bl, Op.bytesLess] at h
    | cons y b =>
      cases c with
      | nil => simp [bl, Op.bytesLess] at k
      | cons z c =>
        simp only [bl, Op.bytesLess, Bool.or_eq_true, decide_eq_true_eq, Bool.and_eq_true, beq_iff_eq] at *
        rcases h with h | ⟨rfl, h⟩
        · rcases k with k | ⟨rfl, k⟩
          · exact .inl (UInt8.lt_trans h k)
          · exact .inl h
        · rcases k with k | ⟨rfl, k⟩
          · exact .inl k
          · exact .inr ⟨rfl, ih h k⟩
theorem bl_total {a b : List UInt8} (h : bl a b = false) (k : bl b a = false) : a = b := by
  have := leq_of a b
  simp only [bl] at h k
  rw [h, k] at this
  simpa using this
theorem bl_asymm {a b : List UInt8} (h : bl a b = true) : bl b a = false := by
  cases k : bl b a with
  | false => rfl
  | true => have := bl_trans h k; rw [bl_irrefl] at this; cases this
theorem bl_le_trans {a b c : List UInt8} (h : bl b a = false) (k : bl c b = false) : bl c a = false := by
  cases e : bl c a with
  | false => rfl
  | true =>
    cases f : bl a b with
    | true => have := bl_trans e f; rw [this] at k; cases k
    | false => have := bl_total h f; subst this; rw [e] at k; cases k

/-- How many of some are ahead of one. -/
def rank (S : List (List UInt8)) (y : List UInt8) : Nat := S.countP (fun s => bl s y)
theorem rank_le {S : List (List UInt8)} {y z : List UInt8} (h : bl z y = false) : rank S y ≤ rank S z := by
  refine List.countP_mono_left fun s _ hs => ?_
  cases e : bl s z with
  | true => rfl
  | false => have := bl_le_trans h e; rw [this] at hs; cases hs
theorem rank_lt {S : List (List UInt8)} {y z : List UInt8} (hy : y ∈ S) (h : bl y z = true) : rank S y < rank S z := by
  induction S with
  | nil => cases hy
  | cons s S ih =>
    simp only [rank, List.countP_cons]
    have hle : List.countP (fun s => bl s y) S ≤ List.countP (fun s => bl s z) S := rank_le (S := S) (bl_asymm h)
    rcases List.mem_cons.1 hy with rfl | hy'
    · rw [bl_irrefl, h]; simp; omega
    · have := ih hy'
      simp only [rank] at this
      by_cases e : bl s y = true
      · rw [e, bl_trans e h]; omega
      · rw [if_neg e]; split <;> omega
theorem bl_rank {S : List (List UInt8)} {y z : List UInt8} (hy : y ∈ S) : bl y z = decide (rank S y < rank S z) := by
  cases h : bl y z with
  | true => simp [rank_lt hy h]
  | false => have := rank_le (S := S) h; simp; omega

theorem right_eq {t f : List UInt8} {e : Bool} (h : e = false → t = []) : rightB (bs f) (bs t) e = righT (bs f) (bs t) e := by
  cases e
  · rw [h rfl]; simp [rightB, righT, bs_toList]
  · simp [rightB, righT]
theorem has_eq {t f x : List UInt8} {e : Bool} (h : e = false → t = []) : (rightB (bs f) (bs t) e && hasB (bs f) (bs t) (bs x) e) = hasT (bs f) (bs t) (bs x) e := by
  rw [right_eq h]
  cases e <;> simp [hasB, hasT, overB, righT, Bool.and_assoc]
theorem meets_eq {fa ta fb tb : List UInt8} {ea eb : Bool} (ha : ea = false → ta = []) (hb : eb = false → tb = []) :
    meetsB (bs fa) (bs ta) ea (bs fb) (bs tb) eb = (hasT (bs fa) (bs ta) (bs fb) ea && righT (bs fb) (bs tb) eb || hasT (bs fb) (bs tb) (bs fa) eb && righT (bs fa) (bs ta) ea) := by
  unfold meetsB
  rw [← has_eq ha, ← has_eq hb, right_eq ha, right_eq hb]
  cases righT (bs fa) (bs ta) ea <;> cases righT (bs fb) (bs tb) eb <;> simp

theorem both_has {fa ta fb tb x : List UInt8} {ea eb : Bool} (hta : ea = false → ta = []) (htb : eb = false → tb = []) {bF bT : ByteArray} {bE : Bool}
    (hB : bothV (bs fa) (bs ta) ea (bs fb) (bs tb) eb = rgV bF bT bE) (hc : (hasT (bs fa) (bs ta) (bs fb) ea && righT (bs fb) (bs tb) eb || hasT (bs fb) (bs tb) (bs fa) eb && righT (bs fa) (bs ta) ea) = true) :
    (rightB bF bT bE && hasB bF bT (bs x) bE) = (hasT (bs fa) (bs ta) (bs x) ea && hasT (bs fb) (bs tb) (bs x) eb) := by
  have R : ∀ y ∈ [fa, ta, fb, tb, x], ∀ z, Op.bytesLess y z = decide (rank [fa, ta, fb, tb, x] y < rank [fa, ta, fb, tb, x] z) := fun y hy z => bl_rank hy
  have R1 := R fa (by simp); have R3 := R fb (by simp); have R4 := R tb (by simp); have R5 := R x (by simp)
  clear R
  simp only [bothV, rgV, Value.agg.injEq, Array.mk.injEq, List.cons.injEq, Value.string.injEq, Value.bool.injEq, and_true] at hB
  obtain ⟨rfl, rfl, rfl⟩ := hB
  have m1 : (maxS (bs fa) (bs fb)) = if decide (rank [fa, ta, fb, tb, x] fa < rank [fa, ta, fb, tb, x] fb) then bs fb else bs fa := by simp only [maxS, bs_toList, R1]
  have m2 : (minS (bs ta) (bs tb)) = if decide (rank [fa, ta, fb, tb, x] tb < rank [fa, ta, fb, tb, x] ta) then bs tb else bs ta := by simp only [minS, bs_toList, R4]
  rw [m1, m2]
  have he : ByteArray.toList ⟨#[]⟩ = [] := ByteArray.toList_eq _
  by_cases g1 : rank [fa, ta, fb, tb, x] fa < rank [fa, ta, fb, tb, x] fb <;> by_cases g2 : rank [fa, ta, fb, tb, x] tb < rank [fa, ta, fb, tb, x] ta <;> cases ea <;> cases eb
  all_goals simp only [g1, g2, hasT, righT, rightB, hasB, overB, bs_toList, he, R1, R3, R5, decide_true, decide_false, Bool.not_not, Bool.or_false, Bool.or_true, Bool.false_or, Bool.true_or, Bool.not_false, Bool.not_true, Bool.and_true, Bool.true_and, Bool.false_and, Bool.false_eq_true, if_true, if_false, List.isEmpty_nil] at hc ⊢
  all_goals generalize rank [fa, ta, fb, tb, x] fa = n1 at *
  all_goals generalize rank [fa, ta, fb, tb, x] ta = n2 at *
  all_goals generalize rank [fa, ta, fb, tb, x] fb = n3 at *
  all_goals generalize rank [fa, ta, fb, tb, x] tb = n4 at *
  all_goals generalize rank [fa, ta, fb, tb, x] x = n5 at *
  all_goals clear R1 R3 R4 R5 m1 m2
  all_goals rw [Bool.eq_iff_iff]
  all_goals simp only [Bool.and_eq_true, Bool.or_eq_true, Bool.not_eq_true', decide_eq_true_eq, decide_eq_false_iff_not] at *
  all_goals omega

theorem keyL_bb : ∀ k ∈ keyL, bl k [98, 98, 98, 98] = true := by decide +kernel
theorem keyL_len : ∀ k ∈ keyL, k.length ≤ 3 := by decide
theorem within_eq {ks : List (List UInt8)} {fa ta fb tb : List UInt8} {ea eb : Bool} (hfa : fa ∈ ks) (hta' : ea = false → ta = []) (htb : eb = true → tb ∈ ks) (htb' : eb = false → tb = [])
    (hM : ∀ k, k ∈ ks ↔ k ∈ keyL) :
    withinB (bs fa) (bs ta) ea (bs fb) (bs tb) eb = ((righT (bs fa) (bs ta) ea && righT (bs fb) (bs tb) eb) && (ks ++ [[98, 98, 98, 98]]).all fun x => !hasT (bs fa) (bs ta) (bs x) ea || hasT (bs fb) (bs tb) (bs x) eb) := by
  unfold withinB
  rw [right_eq hta', right_eq htb']
  cases hra : righT (bs fa) (bs ta) ea
  · simp
  cases hrb : righT (bs fb) (bs tb) eb
  · simp
  have k1 := keyL_bb fa ((hM _).1 hfa)
  have ra : ea = true → bl fa ta = true := by intro h; subst h; simpa [righT, bs_toList] using hra
  have rb : eb = true → bl fb tb = true := by intro h; subst h; simpa [righT, bs_toList] using hrb
  have hA : ∀ x, hasT (bs fa) (bs ta) (bs x) ea = (!(bl x fa) && (!ea || bl x ta)) := fun x => by unfold hasT; rw [hra]; simp [bs_toList]
  have hB : ∀ x, hasT (bs fb) (bs tb) (bs x) eb = (!(bl x fb) && (!eb || bl x tb)) := fun x => by unfold hasT; rw [hrb]; simp [bs_toList]
  simp only [hA, hB, bs_toList, Bool.true_and]
  rw [Bool.eq_iff_iff, List.all_eq_true]
  constructor
  · intro h x _
    simp only [Bool.and_eq_true, Bool.not_eq_true', Bool.or_eq_true] at h ⊢
    obtain ⟨h1, h2⟩ := h
    by_cases e : (!(bl x fa) && (!ea || bl x ta)) = true
    · right
      simp only [Bool.and_eq_true, Bool.not_eq_true', Bool.or_eq_true] at e
      refine ⟨bl_le_trans h1 e.1, ?_⟩
      rcases h2 with h2 | ⟨h2, h3⟩
      · exact .inl h2
      · rcases e.2 with e2 | e2
        · rw [h2] at e2; cases e2
        · right
          cases f : bl x tb with
          | true => rfl
          | false => have := bl_le_trans (a := ta) (b := tb) (c := x) h3 f; rw [e2] at this; cases this
    · left; simpa using e
  · intro h
    have h1 := h fa (by simp [hfa])
    simp only [bl_irrefl, Bool.not_false, Bool.true_and] at h1
    have hx : (!ea || bl fa ta) = true := by cases ea <;> simp_all
    rw [hx] at h1
    simp only [Bool.not_true, Bool.false_or, Bool.and_eq_true, Bool.not_eq_true'] at h1
    simp only [Bool.and_eq_true, Bool.not_eq_true', Bool.or_eq_true]
    refine ⟨h1.1, ?_⟩
    cases eb with
    | false => exact .inl rfl
    | true =>
      right
      have htk := htb rfl
      have k2 := keyL_bb tb ((hM _).1 htk)
      cases ea with
      | false =>
        have h2 := h [98, 98, 98, 98] (by simp)
        simp only [bl_asymm k1, bl_asymm k2] at h2
        simp at h2
      | true =>
        refine ⟨rfl, ?_⟩
        cases f : bl tb ta with
        | false => exact f
        | true =>
          have h2 := h tb (by simp [htk])
          have h3 : bl fa tb = true := by simpa using h1.2
          simp only [bl_asymm h3, f, bl_irrefl] at h2
          simp at h2

theorem bl_append {a p : List UInt8} (s : List UInt8) (h : bl a p = true) : bl a (p ++ s) = true := by
  induction a generalizing p with
  | nil => cases p <;> simp_all [bl, Op.bytesLess]
  | cons x a ih =>
    cases p with
    | nil => simp [bl, Op.bytesLess] at h
    | cons y p =>
      simp only [bl, Op.bytesLess, Bool.or_eq_true, decide_eq_true_eq, Bool.and_eq_true, beq_iff_eq, List.cons_append] at *
      rcases h with h | ⟨rfl, h⟩
      · exact .inl h
      · exact .inr ⟨rfl, ih h⟩
theorem cutP_mono {a b : ByteArray} {n m : Nat} (h : cutP a b n = true) (hnm : n ≤ m) : cutP a b m = true := by
  unfold cutP at *
  rw [Lib.extract_toList] at *
  simp only [List.drop_zero, Nat.sub_zero] at *
  have e : b.data.toList.take m = b.data.toList.take n ++ (b.data.toList.drop n).take (m - n) := by
    rw [← List.take_add]; congr 1; omega
  rw [e]; exact bl_append _ h
theorem cutP_all {a b : ByteArray} : cutP a b b.size = Op.bytesLess a.toList b.toList := by
  unfold cutP
  congr 1
  rw [Lib.extract_toList, Lib.toList_data]
  simp only [List.drop_zero, Nat.sub_zero]
  exact List.take_of_length_le (by rw [Lib.size_eq]; exact Nat.le_refl _)
theorem cut_ge {a b : ByteArray} {en : Ending} (h : Op.bytesLess a.toList b.toList = false) (hp : CutPost a b en) : en = .returned (.tuple #[.string ⟨#[]⟩, .int .i64 30]) := by
  rcases hp with ⟨n, _, hn2, hn3, _⟩ | ⟨_, hen⟩
  · have := cutP_mono hn3 hn2
    rw [cutP_all, h] at this; cases this
  · exact hen
theorem cut_lt {a b : ByteArray} {en : Ending} (h : Op.bytesLess a.toList b.toList = true) (hp : CutPost a b en) :
    ∃ n, 1 ≤ n ∧ n ≤ b.size ∧ (∀ j, n ≤ j → j ≤ b.size → cutP a b j = true) ∧ (∀ j, 1 ≤ j → j < n → cutP a b j = false) ∧ en = .returned (.tuple #[.string (b.extract 0 n), .int .i64 0]) := by
  rcases hp with ⟨n, hn1, hn2, hn3, hn4, hen⟩ | ⟨hall, _⟩
  · exact ⟨n, hn1, hn2, fun j hj _ => cutP_mono hn3 hj, hn4, hen⟩
  · have h0 : 1 ≤ b.size := by
      rcases Nat.eq_zero_or_pos b.size with e | e
      · have hl : b.toList = [] := by
          rw [Lib.toList_data]; exact List.eq_nil_of_length_eq_zero (by rw [← Lib.size_eq]; exact e)
        rw [hl] at h
        cases ha : a.toList <;> rw [ha] at h <;> simp [Op.bytesLess] at h
      · exact e
    have := hall b.size h0 (Nat.le_refl _)
    rw [cutP_all, h] at this; cases this

/-- The range of one key. -/
theorem point_has (x : List UInt8) : (rightB (bs x) (bs x ++ ⟨#[0]⟩) true && hasB (bs x) (bs x ++ ⟨#[0]⟩) (bs x) true) = true := by
  have h : Op.bytesLess x (x ++ [0]) = true := by
    induction x with
    | nil => rfl
    | cons y x ih => simp [Op.bytesLess, ih]
  rw [bs_push]
  simp only [rightB, hasB, overB, bs_toList, if_true, h]
  have := bl_irrefl x
  simp only [bl] at this
  rw [this]; rfl
theorem point_has_not (x : List UInt8) : (rightB (bs x) (bs x ++ ⟨#[0]⟩) true && hasB (bs x) (bs x ++ ⟨#[0]⟩) (bs x ++ ⟨#[0]⟩) true) = false := by
  rw [bs_push]
  have := bl_irrefl (x ++ [0])
  simp only [bl] at this
  simp [rightB, hasB, overB, bs_toList, this]

end Go.Proofs.YtapglfnjoppjiaaDoor
