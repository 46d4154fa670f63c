/- The walk of TopSpans: it returns true from every two integers, where the table of crc lies as the row lists it. -/
import Derived.Test.YtapglfnjoppjiaaDoorSpanP
import Derived.Deep.DeepCutAuto
import Derived.Deep.LoopGhost
import Derived.Laws.EntriesVeiled
namespace Go.Proofs.YtapglfnjoppjiaaDoor
open Go.RowKit
attribute [local go_sem ↓] Go.wp_at_zero Go.wp_at_succ

theorem cell_grow {W w1 : World} {b o : Nat} {v : Value} (h : W.cell? ⟨b, o, none⟩ = some v) (hb : Below W.heap.size W w1) : w1.cell? ⟨b, o, none⟩ = some v :=
  (hb.cell (p := ⟨b, o, none⟩) (World.block_lt_of_cell? W _ h)).trans h

/-- What the statement's memory holds while it goes on: the keys, both ranges, the function that asks whether a range is right, what both have. -/
structure SpW (w0 : World) (g A C : Nat) (ks : List (List UInt8)) (fa ta : List UInt8) (ea : Bool) (fb tb : List UInt8) (eb : Bool) (bF bT : ByteArray) (bE : Bool) (wr : World) : Prop where
  below : Below w0.heap.size w0 wr
  keys : Keys40 wr g ks
  a : Blk wr A 51 [.string (bs fa), .string (bs ta), .bool ea]
  b : Blk wr (A + 1) 51 [.string (bs fb), .string (bs tb), .bool eb]
  r : Blk wr (A + 1 + 1) 53 [.func (.func 26) #[] #[]]
  both : Blk wr C 51 [.string bF, .string bT, .bool bE]
section
variable {w0 : World} {g A C : Nat} {ks : List (List UInt8)} {fa ta : List UInt8} {ea : Bool} {fb tb : List UInt8} {eb : Bool} {bF bT : ByteArray} {bE : Bool} {wr w1 : World}
theorem SpW.grow (h : SpW w0 g A C ks fa ta ea fb tb eb bF bT bE wr) (hb : Below wr.heap.size wr w1) : SpW w0 g A C ks fa ta ea fb tb eb bF bT bE w1 :=
  ⟨lstep h.below hb (Nat.le_refl _), h.keys.grow hb, h.a.grow hb, h.b.grow hb, h.r.grow hb, h.both.grow hb⟩
theorem SpW.drew (h : SpW w0 g A C ks fa ta ea fb tb eb bF bT bE wr) : SpW w0 g A C ks fa ta ea fb tb eb bF bT bE wr.drew := h.grow ((Below.refl _ _).drew)
theorem SpW.rlt (h : SpW w0 g A C ks fa ta ea fb tb eb bF bT bE wr) : A + 1 + 1 < wr.heap.size := h.r.lt
theorem SpW.cells (h : SpW w0 g A C ks fa ta ea fb tb eb bF bT bE wr) :
    wr.cell? ⟨A, 0, none⟩ = some (.string (bs fa)) ∧ wr.cell? ⟨A, 1, none⟩ = some (.string (bs ta)) ∧ wr.cell? ⟨A, 2, none⟩ = some (.bool ea) ∧
    wr.cell? ⟨A + 1, 0, none⟩ = some (.string (bs fb)) ∧ wr.cell? ⟨A + 1, 1, none⟩ = some (.string (bs tb)) ∧ wr.cell? ⟨A + 1, 2, none⟩ = some (.bool eb) ∧
    wr.cell? ⟨A + 1 + 1, 0, none⟩ = some (.func (.func 26) #[] #[]) ∧ SpW w0 g A C ks fa ta ea fb tb eb bF bT bE wr :=
  ⟨h.a.cell 0, h.a.cell 1, h.a.cell 2, h.b.cell 0, h.b.cell 1, h.b.cell 2, h.r.cell 0, h⟩
end

theorem trig_in {I : World → Prop} (hI : ∀ w w', I w → Below w.heap.size w w' → I w') (f t : ByteArray) (e v : Bool) (hv : righT f t e = v) (p : InW I) :
    Calls Tryd.prog 26 #[rgV f t e] p.w fun en w'' => en = .returned (.bool v) ∧ ∃ q : InW I, w'' = q.w := calls_in hI (by have := trig_any f t e p.w; rw [hv] at this; exact this)
theorem thas_in {I : World → Prop} (hI : ∀ w w', I w → Below w.heap.size w w' → I w') {b : Nat} (hb : ∀ {w}, I w → b < w.heap.size) (hc : ∀ {w}, I w → w.cell? ⟨b, 0, none⟩ = some (.func (.func 26) #[] #[]))
    (f t k : ByteArray) (e v : Bool) (hv : hasT f t k e = v) (p : InW I) :
    Calls Tryd.prog 27 #[rgV f t e, .string k, .pointer (some ⟨b, 0, none⟩)] p.w fun en w'' => en = .returned (.bool v) ∧ ∃ q : InW I, w'' = q.w :=
  calls_in hI (by have := thas_any f t k e b p.w (hc p.h) (hb p.h); rw [hv] at this; exact this)
theorem has_in {I : World → Prop} (hI : ∀ w w', I w → Below w.heap.size w w' → I w') (f t k : ByteArray) (e v : Bool) (hf : f.size ≤ 513) (ht : t.size ≤ 513) (hv : (rightB f t e && hasB f t k e) = v) (p : InW I) :
    Calls Tryd.prog 29 #[rgV f t e, .string k] p.w fun en w'' => en = .returned (.bool v) ∧ ∃ q : InW I, w'' = q.w := calls_in hI (by have := has_any f t k e p.w hf ht; rw [hv] at this; exact this)
theorem cells_in {I : World → Prop} {w0 : World} {g A C : Nat} {ks : List (List UInt8)} {fa ta : List UInt8} {ea : Bool} {fb tb : List UInt8} {eb : Bool} {bF bT : ByteArray} {bE : Bool} (hI : ∀ {w'}, I w' → SpW w0 g A C ks fa ta ea fb tb eb bF bT bE w') :
    (∀ p : InW I, p.w.cell? ⟨A, 0, none⟩ = some (.string (bs fa))) ∧ (∀ p : InW I, p.w.cell? ⟨A, 1, none⟩ = some (.string (bs ta))) ∧
    (∀ p : InW I, p.w.cell? ⟨A, 2, none⟩ = some (.bool ea)) ∧
    (∀ p : InW I, p.w.cell? ⟨A + 1, 0, none⟩ = some (.string (bs fb))) ∧ (∀ p : InW I, p.w.cell? ⟨A + 1, 1, none⟩ = some (.string (bs tb))) ∧
    (∀ p : InW I, p.w.cell? ⟨A + 1, 2, none⟩ = some (.bool eb)) ∧
    (∀ p : InW I, p.w.cell? ⟨A + 1 + 1, 0, none⟩ = some (.func (.func 26) #[] #[])) ∧
    (∀ p : InW I, p.w.cell? ⟨C, 0, none⟩ = some (.string bF)) ∧ (∀ p : InW I, p.w.cell? ⟨C, 1, none⟩ = some (.string bT)) ∧
    (∀ p : InW I, p.w.cell? ⟨C, 2, none⟩ = some (.bool bE)) :=
  ⟨fun p => (hI p.h).a.cell 0, fun p => (hI p.h).a.cell 1, fun p => (hI p.h).a.cell 2, fun p => (hI p.h).b.cell 0, fun p => (hI p.h).b.cell 1, fun p => (hI p.h).b.cell 2, fun p => (hI p.h).r.cell 0,
    fun p => (hI p.h).both.cell 0, fun p => (hI p.h).both.cell 1, fun p => (hI p.h).both.cell 2⟩

/-- A row of keys. -/
def KeysAt (w : World) (h : Nat) (L : List (List UInt8)) : Prop := h < w.heap.size ∧ ∀ j, j < L.length → w.cell? ⟨h, j, none⟩ = some (.string (bs (L.getD j [])))
theorem KeysAt.grow {w w' : World} {g : Nat} {ks : List (List UInt8)} (h : KeysAt w g ks) (hb : Below w.heap.size w w') : KeysAt w' g ks :=
  ⟨Nat.lt_of_lt_of_le h.1 hb.size, fun j hj => (hb.cell (p := ⟨g, j, none⟩) h.1).trans (h.2 j hj)⟩
/-- The same, with the keys that the loop goes over. -/
structure SpL (w0 : World) (g A C : Nat) (ks : List (List UInt8)) (fa ta : List UInt8) (ea : Bool) (fb tb : List UInt8) (eb : Bool) (bF bT : ByteArray) (bE : Bool) (h : Nat) (L : List (List UInt8)) (wr : World) : Prop where
  sp : SpW w0 g A C ks fa ta ea fb tb eb bF bT bE wr
  l : KeysAt wr h L
theorem SpL.grow {w0 : World} {g A C : Nat} {ks : List (List UInt8)} {fa ta : List UInt8} {ea : Bool} {fb tb : List UInt8} {eb : Bool} {bF bT : ByteArray} {bE : Bool} {h : Nat} {L : List (List UInt8)} {wr w1 : World}
    (hS : SpL w0 g A C ks fa ta ea fb tb eb bF bT bE h L wr) (hb : Below wr.heap.size wr w1) : SpL w0 g A C ks fa ta ea fb tb eb bF bT bE h L w1 := ⟨hS.sp.grow hb, hS.l.grow hb⟩

theorem keys40_of {w : World} {base g cap : Nat} {ks : List (List UInt8)} (hown : w.ownsRow base 9 1 (.slice (some ⟨g, 0, none⟩) 40 cap) 40 (ks.map sv)) (hl : ks.length = 40) : 40 ≤ cap ∧ Keys40 w g ks := by
  obtain ⟨g', cap', e, _, h1, h2, h3⟩ := own_form hown (by omega)
  injection e with e1 _ e3
  injection e1 with e1
  injection e1 with e1
  subst e1; subst e3
  refine ⟨h2, hl, h1, fun j hj => ?_⟩
  rw [h3 j (by omega), List.getElem?_map, List.getD_eq_getElem?_getD, List.getElem?_eq_getElem (by omega)]; rfl
theorem both_size {fa ta fb tb : ByteArray} {ea eb : Bool} {bF bT : ByteArray} {bE : Bool} (h : (if meetsB fa ta ea fb tb eb = true then bothV fa ta ea fb tb eb else noRange) = rgV bF bT bE)
    (s1 : fa.size ≤ 513) (s2 : ta.size ≤ 513) (s3 : fb.size ≤ 513) (s4 : tb.size ≤ 513) : bF.size ≤ 513 ∧ bT.size ≤ 513 := by
  have e0 : ByteArray.size ⟨#[]⟩ ≤ 513 := by decide
  split at h
  · simp only [bothV, rgV, Value.agg.injEq, Array.mk.injEq, List.cons.injEq, Value.string.injEq, Value.bool.injEq, and_true] at h
    obtain ⟨rfl, rfl, rfl⟩ := h
    refine ⟨by unfold maxS; split <;> assumption, ?_⟩
    unfold minS
    repeat' split
    all_goals assumption
  · simp only [noRange, rgV, Value.agg.injEq, Array.mk.injEq, List.cons.injEq, Value.string.injEq, Value.bool.injEq, and_true] at h
    obtain ⟨rfl, rfl, rfl⟩ := h
    exact ⟨e0, e0⟩
theorem bs_size (x : List UInt8) : (bs x).size = x.length := rfl
theorem key_size {ks L : List (List UInt8)} {x : List UInt8} {k : Nat} (hs : ∀ k, k ∈ ks → (bs k).size ≤ 3) (hx : x = L.getD k []) (hL : L = ks ++ [[98, 98, 98, 98]]) : (bs x).size ≤ 4 := by
  subst hx
  rw [List.getD_eq_getElem?_getD]
  cases h : L[k]? with
  | none => decide
  | some y =>
    have hm := List.mem_of_getElem? h
    rw [hL] at hm
    rcases List.mem_append.1 hm with hm | hm
    · exact Nat.le_trans (hs y hm) (by decide)
    · simp at hm; subst hm; decide
def dueS (b : ByteArray) (m : Nat) : ByteArray := if m = b.size then ⟨#[]⟩ else b.extract 0 (m + 1)
theorem dueS_pred {b : ByteArray} {m : Nat} (h : 0 < m ∧ m ≤ b.size) : dueS b (m - 1) = b.extract 0 m := by
  unfold dueS; rw [if_neg (by omega)]; congr 1; omega
theorem below_drewN (w : World) (n : Nat) : Below w.heap.size w (w.drewN n) := ⟨rfl, rfl, rfl, Nat.le_refl _, fun _ _ => rfl⟩
theorem within_step {wi0 wi va vb : Bool} {L : List (List UInt8)} {k : Nat} {x : List UInt8} {p q : List UInt8 → Bool} (h : wi = (wi0 && (L.take k).all fun x => !p x || q x)) (hva : va = p x) (hvb : vb = q x) (hx : x = L.getD k []) (hk : k < L.length) :
    (wi && (!va || vb)) = (wi0 && (L.take (k + 1)).all fun x => !p x || q x) := by
  rw [List.take_succ_eq_append_getElem hk, List.all_append, ← Bool.and_assoc, ← h, hva, hvb, hx]
  simp [List.getD_eq_getElem?_getD, List.getElem?_eq_getElem hk]

theorem right_in {I : World → Prop} (hI : ∀ w w', I w → Below w.heap.size w w' → I w') (f t : ByteArray) (e v : Bool) (hf : f.size ≤ 513) (ht : t.size ≤ 513) (hv : rightB f t e = v) (p : InW I) :
    Calls Tryd.prog 32 #[rgV f t e] p.w fun en w'' => en = .returned (.bool v) ∧ ∃ q : InW I, w'' = q.w := calls_in hI (by have := right_any f t e p.w hf ht; rw [hv] at this; exact this)
theorem meets_in {I : World → Prop} (hI : ∀ w w', I w → Below w.heap.size w w' → I w') (f t : ByteArray) (e : Bool) (f' t' : ByteArray) (e' v : Bool) (hf : f.size ≤ 513) (ht : t.size ≤ 513) (hf' : f'.size ≤ 513) (ht' : t'.size ≤ 513) (hv : meetsB f t e f' t' e' = v) (p : InW I) :
    Calls Tryd.prog 33 #[rgV f t e, rgV f' t' e'] p.w fun en w'' => en = .returned (.bool v) ∧ ∃ q : InW I, w'' = q.w := calls_in hI (by have := meets_any f t e f' t' e' p.w hf ht hf' ht'; rw [hv] at this; exact this)
theorem within_in {I : World → Prop} (hI : ∀ w w', I w → Below w.heap.size w w' → I w') (f t : ByteArray) (e : Bool) (f' t' : ByteArray) (e' v : Bool) (hf : f.size ≤ 513) (ht : t.size ≤ 513) (hf' : f'.size ≤ 513) (ht' : t'.size ≤ 513) (hv : withinB f t e f' t' e' = v) (p : InW I) :
    Calls Tryd.prog 34 #[rgV f t e, rgV f' t' e'] p.w fun en w'' => en = .returned (.bool v) ∧ ∃ q : InW I, w'' = q.w := calls_in hI (by have := within_any f t e f' t' e' p.w hf ht hf' ht'; rw [hv] at this; exact this)
theorem awake_in {I : World → Prop} (hI : ∀ w w', I w → Below w.heap.size w w' → I w') (hT : ∀ {w}, I w → TabOk w) (h0 : ∀ {w}, I w → 0 < w.heap.size) (p : InW I) :
    Calls Tryd.prog 23 #[] p.w fun en w'' => en = .returned (.bool true) ∧ ∃ q : InW I, w'' = q.w := calls_in hI (awake_any p.w (hT p.h) (h0 p.h))

set_option maxHeartbeats 20000000 in
set_option maxRecDepth 1000000 in
theorem spans_walk (one other : Int) (w : World) (hT : TabOk w) (h0 : 0 < w.heap.size) :
    Calls Tryd.prog 4 #[.int .i64 one, .int .i64 other] w fun en w' => en = .returned (.bool true) ∧ Below w.heap.size w w' := by
  have HT := Lib.hid hT; clear hT
  go_enter Tryd.func4, Tryd.ntmps4
  go_wp2_with fail
  refine (keys_any w).mono ?_
  rintro en w1 ⟨g, cap, ks, rfl, hown, hlen, hmem, hL⟩
  obtain ⟨hcap, hK⟩ := keys40_of hown hlen
  have HK := Lib.hid hK; have HM := Lib.hid hmem; clear hK hown hmem hlen
  go_wp2_with fail
  refine (range_any g cap ks one _ HK.out hcap).mono ?_
  rintro en w2 ⟨⟨fa, ta, ea, hfa, hta, hta', rfl⟩, hb⟩
  replace HK := Lib.hid (HK.out.grow hb)
  replace hL := lstep hL hb (Nat.le_refl _)
  clear hb
  go_wp2_with fail
  refine (range_any g cap ks other _ HK.out hcap).mono ?_
  rintro en w3 ⟨⟨fb, tb, eb, hfb, htb, htb', rfl⟩, hb⟩
  replace HK := Lib.hid (HK.out.grow hb)
  replace hL := lstep hL hb (Nat.le_refl _)
  clear hb
  go_wp2_with fail
  have hsz : ∀ k, k ∈ ks → (bs k).size ≤ 3 := fun k hk => keyL_len k ((HM.out k).1 hk)
  have s1 : (bs fa).size ≤ 513 := Nat.le_trans (hsz fa hfa) (by decide)
  have s2 : (bs ta).size ≤ 513 := by
    cases ea with
    | true => exact Nat.le_trans (hsz ta (hta rfl)) (by decide)
    | false => rw [hta' rfl]; decide
  have s3 : (bs fb).size ≤ 513 := Nat.le_trans (hsz fb hfb) (by decide)
  have s4 : (bs tb).size ≤ 513 := by
    cases eb with
    | true => exact Nat.le_trans (hsz tb (htb rfl)) (by decide)
    | false => rw [htb' rfl]; decide
  have HS := Lib.hid hsz; clear hsz
  refine (both_any _ _ _ _ _ _ _ s1 s2 s3 s4).mono ?_
  rintro en w4 ⟨rfl, hb⟩
  have A1 : Blk w4 w3.heap.size 51 [.string (bs fa), .string (bs ta), .bool ea] := Blk.grow (by exact Blk.alloc (Blk.alloc (Blk.newAt rfl) _) _) hb
  have B1 : Blk w4 (w3.heap.size + 1) 51 [.string (bs fb), .string (bs tb), .bool eb] := Blk.grow (by exact Blk.alloc (Blk.newAt (by simp)) _) hb
  have R1 : Blk w4 (w3.heap.size + 1 + 1) 53 [.func (.func 26) #[] #[]] := Blk.grow (by exact Blk.newAt (by simp)) hb
  replace HK := Lib.hid (((((HK.out.grow ((Below.refl _ _).alloc (Nat.le_refl _) _)).grow ((Below.refl _ _).alloc (Nat.le_refl _) _)).grow ((Below.refl _ _).alloc (Nat.le_refl _) _))).grow hb)
  replace hL := lstep (((hL.alloc hL.size _).alloc (by have := hL.size; simp; omega) _).alloc (by have := hL.size; simp; omega) _) hb (Nat.le_refl _)
  clear hb
  obtain ⟨bF, bT, bE, hboth⟩ : ∃ (bF bT : ByteArray) (bE : Bool), (if meetsB (bs fa) (bs ta) ea (bs fb) (bs tb) eb = true then bothV (bs fa) (bs ta) ea (bs fb) (bs tb) eb else noRange) = rgV bF bT bE := by
    split <;> exact ⟨_, _, _, rfl⟩
  rw [hboth]
  have HB := Lib.hid hboth; clear hboth
  obtain ⟨meets, hmeets⟩ : ∃ v, v = meetsB (bs fa) (bs ta) ea (bs fb) (bs tb) eb := ⟨_, rfl⟩
  rw [← hmeets]
  have HMt := Lib.hid hmeets; clear hmeets
  generalize w3.heap.size = A at *
  have hA : A + 1 + 1 < w4.heap.size := R1.lt
  have hP : SpW w g A w4.heap.size ks fa ta ea fb tb eb bF bT bE (w4.alloc (.cells #[.string bF, .string bT, .bool bE] 51)) :=
    ⟨hL.alloc hL.size _, HK.out.grow ((Below.refl _ _).alloc (Nat.le_refl _) _), A1.alloc _, B1.alloc _, R1.alloc _, Blk.newAt rfl⟩
  clear A1 B1 R1 hL HK
  go_upto_region 6 with fail
  generalize w4.alloc (.cells #[.string bF, .string bT, .bool bE] 51) = w5 at *
  generalize w4.heap.size = C at *
  go_cut [12, 13] (fun s12 s13 wx => s12 = .bool (righT (bs fa) (bs ta) ea && righT (bs fb) (bs tb) eb) ∧
    s13 = .bool (hasT (bs fa) (bs ta) (bs fb) ea && righT (bs fb) (bs tb) eb || hasT (bs fb) (bs tb) (bs fa) eb && righT (bs fa) (bs ta) ea) ∧ SpW w g A C ks fa ta ea fb tb eb bF bT bE wx)
  case first =>
    refine wp_region_in (I := SpW w g A C ks fa ta ea fb tb eb bF bT bE) (by kernel_rfl) (by kernel_rfl) hP.drew ?_
    have hne : Nonempty (InW (SpW w g A C ks fa ta ea fb tb eb bF bT bE)) := ⟨⟨_, hP⟩⟩
    obtain ⟨c1, c2, c3, c4, c5, c6, c7, _⟩ := cells_in (I := SpW w g A C ks fa ta ea fb tb eb bF bT bE) (fun h => h)
    have T26 := Lib.hid (@trig_in (SpW w g A C ks fa ta ea fb tb eb bF bT bE) (fun _ _ => SpW.grow))
    have T27 := Lib.hid (@thas_in (SpW w g A C ks fa ta ea fb tb eb bF bT bE) (fun _ _ => SpW.grow) (A + 1 + 1) (fun h => h.r.lt) (fun h => h.r.cell 0))
    cases hra : righT (bs fa) (bs ta) ea <;> cases hrb : righT (bs fb) (bs tb) eb <;> cases hp1 : hasT (bs fa) (bs ta) (bs fb) ea <;> cases hp2 : hasT (bs fb) (bs tb) (bs fa) eb
    all_goals first
      | (exfalso; first | (simp [hasT, hra] at hp1; done) | (simp [hasT, hrb] at hp2; done))
      | (as_aux_lemma =>
          repeat (go_big_quiet_step ((first | (go_at_call 26; first | with_reducible exact T26.out _ _ _ _ hra _ | with_reducible exact T26.out _ _ _ _ hrb _) | (go_at_call 27; first | with_reducible exact T27.out _ _ _ _ _ hp1 _ | with_reducible exact T27.out _ _ _ _ _ hp2 _))))
          refine wpQuiet_nil ?_
          intro p
          go_wp2_with fail
          go_meet
          exact ⟨by simp [hra, hrb], by simp [hra, hrb, hp1, hp2], p.h⟩)
  case rest =>
    obtain ⟨rfl, rfl, hP⟩ := hcut
    obtain ⟨com, hcom⟩ : ∃ v, v = (hasT (bs fa) (bs ta) (bs fb) ea && righT (bs fb) (bs tb) eb || hasT (bs fb) (bs tb) (bs fa) eb && righT (bs fa) (bs ta) ea) := ⟨_, rfl⟩
    rw [← hcom]
    have HCom := Lib.hid hcom; clear hcom
    obtain ⟨wi0, hwi0⟩ : ∃ v, v = (righT (bs fa) (bs ta) ea && righT (bs fb) (bs tb) eb) := ⟨_, rfl⟩
    rw [← hwi0]
    have HWi := Lib.hid hwi0; clear hwi0
    have hPK := hP.keys
    go_wp2_with fail
    refine (Tryd.slices_Clone_string g 0 40 cap (ks.map bs) _ (by simp [hPK.1]) (by decide) ?_).mono ?_
    · intro j hj
      have hj' : j < 40 := by simpa [hPK.1] using hj
      have := hPK.2.2 j hj'
      simp only [Nat.zero_add]
      rw [this, List.getD_eq_getElem?_getD, List.getD_eq_getElem?_getD, List.getElem?_map]
      have hl : j < ks.length := by rw [hPK.1]; exact hj'
      simp [List.getElem?_eq_getElem hl]
    rintro en w6 ⟨v6, rfl, hown6, hnn, hb⟩
    have hz6 := hb.size
    clear hnn hPK
    go_wp2_with (at_builtin; refine wpList_append_x _ rfl (.tmp 66) (.tmp 67) elem30 rfl rfl (hown6.alloc _) ⟨w6.heap.size, 0, none⟩ 1 1 [.string ⟨#[98, 98, 98, 98]⟩] rfl rfl (World.news_of_block (cs := #[.string ⟨#[98, 98, 98, 98]⟩]) (t := 9) (fr := (0, 0)) (heap_alloc_new w6 _)) (by simp [Value.oneCell']) (by omega) (by decide) (by simp; omega) ?_; intro v7 w7 hap; obtain ⟨h7, cap7, rfl, hh1, hh2, hh3, hh4⟩ := own_form hap.own (by omega))
    have hL7 : Below wc.heap.size wc w7 := (hb.alloc hz6 _).grown hap.by_ (by simp; omega) (fun j hj => (hown6.lt j hj).1)
    have hP7 := hP.grow hL7
    have hl := hP7.keys.1
    have hK7 : KeysAt w7 h7 (ks ++ [[98, 98, 98, 98]]) := by
      refine ⟨hh2, fun j hj => ?_⟩
      have hj41 : j < 41 := by rw [List.length_append, hl] at hj; simpa using hj
      rw [hh4 j (by omega), List.map_take, List.take_of_length_le (by simp [hl])]
      have e : (ks.map bs).map Value.string ++ [Value.string ⟨#[98, 98, 98, 98]⟩] = (ks ++ [[98, 98, 98, 98]]).map fun k => Value.string (bs k) := by simp [bs]
      rw [e, List.getElem?_map, List.getD_eq_getElem?_getD, List.getElem?_eq_getElem hj]
      rfl
    have hLL : (ks ++ [[98, 98, 98, 98]]).length = 41 := by simp [hl]
    have hS7 : SpL w g A C ks fa ta ea fb tb eb bF bT bE h7 (ks ++ [[98, 98, 98, 98]]) w7 := ⟨hP7, hK7⟩
    clear hP7 hL7 hK7 hap hown6 hh1 hh2 hh3 hh4 hl hb hP hz6
    obtain ⟨L, hLe⟩ : ∃ L, L = ks ++ [[98, 98, 98, 98]] := ⟨_, rfl⟩
    rw [← hLe] at hS7 hLL
    have HLe := Lib.hid hLe; clear hLe
    go_loopg [12, 70] 41 (fun gk s12 s70 wx => ∃ k : Nat, k ≤ 41 ∧ gk = 41 - k ∧ s70 = .int .i64 k ∧ s12 = .bool (wi0 && (L.take k).all fun x => !hasT (bs fa) (bs ta) (bs x) ea || hasT (bs fb) (bs tb) (bs x) eb) ∧ SpL w g A C ks fa ta ea fb tb eb bF bT bE h7 L wx)
    case atStart => exact ⟨0, by omega, by omega, rfl, by simp, hS7⟩
    case round =>
      obtain ⟨k, hk, rfl, rfl, rfl, hS⟩ := hrel
      obtain ⟨wi, hwi⟩ : ∃ v, v = (wi0 && (L.take k).all fun x => !hasT (bs fa) (bs ta) (bs x) ea || hasT (bs fb) (bs tb) (bs x) eb) := ⟨_, rfl⟩
      rw [← hwi]
      have HWk := Lib.hid hwi; clear hwi
      by_cases hkk : k < 41
      · obtain ⟨x, hx, hxc⟩ : ∃ x, x = L.getD k [] ∧ wr.cell? ⟨h7, k, none⟩ = some (.string (bs x)) := ⟨_, rfl, hS.l.2 k (by omega)⟩
        have HX := Lib.hid hx; clear hx
        have hxa : (rightB (bs fa) (bs ta) ea && hasB (bs fa) (bs ta) (bs x) ea) = hasT (bs fa) (bs ta) (bs x) ea := has_eq hta'
        have hxb : com = true → (rightB bF bT bE && hasB bF bT (bs x) bE) = (hasT (bs fa) (bs ta) (bs x) ea && hasT (bs fb) (bs tb) (bs x) eb) := by
          intro hcm
          have hm := hcm
          rw [HCom.out] at hm
          have hme := meets_eq (fa := fa) (fb := fb) hta' htb'
          rw [hm] at hme
          have hb := HB.out
          rw [if_pos hme] at hb
          exact both_has hta' htb' hb hm
        have hsF := both_size HB.out s1 s2 s3 s4
        have sF : bF.size ≤ 513 := hsF.1
        have sT : bT.size ≤ 513 := hsF.2
        clear hsF
        have HXA := Lib.hid hxa; have HXB := Lib.hid hxb; clear hxa hxb
        obtain ⟨va, hva⟩ : ∃ v, v = hasT (bs fa) (bs ta) (bs x) ea := ⟨_, rfl⟩
        obtain ⟨vb, hvb⟩ : ∃ v, v = hasT (bs fb) (bs tb) (bs x) eb := ⟨_, rfl⟩
        have HVA := Lib.hid hva; have HVB := Lib.hid hvb; clear hva hvb
        have T27 := Lib.hid (@thas_in (SpL w g A C ks fa ta ea fb tb eb bF bT bE h7 L) (fun _ _ => SpL.grow) (A + 1 + 1) (fun h => h.sp.r.lt) (fun h => h.sp.r.cell 0))
        have T29 := Lib.hid (@has_in (SpL w g A C ks fa ta ea fb tb eb bF bT bE h7 L) (fun _ _ => SpL.grow))
        have e27a := fun p => T27.out _ _ _ _ _ HVA.out.symm p
        have e27b := fun p => T27.out _ _ _ _ _ HVB.out.symm p
        have e29a := fun p => T29.out _ _ _ _ _ s1 s2 (HXA.out.trans HVA.out.symm) p
        have E27a := Lib.hid e27a; have E27b := Lib.hid e27b; have E29a := Lib.hid e29a; clear e27a e27b e29a
        go_upto_region 10 with fail
        go_cut [100] (fun s100 wx => s100 = .bool false ∧ SpL w g A C ks fa ta ea fb tb eb bF bT bE h7 L wx)
        case first =>
          refine wp_region_in (I := SpL w g A C ks fa ta ea fb tb eb bF bT bE h7 L) (by kernel_rfl) (by kernel_rfl) (hS.grow ((Below.refl _ _).drew)) ?_
          have hne : Nonempty (InW (SpL w g A C ks fa ta ea fb tb eb bF bT bE h7 L)) := ⟨⟨_, hS⟩⟩
          obtain ⟨c1, c2, c3, c4, c5, c6, c7, c8, c9, c10⟩ := cells_in (I := SpL w g A C ks fa ta ea fb tb eb bF bT bE h7 L) (fun h => h.sp)
          cases com
          · cases va
            all_goals as_aux_lemma =>
              repeat (go_big_quiet_step ((first | (go_at_call 29; with_reducible exact E29a.out _) | (go_at_call 27; first | with_reducible exact E27a.out _ | with_reducible exact E27b.out _))))
              refine wpQuiet_nil ?_
              intro p
              go_wp2_with fail
              go_meet
              exact ⟨by simp, p.h⟩
          · cases va <;> cases vb
            all_goals as_aux_lemma =>
              have e29c := fun p => T29.out _ _ _ _ _ sF sT ((HXB.out rfl).trans (congr (congrArg and HVA.out.symm) HVB.out.symm)) p
              simp only [Bool.and_true, Bool.and_false, Bool.and_self] at e29c
              have E29c := Lib.hid e29c
              clear e29c
              repeat (go_big_quiet_step ((first | (go_at_call 29; first | with_reducible exact E29a.out _ | with_reducible exact E29c.out _) | (go_at_call 27; first | with_reducible exact E27a.out _ | with_reducible exact E27b.out _))))
              refine wpQuiet_nil ?_
              intro p
              go_wp2_with fail
              go_meet
              exact ⟨by simp, p.h⟩
        case rest =>
          obtain ⟨rfl, hS10⟩ := hcut
          go_upto_region 12 with fail
          go_cut [12] (fun s12 wx => s12 = .bool (wi && (!va || vb)) ∧ SpL w g A C ks fa ta ea fb tb eb bF bT bE h7 L wx)
          case first => as_aux_lemma =>
            obtain ⟨d1, d2, d3, d4, d5, d6, d7, d8⟩ := hS10.sp.cells
            cases wi
            · go_wp2_with fail
              go_meet
              exact ⟨by simp, hS10⟩
            · go_wp2_with fail
              refine (E27a.out ⟨_, hS10⟩).mono ?_
              rintro en w11 ⟨rfl, ⟨w11, hS11⟩, rfl⟩
              obtain ⟨d1, d2, d3, d4, d5, d6, d7, d8⟩ := hS11.sp.cells
              cases va
              · go_wp2_with fail
                go_meet
                exact ⟨by simp, hS11⟩
              · go_wp2_with fail
                refine (E27b.out ⟨_, hS11⟩).mono ?_
                rintro en w12 ⟨rfl, ⟨w12, hS12⟩, rfl⟩
                go_wp2_with fail
                go_meet
                exact ⟨by simp, hS12⟩
          case rest => as_aux_lemma =>
            obtain ⟨rfl, hS12⟩ := hcut
            have sx : (bs x).size ≤ 4 := key_size HS.out HX.out HLe.out
            have sx1 : ¬ 9223372036854775807 < (bs x).size + 1 := by omega
            have q1 := point_has x
            have q2 := point_has_not x
            have sx2 : (bs x ++ ⟨#[0]⟩).size ≤ 513 := by rw [bs_push]; have e1 := bs_size x; have e2 := bs_size (x ++ [0]); rw [List.length_append] at e2; simp at e2; omega
            have QQ := Lib.hid (And.intro q1 q2); clear q1 q2
            go_wp2_with fail
            refine (point_any _ _ (by omega)).mono ?_
            rintro en w13 ⟨rfl, hb⟩
            have hS13 := hS12.grow hb
            clear hb hS12
            go_wp2_with fail
            refine (has_any _ _ _ _ _ (by omega) sx2).mono ?_
            rintro en w14 ⟨rfl, hb⟩
            rw [QQ.out.1]
            have B16 : Blk w14 w13.heap.size 51 [.string (bs x), .string (bs x ++ ⟨#[0]⟩), .bool true] := Blk.grow (by exact Blk.newAt rfl) hb
            have hS14 := hS13.grow (lstep ((Below.refl _ _).alloc (Nat.le_refl _) _) hb (Nat.le_refl _))
            have C16 := B16.c3
            clear hb hS13
            go_wp2_with fail
            refine (has_any _ _ _ _ _ (by omega) sx2).mono ?_
            rintro en w15 ⟨rfl, hb⟩
            rw [QQ.out.2]
            replace B16 := B16.grow hb
            replace C16 := B16.c3
            have hS15 := hS14.grow hb
            clear hb hS14
            obtain ⟨d1, d2, d3, d4, d5, d6, d7, d8⟩ := hS15.sp.cells
            go_wp2_with fail
            refine (cut_any _ _ _ (by omega)).mono ?_
            rintro en w16 ⟨hcp, rfl⟩
            cases hlt : Op.bytesLess (bs fa).toList (bs x).toList
            · rw [cut_ge hlt hcp]
              clear hcp
              go_wp2_with fail
              go_roundg (41 - (k + 1))
              case measure => omega
              case rel => exact ⟨k + 1, by omega, rfl, by go_num, by rw [within_step HWk.out HVA.out HVB.out HX.out (by omega)], hS15⟩
            · obtain ⟨n0, hn1, hn2, hn3, hn4, hen⟩ := cut_lt hlt hcp
              rw [hen]
              clear hcp hen
              have HN := Lib.hid hn4; clear hn4
              have HN3 := Lib.hid hn3; clear hn3
              go_wp2_with fail
              obtain ⟨wo, hwo⟩ : ∃ wo, wo = w15 := ⟨_, rfl⟩
              subst hwo
              have sxz : (bs x).size ≤ 4 := sx
              go_loopg [19, 20] (bs x).size (fun gk s19 s20 wx => ∃ m : Nat, m ≤ (bs x).size ∧ gk = m ∧ s20 = .int .i64 m ∧ s19 = .string (dueS (bs x) m) ∧ n0 ≤ m + 1 ∧ SpL w g A C ks fa ta ea fb tb eb bF bT bE h7 L wx)
              case atStart => exact ⟨(bs x).size, Nat.le_refl _, rfl, rfl, by simp [dueS], by omega, hS15⟩
              case round =>
                obtain ⟨m, hm, hgk, rfl, rfl, hmn, hSi⟩ := hrel
                have Hgk := Lib.hid hgk; clear hgk
                obtain ⟨d1, d2, d3, d4, d5, d6, d7, d8⟩ := hSi.sp.cells
                by_cases hge : n0 ≤ m
                · as_aux_lemma =>
                  have hcm := HN3.out m hge hm
                  unfold cutP at hcm
                  have q := leq_of ((bs x).extract 0 m).toList (bs fa).toList
                  rw [hcm] at q
                  have hd1 : decide ((0 : Int) < (m : Int)) = true := by simp; omega
                  have hd2 : decide (0 < m) = true := by simp; omega
                  have hmi : (m : Int) ≤ ((bs x).size : Int) := by omega
                  clear d2 d3 d4 d5 d6 d7 d8
                  go_wp2_with fail
                  go_quiet (fail)
                  go_wp2_with fail
                  go_roundg (m - 1)
                  case measure => have := Hgk.out; omega
                  case rel => exact ⟨m - 1, by omega, rfl, by go_num, by rw [dueS_pred (by omega)], by omega, hSi.grow (below_drewN _ _)⟩
                · have hmm : m + 1 = n0 := by omega
                  have hfin : dueS (bs x) m = (bs x).extract 0 n0 := by unfold dueS; rw [if_neg (by omega), hmm]
                  have HF := Lib.hid hfin; clear hfin
                  rw [HF.out]
                  by_cases hm0 : m = 0
                  · as_aux_lemma =>
                    subst hm0
                    clear d2 d3 d4 d5 d6 d7 d8
                    go_wp2_with fail
                    go_quiet (fail)
                    go_wp2_with fail
                    go_roundg (41 - (k + 1))
                    case measure => omega
                    case rel => exact ⟨k + 1, by omega, rfl, by go_num, by rw [within_step HWk.out HVA.out HVB.out HX.out (by omega)], hSi.grow (below_drewN _ _)⟩
                  · as_aux_lemma =>
                    have hcm := HN.out m (by omega) (by omega)
                    unfold cutP at hcm
                    have q := leq_of ((bs x).extract 0 m).toList (bs fa).toList
                    rw [hcm] at q
                    have hd1 : decide ((0 : Int) < (m : Int)) = true := by simp; omega
                    have hd2 : decide (0 < m) = true := by simp; omega
                    have hmi : (m : Int) ≤ ((bs x).size : Int) := by omega
                    clear d2 d3 d4 d5 d6 d7 d8
                    go_wp2_with fail
                    go_quiet (fail)
                    go_wp2_with fail
                    go_roundg (41 - (k + 1))
                    case measure => omega
                    case rel => exact ⟨k + 1, by omega, rfl, by go_num, by rw [within_step HWk.out HVA.out HVB.out HX.out (by omega)], hSi.grow (below_drewN _ _)⟩
      · obtain rfl : k = 41 := by omega
        have hLt : L.take 41 = L := List.take_of_length_le (Nat.le_of_eq hLL)
        have hwk := HWk.out
        rw [hLt] at hwk
        have HW := Lib.hid hwk
        clear hwk hLt HWk
        have hmc : meets = com := by rw [HMt.out, HCom.out]; exact meets_eq hta' htb'
        subst hmc
        have hwt : withinB (bs fa) (bs ta) ea (bs fb) (bs tb) eb = wi := by rw [HW.out, HWi.out, HLe.out]; exact within_eq hfa hta' htb htb' HM.out
        have HWT := Lib.hid hwt; clear hwt
        have hra : rightB (bs fa) (bs ta) ea = righT (bs fa) (bs ta) ea := right_eq hta'
        have HRA := Lib.hid hra; clear hra
        have T26 := Lib.hid (@trig_in (SpL w g A C ks fa ta ea fb tb eb bF bT bE h7 L) (fun _ _ => SpL.grow))
        have E26 := Lib.hid (fun p => T26.out (bs fa) (bs ta) ea _ rfl p)
        have E32 := Lib.hid (fun p => @right_in (SpL w g A C ks fa ta ea fb tb eb bF bT bE h7 L) (fun _ _ => SpL.grow) (bs fa) (bs ta) ea _ s1 s2 HRA.out p)
        have E33 := Lib.hid (fun p => @meets_in (SpL w g A C ks fa ta ea fb tb eb bF bT bE h7 L) (fun _ _ => SpL.grow) (bs fa) (bs ta) ea (bs fb) (bs tb) eb _ s1 s2 s3 s4 HMt.out.symm p)
        have E34 := Lib.hid (fun p => @within_in (SpL w g A C ks fa ta ea fb tb eb bF bT bE h7 L) (fun _ _ => SpL.grow) (bs fa) (bs ta) ea (bs fb) (bs tb) eb _ s1 s2 s3 s4 HWT.out p)
        have E29 := Lib.hid (fun p => @has_in (SpL w g A C ks fa ta ea fb tb eb bF bT bE h7 L) (fun _ _ => SpL.grow) ⟨#[97]⟩ ⟨#[]⟩ ⟨#[98]⟩ false true (by decide) (by decide) (by decide +kernel) p)
        have E23 := Lib.hid (fun p => @awake_in (SpL w g A C ks fa ta ea fb tb eb bF bT bE h7 L) (fun _ _ => SpL.grow) (fun h => HT.out.grow h.sp.below h0) (fun h => Nat.lt_of_lt_of_le h0 h.sp.below.size) p)
        generalize righT (bs fa) (bs ta) ea = ra at E26 E32
        obtain ⟨c1, c2, c3, c4, c5, c6, c7, c8, c9, c10⟩ := cells_in (I := SpL w g A C ks fa ta ea fb tb eb bF bT bE h7 L) (fun h => h.sp)
        have e1 := c8 ⟨_, hS⟩; have e2 := c9 ⟨_, hS⟩; have e3 := c10 ⟨_, hS⟩
        simp only at e1 e2 e3
        clear c1 c2 c3 c4 c5 c6 c7 c8 c9 c10
        have hne : Nonempty (InW (SpL w g A C ks fa ta ea fb tb eb bF bT bE h7 L)) := ⟨⟨_, hS⟩⟩
        cases meets
        · as_aux_lemma =>
          obtain ⟨rfl, rfl, rfl⟩ : bF = ⟨#[]⟩ ∧ bT = ⟨#[]⟩ ∧ bE = false := by
            have := HB.out
            rw [if_neg (by rw [← HMt.out]; simp)] at this
            simpa [noRange, eq_comm] using this
          go_upto_region 30 with fail
          refine wp_region_in (I := SpL w g A C ks fa ta ea fb tb eb ⟨#[]⟩ ⟨#[]⟩ false h7 L) (by kernel_rfl) (by kernel_rfl) (hS.grow ((Below.refl _ _).drew)) ?_
          obtain ⟨c1, c2, c3, c4, c5, c6, c7, _⟩ := cells_in (I := SpL w g A C ks fa ta ea fb tb eb ⟨#[]⟩ ⟨#[]⟩ false h7 L) (fun h => h.sp)
          repeat (go_big_quiet_step ((first | (go_at_call 32; with_reducible exact E32.out _) | (go_at_call 26; with_reducible exact E26.out _) | (go_at_call 33; with_reducible exact E33.out _) | (go_at_call 34; with_reducible exact E34.out _) | (go_at_call 29; with_reducible exact E29.out _) | (go_at_call 23; with_reducible exact E23.out _))))
          refine wpQuiet_nil ?_
          intro p
          go_wp2_with fail
          go_ret
          exact ⟨by simp, p.h.sp.below⟩
        · as_aux_lemma =>
          go_upto_region 30 with fail
          refine wp_region_in (I := SpL w g A C ks fa ta ea fb tb eb bF bT bE h7 L) (by kernel_rfl) (by kernel_rfl) (hS.grow ((Below.refl _ _).drew)) ?_
          obtain ⟨c1, c2, c3, c4, c5, c6, c7, _⟩ := cells_in (I := SpL w g A C ks fa ta ea fb tb eb bF bT bE h7 L) (fun h => h.sp)
          repeat (go_big_quiet_step ((first | (go_at_call 32; with_reducible exact E32.out _) | (go_at_call 26; with_reducible exact E26.out _) | (go_at_call 33; with_reducible exact E33.out _) | (go_at_call 34; with_reducible exact E34.out _) | (go_at_call 29; with_reducible exact E29.out _) | (go_at_call 23; with_reducible exact E23.out _))))
          refine wpQuiet_nil ?_
          intro p
          go_wp2_with fail
          go_ret
          exact ⟨by simp, p.h.sp.below⟩

end Go.Proofs.YtapglfnjoppjiaaDoor
