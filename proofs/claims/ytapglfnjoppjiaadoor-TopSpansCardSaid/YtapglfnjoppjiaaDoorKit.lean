/- Words and laws on memory that the walks of this seat share (no program is named). No conditions of its own. -/
import Derived.WalkKit
import Derived.WalkSpells
import Derived.WalkLawsBesides
import Derived.Lib.Hide
import Derived.Deep.AppendLies
import Derived.Deep.RegionHeld3
import Derived.Deep.DrawnRows
import Derived.Deep.QuietTactic
import Derived.BigQuiet
namespace Go.Proofs.YtapglfnjoppjiaaDoor
open Go.RowKit

theorem bcell {W w1 : World} (hb : Below W.heap.size W w1) : (∀ b o, b < W.heap.size → w1.cell? ⟨b, o, none⟩ = W.cell? ⟨b, o, none⟩) ∧ (∀ b o, b < W.heap.size → w1.frozen? ⟨b, o, none⟩ = W.frozen? ⟨b, o, none⟩) :=
  ⟨fun b o h => hb.cell (p := ⟨b, o, none⟩) h, fun b o h => hb.frozen (p := ⟨b, o, none⟩) h⟩
theorem lstep {B : Nat} {w W0 w1 : World} (hW : Below B w W0) (hb : Below W0.heap.size W0 w1) (hB : B ≤ w.heap.size) : Below B w w1 := hW.trans (hb.mono (Nat.le_trans hB hW.size))
theorem ret_bool {a b : Bool} (h : a = b) : Ending.returned (.bool a) = .returned (.bool b) := by rw [h]
theorem ret_int {k : IntKind} {a b : Int} (h : a = b) : Ending.returned (.int k a) = .returned (.int k b) := by rw [h]

/-- A block that holds just these cells, of which none is frozen. -/
def Blk (w : World) (b : Nat) (t : TypeId) (xs : List Value) : Prop := w.heap[b]? = some (.cells xs.toArray t (0, 0))
section
variable {w w1 : World} {b : Nat} {t : TypeId} {xs : List Value}
theorem Blk.lt (h : Blk w b t xs) : b < w.heap.size := lt_of_block h
theorem Blk.cell (h : Blk w b t xs) (i : Nat) : w.cell? ⟨b, i, none⟩ = xs[i]? := by
  unfold Blk at h; simp [World.cell?, h]
theorem Blk.free (h : Blk w b t xs) (i : Nat) : w.frozen? ⟨b, i, none⟩ = false := by
  unfold Blk at h; simp [World.frozen?, h]
theorem Blk.below {B : Nat} (h : Blk w b t xs) (hb : Below B w w1) (hB : b < B) : Blk w1 b t xs := (hb.block b hB).trans h
theorem Blk.grow (h : Blk w b t xs) (hb : Below w.heap.size w w1) : Blk w1 b t xs := h.below hb h.lt
theorem Blk.alloc (h : Blk w b t xs) (o : Obj) : Blk (w.alloc o) b t xs := h.grow ((Below.refl _ _).alloc (Nat.le_refl _) _)
theorem Blk.newAt (hb : b = w.heap.size) : Blk (w.alloc (.cells xs.toArray t)) b t xs := by subst hb; exact heap_alloc_new _ _
theorem Blk.drew (h : Blk w b t xs) : Blk w.drew b t xs := h
theorem Blk.grown {r : Option Nat} (h : Blk w b t xs) (hg : w.grownBy w1 r) (hr : some b ≠ r) : Blk w1 b t xs := (hg.block b h.lt hr).trans h
theorem Blk.set (h : Blk w b t xs) (i : Nat) (v : Value) : Blk (w.setCell ⟨b, i, none⟩ v) b t (xs.set i v) := by
  have hlt := h.lt
  unfold Blk at h ⊢
  have h' : w.heap[b] = .cells xs.toArray t (0, 0) := by simpa [Array.getElem?_eq_getElem hlt] using h
  show (w.heap.modify b _)[b]? = _
  rw [Array.getElem?_eq_getElem (by simpa using hlt), Array.getElem_modify_self, h']
  simp
theorem Blk.setOther (h : Blk w b t xs) (a : Addr) (v : Value) (ha : b ≠ a.block) : Blk (w.setCell a v) b t xs := by
  unfold Blk at *; rw [Below.heap_setCell _ _ _ _ ha]; exact h
end
theorem Blk.c1 {w : World} {b : Nat} {t : TypeId} {x : Value} (h : Blk w b t [x]) : w.cell? ⟨b, 0, none⟩ = some x := h.cell 0
theorem Blk.c2 {w : World} {b : Nat} {t : TypeId} {x y : Value} (h : Blk w b t [x, y]) : w.cell? ⟨b, 0, none⟩ = some x ∧ w.cell? ⟨b, 1, none⟩ = some y := ⟨h.cell 0, h.cell 1⟩
theorem Blk.c3 {w : World} {b : Nat} {t : TypeId} {x y z : Value} (h : Blk w b t [x, y, z]) : w.cell? ⟨b, 0, none⟩ = some x ∧ w.cell? ⟨b, 1, none⟩ = some y ∧ w.cell? ⟨b, 2, none⟩ = some z := ⟨h.cell 0, h.cell 1, h.cell 2⟩

theorem grownBy_set (w : World) (b i : Nat) (v : Value) : w.grownBy (w.setCell ⟨b, i, none⟩ v) (some b) :=
  ⟨rfl, rfl, rfl, by simp [World.setCell], fun k _ hk => Below.heap_setCell _ _ _ _ (by simpa using hk)⟩
theorem grownBy_drew (w : World) (r : Option Nat) : w.grownBy w.drew r := ⟨rfl, rfl, rfl, Nat.le_refl _, fun _ _ _ => rfl⟩
theorem gtrans {a b c : World} {r : Option Nat} (h : a.grownBy b r) (k : b.grownBy c r) : a.grownBy c r :=
  ⟨k.os.trans h.os, k.tape.trans h.tape, k.output.trans h.output, Nat.le_trans h.size k.size, fun i hi hr => (k.block i (Nat.lt_of_lt_of_le hi h.size) hr).trans (h.block i hi hr)⟩

/-- What is known of an owned row that is not empty. -/
theorem own_form {w : World} {base : Nat} {e : TypeId} {size : Nat} {v : Value} {n : Nat} {xs : List Value} (h : w.ownsRow base e size v n xs) (hn : 0 < n) :
    ∃ g cap, v = .slice (some ⟨g, 0, none⟩) n cap ∧ base ≤ g ∧ g < w.heap.size ∧ n ≤ cap ∧ ∀ j, j < n * size → w.cell? ⟨g, j, none⟩ = xs[j]? := by
  rcases h.2 with ⟨_, h0⟩ | ⟨g, cap, cur, rfl, hb, hg, hnc, hm, hs, ht⟩
  · omega
  · exact ⟨g, cap, rfl, hb, lt_of_block hg, hnc, fun j hj => h.cellAt j hj⟩

/-- WHAT AN APPEND TO A ROW OF THE CALL's OWN LEAVES: the longer row; nothing but that row may have been written, and of it nothing within the old length. -/
structure Appended (base : Nat) (e : TypeId) (size : Nat) (w : World) (v : Value) (n : Nat) (xs : List Value) (m : Nat) (news : List Value) (v' : Value) (w' : World) : Prop where
  own : w'.ownsRow base e size v' (n + m) (xs ++ news)
  by_ : w.grownBy w' v.ownBlock
  keep : ∀ g, v.ownBlock = some g → ∀ j, j < n * size → w'.cell? ⟨g, j, none⟩ = w.cell? ⟨g, j, none⟩
  at_ : v'.ownBlock = v.ownBlock ∨ v'.ownBlock = some w.heap.size
  nil_ : v' = .slice none 0 0 ↔ v = .slice none 0 0 ∧ m = 0

/-- What the program's tables say of a slice type and its elements' type. -/
structure ElemOk (P : Program) (t e : TypeId) (z : Value) (size bytes : Nat) : Prop where
  under : P.underlying t = some (.slice e)
  info : (P.info? e).map (fun i => (i.zero, i.size, i.bytes)) = some (some z, size, bytes)
  cells : z.cells.size = size
  pos : 0 < size

/-- A new row behind the heap. -/
theorem owns_new {w w0 : World} {base : Nat} {e : TypeId} {size n cap : Nat} {cur : Array Value} {xs : List Value} (h0 : w0.heap = w.heap) (hb : base ≤ w.heap.size) (hn : n ≤ cap) (hm : cap ≤ maxLen)
    (hs : cur.size = cap * size) (ht : cur.toList.take (n * size) = xs) : (w0.alloc (.cells cur e)).ownsRow base e size (.slice (some ⟨w.heap.size, 0, none⟩) n cap) n xs := by
  refine ⟨?_, .inr ⟨w.heap.size, cap, cur, rfl, hb, ?_, hn, hm, hs, ht⟩⟩
  · rw [← ht, List.length_take, Array.length_toList, hs]
    exact Nat.min_eq_left (Nat.mul_le_mul_right _ hn)
  · have := heap_alloc_new w0 (.cells cur e)
    rw [h0] at this; exact this
theorem below_new (w : World) (o : Obj) : w.grownBy (w.drew.alloc o) none := gtrans (grownBy_drew w none) (World.grownBy_alloc w.drew o none)
theorem grownBy_any {w w' : World} {r : Option Nat} (h : w.grownBy w' none) : w.grownBy w' r := ⟨h.os, h.tape, h.output, h.size, fun k hk _ => h.block k hk (by simp)⟩

section
variable {P : Program} (w : World)
theorem run_append_x (ty : TypeId) {t e : TypeId} {z : Value} {size bytes : Nat} (E : ElemOk P t e z size bytes) {base : Nat}
    {v : Value} {n : Nat} {xs : List Value} (hown : w.ownsRow base e size v n xs)
    (a : Addr) (m c : Nat) (news : List Value) (hl : news.length = m * size) (hnews : ∀ j u, news[j]? = some u → w.cell? (a.add j) = some u) (h1 : ∀ u ∈ news, u.oneCell' = true)
    (hlim : n + m ≤ 1000000000) (hbytes : bytes ≤ 100000) (hbase : base ≤ w.heap.size) :
    ∃ v' w', (Builtin.append_ #[t, t] ty #[v, .slice (some a) m c]).run P w = .ok v' w' ∧ Appended base e size w v n xs m news v' w' := by
  obtain ⟨i, hi, hz, rfl, rfl⟩ := info_parts E.info
  have hb : (n + m) * i.bytes ≤ 140737488355328 := Nat.le_trans (Nat.mul_le_mul hlim hbytes) (by decide)
  have h63 : n + m ≤ maxLen := Nat.le_trans hlim (by decide)
  have hlx := hown.1
  have key : ∀ old, old < n + m →
      (w.drew.alloc (.cells (xs.toArray ++ news.toArray ++ Builtin.zeroCells z.cells (grownCap w (n + m) old e - (n + m))) e)).ownsRow base e i.size
        (.slice (some ⟨w.heap.size, 0, none⟩) (n + m) (grownCap w (n + m) old e)) (n + m) (xs ++ news) := fun old _ => by
    have hge := grownCap_ge w (n + m) old e
    refine owns_new (w := w) rfl hbase hge (grownCap_le_maxLen w (n + m) old e h63) ?_ ?_
    · rw [Array.size_append, Array.size_append, size_zeroCells, E.cells, List.size_toArray, List.size_toArray, hlx, hl, ← Nat.add_mul, ← Nat.add_mul]
      congr 1; omega
    · have : (n + m) * i.size = (xs ++ news).length := by rw [List.length_append, hlx, hl, Nat.add_mul]
      rw [this, Array.toList_append, Array.toList_append]
      exact List.take_left
  rcases hown.2 with ⟨rfl, rfl⟩ | ⟨g, cap, cur, rfl, hbg, hg, hnc, hcm, hcs, htake⟩
  · obtain rfl : xs = [] := List.eq_nil_of_length_eq_zero (by simpa using hlx)
    rcases Nat.eq_zero_or_pos m with rfl | hm
    · obtain rfl : news = [] := List.eq_nil_of_length_eq_zero (by simpa using hl)
      exact ⟨.slice none 0 0, w, by simp [Builtin.append_, run_underlying E.under, sizeOf, typeInfo, hi, Builtin.lenOf, Builtin.firstCells, loadCells, loadCellsFrom],
        ⟨World.ownsRow_nil w base e i.size, World.grownBy.refl _ _, fun _ _ _ _ => rfl, .inl rfl, by simp⟩⟩
    · have hr := run_append_nil (P := P) w t ty e i z E.under hi hz a m c news hl hnews hm (by omega) (by simp only [Nat.zero_add] at hb; omega)
      have hk := key 0 (by omega)
      simp only [Nat.zero_add, List.nil_append, Array.empty_append] at hk
      exact ⟨_, _, hr, ⟨by simpa using hk, grownBy_any (below_new _ _), fun g hg => by simp [Value.ownBlock] at hg, .inr rfl, by simp; omega⟩⟩
  · rcases Nat.lt_or_ge cap (n + m) with hroom | hroom
    · have hr := run_append_grow (P := P) w t ty e i z E.under hi hz ⟨g, 0, none⟩ n cap xs hlx (hown.cells (g := g) rfl) a m c news hl hnews hroom (by omega) (growslice_fits hroom hb)
      refine ⟨_, _, hr, ⟨key cap hroom, grownBy_any (below_new _ _), fun g' hg' j _ => ?_, .inr rfl, by simp⟩⟩
      obtain rfl : g = g' := by simpa [Value.ownBlock] using hg'
      exact World.cell?_of_block (w := w) ((below_new w _).block g (lt_of_block hg) (by simp))
    · have hfit : n * i.size + news.length ≤ cur.size := by rw [hl, hcs, ← Nat.add_mul]; exact Nat.mul_le_mul_right _ hroom
      have hr := run_append_room (P := P) w t ty e i E.under hi g n cap cur hg a m c news hl hnews h1 hroom hfit
      have ho : (w.setRow g (cur.toList.take (n * i.size) ++ news ++ cur.toList.drop (n * i.size + news.length)).toArray).ownsRow base e i.size (.slice (some ⟨g, 0, none⟩) (n + m) cap) (n + m) (xs ++ news) := by
        have hll : (xs ++ news).length = (n + m) * i.size := by rw [List.length_append, hlx, hl, Nat.add_mul]
        refine ⟨hll, .inr ⟨g, cap, _, rfl, hbg, setRow_heap w g cur _ e _ hg, hroom, hcm, ?_, by rw [htake, ← hll]; exact List.take_left⟩⟩
        rw [List.size_toArray, List.length_append, List.length_append, List.length_take, List.length_drop, Array.length_toList]
        omega
      refine ⟨_, _, hr, ⟨ho, ⟨rfl, rfl, rfl, by simp, fun k _ hne => setRow_other w g k _ (fun e => hne (by simp [Value.ownBlock, e]))⟩, fun g' hg' j hj => ?_, .inl rfl, by simp⟩⟩
      obtain rfl : g = g' := by simpa [Value.ownBlock] using hg'
      rw [ho.cellAt j (by rw [Nat.add_mul]; omega), hown.cellAt j hj, List.getElem?_append_left (by rw [hlx]; exact hj)]

theorem wp_append_x {o : Oper} {a : Act} {K : Act → World → Prop} {Q : Exit → Act → World → Prop} (s x : Operand) {t e : TypeId} {z : Value} {size bytes : Nat} (E : ElemOk P t e z size bytes)
    (ho : o.op = .call { callee := .builtin .append, args := #[s, x], argTypes := #[t, t] }) {base : Nat} {v : Value} {n : Nat} {xs : List Value} (hs : a.eval s = v) (hown : w.ownsRow base e size v n xs)
    (ad : Addr) (m c : Nat) (news : List Value) (hx : a.eval x = .slice (some ad) m c) (hl : news.length = m * size) (hnews : ∀ j u, news[j]? = some u → w.cell? (ad.add j) = some u) (h1 : ∀ u ∈ news, u.oneCell' = true)
    (hlim : n + m ≤ 1000000000) (hbytes : bytes ≤ 100000) (hbase : base ≤ w.heap.size)
    (h : ∀ v' w', Appended base e size w v n xs m news v' w' → K (a.put o.dst v') w') : o.wp P a w K Q := by
  obtain ⟨v', w', hr, h2⟩ := run_append_x (P := P) w o.type E hown ad m c news hl hnews h1 hlim hbytes hbase
  unfold Oper.wp execOp
  simp only [ho, resolve, invoke, builtin, Sem.run_bind, Sem.run_pure, Result.andThen_ok, List.map_toArray, List.map_cons, List.map_nil, hs, hx, hr]
  exact h v' w' h2
theorem wpList_append_x {ops : Array Oper} {rest : List Oper} {o : Oper} {a : Act} {Q : Exit → Act → World → Prop} (hgd : o.guard = none) (s x : Operand) {t e : TypeId} {z : Value} {size bytes : Nat} (E : ElemOk P t e z size bytes)
    (ho : o.op = .call { callee := .builtin .append, args := #[s, x], argTypes := #[t, t] }) {base : Nat} {v : Value} {n : Nat} {xs : List Value} (hs : a.eval s = v) (hown : w.ownsRow base e size v n xs)
    (ad : Addr) (m c : Nat) (news : List Value) (hx : a.eval x = .slice (some ad) m c) (hl : news.length = m * size) (hnews : ∀ j u, news[j]? = some u → w.cell? (ad.add j) = some u) (h1 : ∀ u ∈ news, u.oneCell' = true)
    (hlim : n + m ≤ 1000000000) (hbytes : bytes ≤ 100000) (hbase : base ≤ w.heap.size)
    (h : ∀ v' w', Appended base e size w v n xs m news v' w' → wpList P ops Q rest (a.put o.dst v') w') : wpList P ops Q (o :: rest) a w :=
  wpList_plain hgd fun _ hK => wp_append_x w s x E ho hs hown ad m c news hx hl hnews h1 hlim hbytes hbase fun v' w' h2 => hK _ _ (h v' w' h2)
theorem step_append_x {ops : Array Oper} {o : Oper} {a : Act} {K : Act → World → Prop} {Q : Exit → Act → World → Prop} {D : Prop} (hgd : o.guard = none) (s x : Operand) {t e : TypeId} {z : Value} {size bytes : Nat} (E : ElemOk P t e z size bytes)
    (ho : o.op = .call { callee := .builtin .append, args := #[s, x], argTypes := #[t, t] }) {base : Nat} {v : Value} {n : Nat} {xs : List Value} (hs : a.eval s = v) (hown : w.ownsRow base e size v n xs)
    (ad : Addr) (m c : Nat) (news : List Value) (hx : a.eval x = .slice (some ad) m c) (hl : news.length = m * size) (hnews : ∀ j u, news[j]? = some u → w.cell? (ad.add j) = some u) (h1 : ∀ u ∈ news, u.oneCell' = true)
    (hlim : n + m ≤ 1000000000) (hbytes : bytes ≤ 100000) (hbase : base ≤ w.heap.size)
    (h : ∀ v' w', Appended base e size w v n xs m news v' w' → K (a.put o.dst v') w') :
    if Region.wanted o (yielded ops a.tmps) = true then Oper.wp P o a w K Q else D := by
  rw [if_pos (by simp [Region.wanted, hgd])]
  exact wp_append_x w s x E ho hs hown ad m c news hx hl hnews h1 hlim hbytes hbase h
end

/-! A REGION THAT DRAWS ITS ORDER, WALKED ONCE, UNDER AN INVARIANT: each operation yields one value in every world that holds the invariant, and leaves such a world. -/
/-- A world that holds an invariant. -/
structure InW (I : World → Prop) where
  w : World
  h : I w

theorem wp_region_in {P : Program} {id : Nat} {Q : Exit → Act → World → Prop} {a : Act} {w : World} {l : List Oper} {I : World → Prop} (hm : P.follows .mixedOrders = true) (hB : Region.lexB .any l.toArray = true)
    (hI : I w.drew) (h : wpQuiet P l.toArray (fun w' => ∃ p : InW I, w' = p.w) (fun a' => ∀ p : InW I, Q .normal a' p.w) l a) : (Code.region id l.toArray true).wp P Q a w := by
  refine wp_region_quiet (C := fun w' => ∃ p : InW I, w' = p.w) hm hB ⟨⟨w.drew, hI⟩, rfl⟩ ?_
  have e : (fun a' => ∀ w', (∃ p : InW I, w' = p.w) → Q .normal a' w') = (fun a' => ∀ p : InW I, Q .normal a' p.w) := by
    funext a'
    exact propext ⟨fun h p => h p.w ⟨p, rfl⟩, fun h w' ⟨p, hp⟩ => hp ▸ h p⟩
  rw [e]
  simpa using h

theorem calls_in {P : Program} {f : FuncId} {args : Array Value} {I : World → Prop} {p : InW I} {v : Value} (hI : ∀ w w', I w → Below w.heap.size w w' → I w')
    (h : Calls P f args p.w fun e w' => e = .returned v ∧ Below p.w.heap.size p.w w') : Calls P f args p.w fun e w'' => e = .returned v ∧ ∃ q : InW I, w'' = q.w :=
  h.mono fun _ w' ⟨he, hb⟩ => ⟨he, ⟨w', hI _ _ p.h hb⟩, rfl⟩
theorem calls_in_same {P : Program} {f : FuncId} {args : Array Value} {I : World → Prop} {p : InW I} {v : Value}
    (h : Calls P f args p.w fun e w' => e = .returned v ∧ p.w = w') : Calls P f args p.w fun e w'' => e = .returned v ∧ ∃ q : InW I, w'' = q.w :=
  h.mono fun _ _ ⟨he, hb⟩ => ⟨he, p, hb.symm⟩

end Go.Proofs.YtapglfnjoppjiaaDoor
