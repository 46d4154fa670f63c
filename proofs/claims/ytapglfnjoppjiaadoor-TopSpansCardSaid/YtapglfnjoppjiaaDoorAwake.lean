/- The sum of crc over a row of bytes, and that the statements' last question (awake) is answered with yes, where the package's table lies as the row lists it. -/
import Derived.Test.YtapglfnjoppjiaaDoorSpan
import Derived.Lib.SlBytesConst
namespace Go.Proofs.YtapglfnjoppjiaaDoor
open Go.RowKit

/-- crc: what four bits do to a register. -/
def crcTab : List Nat := [0x00000000, 0x105ec76f, 0x20bd8ede, 0x30e349b1, 0x417b1dbc, 0x5125dad3, 0x61c69362, 0x7198540d, 0x82f63b78, 0x92a8fc17, 0xa24bb5a6, 0xb21572c9, 0xc38d26c4, 0xd3d3e1ab, 0xe330a81a, 0xf36e6f75]
def crcHalf (r b : Nat) : Nat := (r >>> 4) ^^^ crcTab.getD ((r ^^^ b) &&& 15) 0
def crcByte (r b : Nat) : Nat := crcHalf (crcHalf r b) (b >>> 4)

theorem crcTab_lt (i : Nat) : crcTab.getD i 0 < 4294967296 := by
  by_cases h : i < 16
  · have : ∀ j, j < 16 → crcTab.getD j 0 < 4294967296 := by decide
    exact this i h
  · simp [crcTab, List.getD, List.getElem?_eq_none (show [0x00000000, 0x105ec76f, 0x20bd8ede, 0x30e349b1, 0x417b1dbc, 0x5125dad3, 0x61c69362, 0x7198540d, 0x82f63b78, 0x92a8fc17, 0xa24bb5a6, 0xb21572c9, 0xc38d26c4, 0xd3d3e1ab, 0xe330a81a, 0xf36e6f75].length ≤ i by simp; omega)]
theorem xor_lt (a b : Nat) (ha : a < 4294967296) (hb : b < 4294967296) : a ^^^ b < 4294967296 := Nat.xor_lt_two_pow (n := 32) ha hb
theorem crcHalf_lt (r b : Nat) (hr : r < 4294967296) : crcHalf r b < 4294967296 :=
  xor_lt _ _ (by rw [Nat.shiftRight_eq_div_pow]; omega) (crcTab_lt _)

/-- The package's table, where the program keeps it. -/
def TabOk (w : World) : Prop := ∀ i, i < 16 → w.cell? ⟨0, i, none⟩ = some (.int .u32 (crcTab.getD i 0 : Nat))
theorem TabOk.grow {w w' : World} (h : TabOk w) (hb : Below w.heap.size w w') (h0 : 0 < w.heap.size) : TabOk w' := fun i hi => (hb.cell (p := ⟨0, i, none⟩) h0).trans (h i hi)

theorem half_any (r b : Nat) (blk : Nat) (w : World) (hr : r < 4294967296) (hb : b < 256) (hB : Blk w blk 134 [.int .u32 r]) (hT : TabOk w) :
    Calls Tryd.prog 153 #[.int .u8 b, .pointer (some ⟨blk, 0, none⟩)] w fun en w' => en = .returned (.tuple #[]) ∧ Blk w' blk 134 [.int .u32 (crcHalf r b : Nat)] ∧ w.grownBy w' (some blk) := by
  have C := hB.c1; have F := hB.free 0
  have x0 : IntKind.u32.wrap (b : Int) = (b : Int) := by rw [IntKind.wrap_u32]; omega
  have x1 := u32_xor_nat r b hr (by omega)
  have x2 : bits .and .u32 ((r ^^^ b : Nat) : Int) 15 = (((r ^^^ b) &&& 15 : Nat) : Int) := u32_and_nat (r ^^^ b) 15 (xor_lt _ _ hr (by omega)) (by omega)
  have hi : (r ^^^ b) &&& 15 < 16 := by have := @Nat.and_le_right (r ^^^ b) 15; omega
  have x3 := hT _ hi
  have x4 := crcTab_lt ((r ^^^ b) &&& 15)
  have x5 : crcHalf r b = (r / 16) ^^^ crcTab.getD ((r ^^^ b) &&& 15) 0 := by unfold crcHalf; rw [Nat.shiftRight_eq_div_pow]
  have X5 := Lib.hid x5; clear x5
  generalize crcTab.getD ((r ^^^ b) &&& 15) 0 = tv at *
  have x6 := u32_xor_nat (r / 16) tv (by omega) x4
  generalize (r ^^^ b) &&& 15 = i at *
  clear hT
  go_enter Tryd.func153, Tryd.ntmps153
  go_region
  rw [show ((r : Int) / 16) = ((r / 16 : Nat) : Int) by omega, x6, ← X5.out]
  go_end0
  exact ⟨rfl, (hB.set 0 _).drew, gtrans (grownBy_set w blk _ _) (grownBy_drew _ _)⟩

theorem more_any (blk off n cap : Nat) (bs : List Nat) (w : World) (hn : bs.length = n) (hb : ∀ x ∈ bs, x < 256)
    (hc : ∀ j, j < n → w.cell? ⟨blk, off + j, none⟩ = some (.int .u8 (bs.getD j 0 : Nat))) (hlt : blk < w.heap.size) (hT : TabOk w) (hsmall : n ≤ 1000) :
    Calls Tryd.prog 120 #[.int .u32 0, .slice (some ⟨blk, off, none⟩) n cap] w fun en w' => en = .returned (.int .u32 ((bs.foldl crcByte 4294967295) ^^^ 4294967295 : Nat)) ∧ Below w.heap.size w w' := by
  have e0 : bits .xor .u32 IntKind.u32.max 0 = ((4294967295 : Nat) : Int) := by decide
  have h0 : 0 < w.heap.size := by omega
  have HT := Lib.hid hT; have HC := Lib.hid hc; have HB := Lib.hid hb; clear hT hc hb
  go_enter Tryd.func120, Tryd.ntmps120
  go_wp2_with fail
  clear e0
  go_loopw [14] (fun i wr => ∃ k : Nat, k ≤ n ∧ i = .int .i64 k ∧ (bs.take k).foldl crcByte 4294967295 < 4294967296 ∧ Blk wr w.heap.size 134 [.int .u32 ((bs.take k).foldl crcByte 4294967295 : Nat)] ∧ Below w.heap.size w wr) (fun i _ => n - (intOf i).toNat)
  case atStart => exact ⟨0, Nat.zero_le _, rfl, by simp, Blk.newAt rfl, (Below.refl _ _).alloc (Nat.le_refl _) _⟩
  case round =>
    obtain ⟨k, hk, rfl, hlt32, hblk, hL⟩ := hrel
    by_cases hkn : k < n
    · have hcell : wr.cell? ⟨blk, off + k, none⟩ = some (.int .u8 (bs.getD k 0 : Nat)) := (hL.cell (p := ⟨blk, off + k, none⟩) hlt).trans (HC.out k hkn)
      have hbyte : bs.getD k 0 < 256 := by
        have hk' : k < bs.length := by omega
        rw [List.getD_eq_getElem?_getD, List.getElem?_eq_getElem hk']; exact HB.out _ (List.getElem_mem _)
      have hstep : (bs.take (k + 1)).foldl crcByte 4294967295 = crcByte ((bs.take k).foldl crcByte 4294967295) (bs.getD k 0) := by
        rw [List.take_succ_eq_append_getElem (by omega), List.foldl_append, List.getD_eq_getElem?_getD, List.getElem?_eq_getElem (by omega)]; rfl
      have HS := Lib.hid hstep; clear hstep
      generalize (bs.take k).foldl crcByte 4294967295 = r at *
      generalize bs.getD k 0 = x at *
      have hT2 : TabOk wr := fun i hi => (hL.cell (p := ⟨0, i, none⟩) h0).trans (HT.out i hi)
      have HT2 := Lib.hid hT2; clear hT2
      go_wp2_with fail
      refine (half_any r x _ _ hlt32 hbyte hblk HT2.out).mono ?_; rintro en w1 ⟨rfl, hb1, hg1⟩
      have hL1 : Below w.heap.size w w1 := hL.grown hg1 hL.size (fun j hj => by cases hj; exact Nat.le_refl _)
      have hT3 : TabOk w1 := fun i hi => (hL1.cell (p := ⟨0, i, none⟩) h0).trans (HT.out i hi)
      have HT3 := Lib.hid hT3; clear hT3 HT2 hg1 hblk
      have hr1 := crcHalf_lt r x hlt32
      go_wp2_with fail
      rw [show ((x : Int) / 16) = ((x / 16 : Nat) : Int) by omega]
      refine (half_any _ (x / 16) _ _ hr1 (by omega) hb1 HT3.out).mono ?_; rintro en w2 ⟨rfl, hb2, hg2⟩
      have hL2 : Below w.heap.size w w2 := hL1.grown hg2 hL1.size (fun j hj => by cases hj; exact Nat.le_refl _)
      have hr2 := crcHalf_lt _ (x / 16) hr1
      have e2 : crcHalf (crcHalf r x) (x / 16) = crcByte r x := by unfold crcByte; rw [Nat.shiftRight_eq_div_pow]
      rw [e2] at hb2 hr2
      clear hg2 e2 hb1 hr1
      go_wp2_with fail
      go_roundw
      case rel => exact ⟨k + 1, by omega, by go_num, by rw [HS.out]; exact hr2, by rw [HS.out]; exact hb2, hL2⟩
      case measure => simp [intOf]; omega
    · have C := hblk.c1
      have hkk : bs.take k = bs := List.take_of_length_le (by omega)
      rw [hkk] at C hlt32
      clear hkk hblk
      generalize hR : bs.foldl crcByte 4294967295 = r at *
      have HR := Lib.hid hR; clear hR
      have e1 : bits .xor .u32 IntKind.u32.max (r : Int) = ((r ^^^ 4294967295 : Nat) : Int) := by
        rw [Nat.xor_comm]; exact u32_xor_nat 4294967295 r (by omega) hlt32
      go_wp2_with fail
      go_ret
      exact ⟨by rw [HR.out]; rfl, hL⟩


theorem sum_any (blk off n cap : Nat) (bs : List Nat) (w : World) (hn : bs.length = n) (hb : ∀ x ∈ bs, x < 256)
    (hc : ∀ j, j < n → w.cell? ⟨blk, off + j, none⟩ = some (.int .u8 (bs.getD j 0 : Nat))) (hlt : blk < w.heap.size) (hT : TabOk w) (hsmall : n ≤ 1000) :
    Calls Tryd.prog 80 #[.slice (some ⟨blk, off, none⟩) n cap] w fun en w' => en = .returned (.int .u32 ((bs.foldl crcByte 4294967295) ^^^ 4294967295 : Nat)) ∧ Below w.heap.size w w' := by
  have M := more_any blk off n cap bs w hn hb hc hlt hT hsmall
  have M' := Lib.hid M; clear M hb hc hT
  go_enter Tryd.func80, Tryd.ntmps80
  go_wp2_with fail
  refine M'.out.mono ?_; rintro en w1 ⟨rfl, hL⟩
  go_wp2_with fail
  go_ret
  exact ⟨rfl, hL⟩

theorem cut_known (en : Ending) (h : CutPost ⟨#[97, 98, 99]⟩ ⟨#[97, 98, 120]⟩ en) : en = .returned (.tuple #[.string ⟨#[97, 98, 120]⟩, .int .i64 0]) := by
  have p1 : cutP ⟨#[97, 98, 99]⟩ ⟨#[97, 98, 120]⟩ 1 = false := by decide +kernel
  have p2 : cutP ⟨#[97, 98, 99]⟩ ⟨#[97, 98, 120]⟩ 2 = false := by decide +kernel
  have p3 : cutP ⟨#[97, 98, 99]⟩ ⟨#[97, 98, 120]⟩ 3 = true := by decide +kernel
  have hs : ByteArray.size ⟨#[97, 98, 120]⟩ = 3 := rfl
  rcases h with ⟨n, h1, h2, h3, _, rfl⟩ | ⟨h, rfl⟩
  · have : n = 3 := by
      rw [hs] at h2
      rcases (show n = 1 ∨ n = 2 ∨ n = 3 by omega) with rfl | rfl | rfl
      · rw [p1] at h3; cases h3
      · rw [p2] at h3; cases h3
      · rfl
    subst this; rfl
  · have := h 3 (by omega) (by rw [hs]; omega); rw [p3] at this; cases this

set_option maxHeartbeats 400000 in
set_option maxRecDepth 100000 in
theorem awake_any (w : World) (hT : TabOk w) (h0 : 0 < w.heap.size) :
    Calls Tryd.prog 23 #[] w fun en w' => en = .returned (.bool true) ∧ Below w.heap.size w w' := by
  have HT := Lib.hid hT; clear hT
  have kc := fun (w : World) (C : Array Value) (n c : Nat) => Lib.run_convert_bytes_const (P := Tryd.prog) w 76 5 C n c Tryd.underlying76 Tryd.underlying5
  go_enter Tryd.func23, Tryd.ntmps23
  go_wp2_with fail
  refine (cut_any _ _ _ (by decide)).mono ?_; rintro en w1 ⟨hp, rfl⟩
  rw [cut_known _ hp]; clear hp
  go_wp2_with fail
  refine (sum_any w.heap.size 0 9 9 [49, 50, 51, 52, 53, 54, 55, 56, 57] _ rfl (by decide) ?_ (by simp) (HT.out.grow ((Below.refl _ _).alloc (Nat.le_refl _) _) h0) (by decide)).mono ?_
  · intro j hj
    rcases (show j = 0 ∨ j = 1 ∨ j = 2 ∨ j = 3 ∨ j = 4 ∨ j = 5 ∨ j = 6 ∨ j = 7 ∨ j = 8 by omega) with rfl | rfl | rfl | rfl | rfl | rfl | rfl | rfl | rfl <;> (rw [World.cell?_alloc_mark]; simp)
  rintro en w2 ⟨rfl, hL⟩
  rw [show ((([49, 50, 51, 52, 53, 54, 55, 56, 57] : List Nat).foldl crcByte 4294967295 ^^^ 4294967295 : Nat) : Int) = 3808858755 by decide +kernel]
  go_wp2_with fail
  go_ret
  exact ⟨rfl, lstep ((Below.refl _ _).alloc (Nat.le_refl _) _) hL (Nat.le_refl _)⟩

end Go.Proofs.YtapglfnjoppjiaaDoor
