/- The document's Text of a configuration: what it refuses, and that it writes what it doesn't refuse. -/
import Derived.Test.YtconkncoohcdfaaDoorNText
namespace Go.Proofs.YtconkncoohcdfaaDoor
open Go.RowKit
set_option linter.unusedSimpArgs false
set_option linter.unusedVariables false
set_option maxRecDepth 100000
attribute [local go_sem ↓] Go.wp_at_zero Go.wp_at_succ

set_option maxHeartbeats 2000000 in
theorem rtext_bad (sh cl ca pk wd : Int) (A : Option Addr) (fs : List ByteArray) (cap : Nat) (hl : fs.length ≤ 9223372036854775807) (w : World) (hs : StrsIn A fs w) (hv : validB sh cl ca pk fs = false) :
    Calls Tryd.prog 33 #[.agg (confC sh cl (.slice A fs.length cap) ca pk wd)] w fun e w' => e = .returned (.tuple #[.string ⟨#[]⟩, .int .i64 1]) ∧ Below w.heap.size w w' := by
  have hb0 : Below w.heap.size w (w.alloc (.cells (confC sh cl (.slice A fs.length cap) ca pk wd) 41)) := (Below.refl _ _).alloc (Nat.le_refl _) _
  have hc := rrvalid_calls sh cl ca pk wd A fs cap hl _ (hs.below hb0)
  rw [hv] at hc
  have HC := Lib.hid hc
  unfold confC at HC hb0 ⊢
  clear hc hs hv
  go_enter Tryd.func33, Tryd.ntmps33
  go_wp2_with fail
  refine HC.out.mono ?_
  rintro e w1 ⟨rfl, hb1⟩
  go_wp2
  go_ret2
  exact ⟨rfl, hb0.trans (hb1.mono hb0.size)⟩

set_option maxHeartbeats 8000000 in
theorem rtext_good (sh cl ca pk : Int) (wd : Nat) (hwd : wd < 18446744073709551616) (A : Option Addr) (fs : List ByteArray) (cap : Nat) (w : World) (hs : StrsIn A fs w) (htab : Pow w) (hv : validB sh cl ca pk fs = true) :
    Calls Tryd.prog 33 #[.agg (confC sh cl (.slice A fs.length cap) ca pk wd)] w fun e w' => SomeText e ∧ Below w.heap.size w w' := by
  obtain ⟨⟨⟨p1, p2⟩, ⟨p3, p4⟩, ⟨p5, p6⟩, ⟨p7, p8⟩, p9⟩, hsm⟩ := valid_parts hv
  have hfl : fs.length ≤ 5 := by omega
  have hb0 : Below w.heap.size w (w.alloc (.cells (confC sh cl (.slice A fs.length cap) ca pk wd) 41)) := (Below.refl _ _).alloc (Nat.le_refl _) _
  have hc := rrvalid_calls sh cl ca pk wd A fs cap (by omega) _ (hs.below hb0)
  rw [hv] at hc
  have i0 := fun W => itoa_calls sh (by omega) (by omega) W
  have i1 := fun W => itoa_calls cl (by omega) (by omega) W
  have i2 := fun W => itoa_calls ca (by omega) (by omega) W
  have i3 := fun W => itoa_calls pk (by omega) (by omega) W
  have i4 := fun W => formatUint_calls wd hwd W
  have l0 := itoa_len sh (by omega) (by omega)
  have l1 := itoa_len cl (by omega) (by omega)
  have l2 := itoa_len ca (by omega) (by omega)
  have l3 := itoa_len pk (by omega) (by omega)
  have l4 := dec_len wd hwd
  obtain ⟨S0, hS0⟩ : ∃ S : ByteArray, S = ⟨(Lib.itoa sh).toArray⟩ := ⟨_, rfl⟩
  obtain ⟨S1, hS1⟩ : ∃ S : ByteArray, S = ⟨(Lib.itoa cl).toArray⟩ := ⟨_, rfl⟩
  obtain ⟨S2, hS2⟩ : ∃ S : ByteArray, S = ⟨(Lib.itoa ca).toArray⟩ := ⟨_, rfl⟩
  obtain ⟨S3, hS3⟩ : ∃ S : ByteArray, S = ⟨(Lib.itoa pk).toArray⟩ := ⟨_, rfl⟩
  obtain ⟨S4, hS4⟩ : ∃ S : ByteArray, S = ⟨(Lib.decDigits wd).toArray⟩ := ⟨_, rfl⟩
  simp only [← hS0] at i0
  simp only [← hS1] at i1
  simp only [← hS2] at i2
  simp only [← hS3] at i3
  simp only [← hS4] at i4
  replace l0 : S0.size ≤ 21 := by rw [hS0]; simpa [ByteArray.size] using l0
  replace l1 : S1.size ≤ 21 := by rw [hS1]; simpa [ByteArray.size] using l1
  replace l2 : S2.size ≤ 21 := by rw [hS2]; simpa [ByteArray.size] using l2
  replace l3 : S3.size ≤ 21 := by rw [hS3]; simpa [ByteArray.size] using l3
  replace l4 : S4.size ≤ 20 := by rw [hS4]; simpa [ByteArray.size] using l4
  have I0 := Lib.hid i0
  have I1 := Lib.hid i1
  have I2 := Lib.hid i2
  have I3 := Lib.hid i3
  have I4 := Lib.hid i4
  have HC := Lib.hid hc
  have HS := Lib.hid hs
  have HSM := Lib.hid hsm
  have HT := Lib.hid htab
  have HB0 := Lib.hid hb0
  unfold confC at HC HB0 ⊢
  clear hc hs hv hsm hb0 htab i0 i1 i2 i3 i4 hS0 hS1 hS2 hS3 hS4 p9 p1 p2 p3 p4 p5 p6 p7 p8 hwd
  go_enter Tryd.func33, Tryd.ntmps33
  go_wp2_with fail
  refine HC.out.mono ?_
  rintro e w1 ⟨rfl, hb1⟩
  clear HC
  have g1 := (hb1.block w.heap.size (by simp)).trans (bk_new w _)
  have c0 := bk_cell g1 0
  have c1 := bk_cell g1 1
  have c2 := bk_cell g1 2
  have c3 := bk_cell g1 3
  have c4 := bk_cell g1 4
  have c5 := bk_cell g1 5
  simp only [List.getElem?_toArray, List.getElem?_cons_zero, List.getElem?_cons_succ] at c0 c1 c2 c3 c4 c5
  have z1 : w.heap.size < w1.heap.size := bk_lt g1
  have hbw := HB0.out.trans (hb1.mono HB0.out.size)
  have HBW := Lib.hid hbw
  have G1 := Lib.hid g1
  clear hb1 g1 HB0 hbw
  have d0 := cell_aged c0
  have d1 := cell_aged c1
  have d2 := cell_aged c2
  have d3 := cell_aged c3
  have d4 := cell_aged c4
  have d5 := cell_aged c5
  have HT1 := Lib.hid (fun p => (HT.out.below HBW.out).below (aged_below w1 p))
  go_wp2_with fail
  refine wp_region_aged (by kernel_rfl) (by kernel_rfl) ?_
  repeat (go_big_quiet_step ((first
    | exact calls_aged (I0.out _ (HT1.out _))
    | exact calls_aged (I1.out _ (HT1.out _))
    | exact calls_aged (I2.out _ (HT1.out _)))))
  refine wpQuiet_nil ?_
  rintro _ ⟨p, rfl⟩
  have hp := aged_below w1 p
  have g2 := bk_grown G1.out hp
  have hbw2 := HBW.out.trans (hp.mono HBW.out.size)
  obtain ⟨w2, hw2⟩ : ∃ w2, w2 = aged w1 p := ⟨_, rfl⟩
  rw [← hw2] at g2 hbw2 ⊢
  have z2 : w.heap.size < w2.heap.size := bk_lt g2
  have HBW2 := Lib.hid hbw2
  have G2 := Lib.hid g2
  clear c0 c1 c2 c3 c4 c5 d0 d1 d2 d3 d4 d5 hw2 hp HT1 G1 HBW z1 hbw2 g2
  have d4 := cell_aged (show w2.cell? ⟨w.heap.size, 4, none⟩ = some (.int .i64 pk) from bk_cell G2.out 4)
  have d5 := cell_aged (show w2.cell? ⟨w.heap.size, 5, none⟩ = some (.int .u64 wd) from bk_cell G2.out 5)
  have HT2 := Lib.hid (fun p => (HT.out.below HBW2.out).below (aged_below w2 p))
  go_wp2_with fail
  refine wp_region_aged (by kernel_rfl) (by kernel_rfl) ?_
  repeat (go_big_quiet_step ((first
    | exact calls_aged (I3.out _ (HT2.out _))
    | exact calls_aged (I4.out _ (HT2.out _)))))
  refine wpQuiet_nil ?_
  rintro _ ⟨q, rfl⟩
  have hp := aged_below w2 q
  have g3 := bk_grown G2.out hp
  have hbw3 := HBW2.out.trans (hp.mono HBW2.out.size)
  obtain ⟨w3, hw3⟩ : ∃ w3, w3 = aged w2 q := ⟨_, rfl⟩
  rw [← hw3] at g3 hbw3 ⊢
  clear d4 d5 hw3 hp HT2 G2 HBW2 z2
  go_wp2_with fail
  obtain ⟨cs, hcs⟩ : ∃ cs : Array Value, cs = #[.int .i64 sh, .int .i64 cl, .slice A fs.length cap, .int .i64 ca, .int .i64 pk, .int .u64 wd] := ⟨_, rfl⟩
  rw [← hcs] at g3
  have hcs2 : cs[2]? = some (.slice A fs.length cap) := by rw [hcs]; rfl
  have HC2 := Lib.hid hcs2
  clear hcs2 hcs
  go_loopw [4, 5] (fun t i W => ∃ (j : Nat) (T : ByteArray), j ≤ fs.length ∧ i = .int .i64 j ∧ t = .string T ∧ T.size ≤ 400 + 128 * j ∧ Below w.heap.size w W ∧ W.heap[w.heap.size]? = some (.cells cs 41 (0, 0))) (fun _ i _ => fs.length - (intOf i).toNat)
  case atStart =>
    refine ⟨0, _, by omega, rfl, rfl, ?_, hbw3, g3⟩
    simp only [ByteArray.size_append]
    simp only [ByteArray.size] at l0 l1 l2 l3 l4 ⊢
    simp
    simp at l0 l1 l2 l3 l4
    omega
  case round =>
    obtain ⟨j, T, hj, rfl, rfl, hTs, hbl, hg⟩ := hrel
    have z : w.heap.size < wr.heap.size := bk_lt hg
    have k2 : wr.cell? ⟨w.heap.size, 2, none⟩ = some (.slice A fs.length cap) := (bk_cell hg 2).trans HC2.out
    have HBL := Lib.hid hbl
    have HG := Lib.hid hg
    clear hbl hg hbw3 g3
    by_cases hlt2 : j < fs.length
    · obtain ⟨b, off, rfl, hc⟩ := HS.out (by omega)
      have hck := cell_of_below HBL.out (hc j hlt2)
      have hsm := HSM.out j hlt2
      obtain ⟨s, hsd⟩ : ∃ s, s = fs[j] := ⟨_, rfl⟩
      rw [← hsd] at hck hsm
      clear hc hsd
      have hwl := wordB_len s.data.toList
      have hwc := rword_calls s wr (by omega)
      have hsl : s.data.toList.length = s.size := by simp
      rw [hsl] at hwl
      obtain ⟨D, hD⟩ : ∃ D : ByteArray, D = ⟨(wordB s.data.toList).toArray⟩ := ⟨_, rfl⟩
      rw [← hD] at hwc
      have hds : D.size ≤ 100 := by rw [hD]; simp [ByteArray.size]; omega
      have HF := Lib.hid hwc
      clear hwc hD hwl hsl
      go_wp2_with fail
      refine HF.out.mono ?_
      rintro e w4 ⟨rfl, hb4⟩
      have hg4 := bk_grown HG.out hb4
      have hbl4 := HBL.out.trans (hb4.mono (Nat.le_of_lt z))
      have H4 := Lib.hid hg4
      have HB4 := Lib.hid hbl4
      clear HF hck hg4 hbl4 hb4
      go_wp2
      go_roundw
      case rel => exact ⟨j + 1, _, by omega, by go_num, rfl, by simp only [ByteArray.size_append, show (⟨#[115, 112, 108, 105, 116, 32]⟩ : ByteArray).size = 6 from rfl, show (⟨#[10]⟩ : ByteArray).size = 1 from rfl]; omega, HB4.out, H4.out⟩
      case measure => simp [intOf]; omega
    · obtain rfl : j = fs.length := by omega
      go_wp2
      go_ret2
      exact ⟨⟨_, rfl⟩, HBL.out⟩
end Go.Proofs.YtconkncoohcdfaaDoor
