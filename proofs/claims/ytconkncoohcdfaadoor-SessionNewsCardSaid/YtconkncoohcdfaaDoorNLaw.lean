/- What the law SessionNews computes: true, and what was there stays; for every node and every configuration. -/
import Derived.Test.YtconkncoohcdfaaDoorNLeft2
namespace Go.Proofs.YtconkncoohcdfaaDoor
open Go.RowKit
set_option linter.unusedSimpArgs false
set_option linter.unusedVariables false
set_option maxRecDepth 100000
attribute [local go_sem ↓] Go.wp_at_zero Go.wp_at_succ

theorem newB_one : newB 1 1 1 256 0 [] = true := by decide

/-- the session of the smallest configuration there is -/
theorem one_calls (w : World) (hnm : RNamesIn w) (htab : Pow w) :
    Calls Tryd.prog 10 #[.int .u32 1, .agg #[.int .i64 1, .int .i64 1, .slice none 0 0, .int .i64 256, .int .i64 0, .int .u64 0]] w fun e w' => SomePtr e ∧ Below w.heap.size w w' := by
  refine (snew_calls 1 1 1 256 0 0 (by omega) (by omega) none [] 0 (fun _ => rfl) (by simp) w (fun h => absurd h (by simp)) hnm htab).mono ?_
  rintro e w' ⟨h, hb⟩
  rw [newB_one] at h
  obtain ⟨b, he, _⟩ := h
  exact ⟨⟨_, he⟩, hb⟩

/-- what the law's first part leaves -/
structure NewsAt (w : World) (N P : Nat) (cn cp : Array Value) (W : World) : Prop where
  arg : W.heap[N]? = some (.cells cn 43 (0, 0))
  cpy : W.heap[P]? = some (.cells cp 41 (0, 0))
  low : Below N w W
theorem NewsAt.grow {w : World} {N P : Nat} {cn cp : Array Value} {W W' : World} (h : NewsAt w N P cn cp W) (hb : Below W.heap.size W W') : NewsAt w N P cn cp W' :=
  ⟨bk_grown h.arg hb, bk_grown h.cpy hb, h.low.trans (hb.mono (Nat.le_of_lt (bk_lt h.arg)))⟩

set_option maxHeartbeats 16000000 in
theorem law_news (node sh cl ca pk wd : Int) (hnode : 0 ≤ node ∧ node < 4294967296) (hwd : 0 ≤ wd ∧ wd < 18446744073709551616) (A : Option Addr) (fs : List ByteArray) (cap : Nat) (hn : fs.length * 16 ≤ 140737488351232) (w : World) (hs : StrsIn A fs w) (hnm : RNamesIn w) (htab : Pow w) :
    Calls Tryd.prog 4 #[.agg #[.int .u32 node, .int .i64 sh, .int .i64 cl, .slice A fs.length cap, .int .i64 ca, .int .i64 pk, .int .u64 wd]] w fun e w' => e = .returned (.bool true) ∧ Below w.heap.size w w' := by
  have hcf := fun W h => conf_calls sh cl ca pk wd A fs cap hn W h
  have hsn := fun W g h a b => snew_calls node sh cl ca pk wd hnode hwd (some ⟨g, 0, none⟩) fs (fs.length + 1) (fun e => by cases e) (by omega) W h a b
  have hrn := fun W h a => rsnew_calls node sh cl ca pk wd hnode hwd A fs cap (by omega) W h a
  have hlf := fun W g h a => left_calls sh cl ca pk wd A fs cap g hn W h a
  unfold ConfRes at hcf
  unfold confC at hcf hsn hrn hlf
  obtain ⟨r, hr⟩ : ∃ r, r = newB node sh cl ca pk fs := ⟨_, rfl⟩
  simp only [← hr] at hsn hrn
  have HCF := Lib.hid hcf
  have HSN := Lib.hid hsn
  have HRN := Lib.hid hrn
  have HLF := Lib.hid hlf
  have HS := Lib.hid hs
  have HNM := Lib.hid hnm
  have HT := Lib.hid htab
  clear hcf hsn hrn hlf hs hnm htab hr hnode hwd
  have hB0 : Below w.heap.size w (w.alloc (.cells #[.int .u32 node, .int .i64 sh, .int .i64 cl, .slice A fs.length cap, .int .i64 ca, .int .i64 pk, .int .u64 wd] 43)) := (Below.refl _ _).alloc (Nat.le_refl _) _
  have HB0 := Lib.hid hB0
  clear hB0
  have start : ∀ (g : Nat) (w1 : World), Below (w.alloc (.cells #[.int .u32 node, .int .i64 sh, .int .i64 cl, .slice A fs.length cap, .int .i64 ca, .int .i64 pk, .int .u64 wd] 43)).heap.size (w.alloc (.cells #[.int .u32 node, .int .i64 sh, .int .i64 cl, .slice A fs.length cap, .int .i64 ca, .int .i64 pk, .int .u64 wd] 43)) w1 →
      NewsAt w w.heap.size w1.heap.size #[.int .u32 node, .int .i64 sh, .int .i64 cl, .slice A fs.length cap, .int .i64 ca, .int .i64 pk, .int .u64 wd] #[.int .i64 sh, .int .i64 cl, .slice (some ⟨g, 0, none⟩) fs.length (fs.length + 1), .int .i64 ca, .int .i64 pk, .int .u64 wd]
        (w1.alloc (.cells #[.int .i64 sh, .int .i64 cl, .slice (some ⟨g, 0, none⟩) fs.length (fs.length + 1), .int .i64 ca, .int .i64 pk, .int .u64 wd] 41)) := by
    intro g w1 hb1
    have g1 := bk_grown (bk_new w _) hb1
    have l1 := HB0.out.trans (hb1.mono HB0.out.size)
    exact ⟨bk_old g1 _, bk_new w1 _, l1.alloc (Nat.le_of_lt (bk_lt g1)) _⟩
  have HSTART := Lib.hid start
  clear start
  cases r with
  | false =>
    go_enter Tryd.func4, Tryd.ntmps4
    go_wp2_with fail
    refine (HCF.out _ (HS.out.below HB0.out)).mono ?_
    rintro e w1 ⟨⟨g, rfl, hm1⟩, hb1⟩
    have n1 := HSTART.out g w1 hb1
    have hm2 := hm1.below ((Below.refl w1.heap.size w1).alloc (Nat.le_refl _) (.cells #[.int .i64 sh, .int .i64 cl, .slice (some ⟨g, 0, none⟩) fs.length (fs.length + 1), .int .i64 ca, .int .i64 pk, .int .u64 wd] 41))
    have a0 := fun x => bk_cell (bk_old (bk_grown (bk_new w _) hb1) x) 0
    simp only [List.getElem?_toArray, List.getElem?_cons_zero, List.getElem?_cons_succ] at a0
    have z1 : w.heap.size < w1.heap.size := Nat.lt_of_lt_of_le (by simp) hb1.size
    have N1 := Lib.hid n1
    have M1 := Lib.hid hm2
    clear n1 hm2 hm1 hb1
    go_wp2_with fail
    refine (HSN.out _ g M1.out.strs (HNM.out.below N1.out.low) (HT.out.below N1.out.low)).mono ?_
    rintro e w2 ⟨hres, hb2⟩
    obtain rfl : e = .returned (.pointer none) := hres
    have n2 := N1.out.grow hb2
    have M2 := Lib.hid (M1.out.below hb2)
    have a0 := bk_cell n2.arg 0
    have a1 := bk_cell n2.arg 1
    have a2 := bk_cell n2.arg 2
    have a3 := bk_cell n2.arg 3
    have a4 := bk_cell n2.arg 4
    have a5 := bk_cell n2.arg 5
    have a6 := bk_cell n2.arg 6
    simp only [List.getElem?_toArray, List.getElem?_cons_zero, List.getElem?_cons_succ] at a0 a1 a2 a3 a4 a5 a6
    have N2 := Lib.hid n2
    clear n2 hb2 N1 M1
    go_wp2_with fail
    refine (HRN.out w2 (HS.out.below N2.out.low) (HT.out.below N2.out.low)).mono ?_
    rintro e w3 ⟨hres, hb3⟩
    obtain rfl : e = .returned (.pointer none) := hres
    have n3 := N2.out.grow hb3
    have M3 := Lib.hid (M2.out.below hb3)
    have a1 := bk_cell n3.arg 1
    have a2 := bk_cell n3.arg 2
    have a3 := bk_cell n3.arg 3
    have a4 := bk_cell n3.arg 4
    have a5 := bk_cell n3.arg 5
    have a6 := bk_cell n3.arg 6
    have p0 := bk_cell n3.cpy 0
    have p1 := bk_cell n3.cpy 1
    have p2 := bk_cell n3.cpy 2
    have p3 := bk_cell n3.cpy 3
    have p4 := bk_cell n3.cpy 4
    have p5 := bk_cell n3.cpy 5
    simp only [List.getElem?_toArray, List.getElem?_cons_zero, List.getElem?_cons_succ] at a1 a2 a3 a4 a5 a6 p0 p1 p2 p3 p4 p5
    have N3 := Lib.hid n3
    clear n3 hb3 N2 M2
    go_wp2_with fail
    refine (HLF.out w3 g (HS.out.below N3.out.low) M3.out).mono ?_
    rintro e w4 ⟨rfl, hb4⟩
    have N4 := Lib.hid (N3.out.grow hb4)
    clear hb4 N3 M3 a1 a2 a3 a4 a5 a6 p0 p1 p2 p3 p4 p5
    go_wp2_with fail
    refine (one_calls w4 (HNM.out.below N4.out.low) (HT.out.below N4.out.low)).mono ?_
    rintro e w5 ⟨⟨c, rfl⟩, hb5⟩
    have N5 := Lib.hid (N4.out.grow hb5)
    clear hb5 N4
    go_wp2
    go_ret
    exact ⟨rfl, N5.out.low⟩
  | true =>
    go_enter Tryd.func4, Tryd.ntmps4
    go_wp2_with fail
    refine (HCF.out _ (HS.out.below HB0.out)).mono ?_
    rintro e w1 ⟨⟨g, rfl, hm1⟩, hb1⟩
    have n1 := HSTART.out g w1 hb1
    have hm2 := hm1.below ((Below.refl w1.heap.size w1).alloc (Nat.le_refl _) (.cells #[.int .i64 sh, .int .i64 cl, .slice (some ⟨g, 0, none⟩) fs.length (fs.length + 1), .int .i64 ca, .int .i64 pk, .int .u64 wd] 41))
    have a0 := fun x => bk_cell (bk_old (bk_grown (bk_new w _) hb1) x) 0
    simp only [List.getElem?_toArray, List.getElem?_cons_zero, List.getElem?_cons_succ] at a0
    have z1 : w.heap.size < w1.heap.size := Nat.lt_of_lt_of_le (by simp) hb1.size
    have N1 := Lib.hid n1
    have M1 := Lib.hid hm2
    clear n1 hm2 hm1 hb1
    go_wp2_with fail
    refine (HSN.out _ g M1.out.strs (HNM.out.below N1.out.low) (HT.out.below N1.out.low)).mono ?_
    rintro e w2 ⟨hres, hb2⟩
    obtain ⟨b, rfl, hfresh⟩ := hres
    have I2 := Lib.hid hfresh.idle
    clear hfresh
    have n2 := N1.out.grow hb2
    have M2 := Lib.hid (M1.out.below hb2)
    have a0 := bk_cell n2.arg 0
    have a1 := bk_cell n2.arg 1
    have a2 := bk_cell n2.arg 2
    have a3 := bk_cell n2.arg 3
    have a4 := bk_cell n2.arg 4
    have a5 := bk_cell n2.arg 5
    have a6 := bk_cell n2.arg 6
    simp only [List.getElem?_toArray, List.getElem?_cons_zero, List.getElem?_cons_succ] at a0 a1 a2 a3 a4 a5 a6
    have N2 := Lib.hid n2
    clear n2 hb2 N1 M1
    go_wp2_with fail
    refine (HRN.out w2 (HS.out.below N2.out.low) (HT.out.below N2.out.low)).mono ?_
    rintro e w3 ⟨hres, hb3⟩
    obtain ⟨c, rfl⟩ := hres
    have I3 := Lib.hid (I2.out.below hb3)
    clear I2
    have n3 := N2.out.grow hb3
    have M3 := Lib.hid (M2.out.below hb3)
    have a1 := bk_cell n3.arg 1
    have a2 := bk_cell n3.arg 2
    have a3 := bk_cell n3.arg 3
    have a4 := bk_cell n3.arg 4
    have a5 := bk_cell n3.arg 5
    have a6 := bk_cell n3.arg 6
    have p0 := bk_cell n3.cpy 0
    have p1 := bk_cell n3.cpy 1
    have p2 := bk_cell n3.cpy 2
    have p3 := bk_cell n3.cpy 3
    have p4 := bk_cell n3.cpy 4
    have p5 := bk_cell n3.cpy 5
    simp only [List.getElem?_toArray, List.getElem?_cons_zero, List.getElem?_cons_succ] at a1 a2 a3 a4 a5 a6 p0 p1 p2 p3 p4 p5
    have N3 := Lib.hid n3
    clear n3 hb3 N2 M2
    go_wp2_with fail
    refine (HLF.out w3 g (HS.out.below N3.out.low) M3.out).mono ?_
    rintro e w4 ⟨rfl, hb4⟩
    have N4 := Lib.hid (N3.out.grow hb4)
    have I4 := Lib.hid (I3.out.below hb4)
    clear hb4 N3 M3 I3 a1 a2 a3 a4 a5 a6 p0 p1 p2 p3 p4 p5
    go_wp2_with fail
    refine (one_calls w4 (HNM.out.below N4.out.low) (HT.out.below N4.out.low)).mono ?_
    rintro e w5 ⟨⟨c', rfl⟩, hb5⟩
    have N5 := Lib.hid (N4.out.grow hb5)
    have I5 := Lib.hid (I4.out.below hb5)
    clear hb5 N4 I4
    go_wp2_with fail
    refine (waiting_calls b w5 I5.out).mono ?_
    rintro e w6 ⟨rfl, hb6⟩
    have hx6 := hb6.trans (((Below.refl w6.heap.size w6).alloc (Nat.le_refl _) (.cells zOp 27)).mono hb6.size)
    have N6 := Lib.hid (N5.out.grow hx6)
    have I6 := Lib.hid (I5.out.below hx6)
    clear hb6 hx6 N5 I5
    unfold zOp
    unfold zOp at N6 I6
    go_wp2_with fail
    refine (open_calls b _ I6.out).mono ?_
    rintro e w7 ⟨rfl, hb7⟩
    have hx7 := hb7.trans ((((Below.refl w7.heap.size w7).alloc (Nat.le_refl _) (.cells zTxn 24)).alloc (by simp) (.cells zStamp 31)).mono hb7.size)
    have N7 := Lib.hid (N6.out.grow hx7)
    have I7 := Lib.hid (I6.out.below hx7)
    clear hb7 hx7 N6 I6
    unfold zTxn zStamp
    unfold zTxn zStamp at N7 I7
    go_wp2_with fail
    refine (token_calls b _ I7.out).mono ?_
    rintro e w8 ⟨rfl, rfl⟩
    go_wp2_with fail
    refine (tick_calls b _ I7.out).mono ?_
    rintro e w9 ⟨rfl, rfl⟩
    go_wp2
    go_ret
    exact ⟨rfl, N7.out.low⟩
end Go.Proofs.YtconkncoohcdfaaDoor
