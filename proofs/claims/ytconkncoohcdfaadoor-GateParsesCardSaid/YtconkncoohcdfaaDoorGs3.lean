/- What the document guesses of a line's fields, form by form. -/
import Derived.Test.YtconkncoohcdfaaDoorGs
namespace Go.Proofs.YtconkncoohcdfaaDoor
open Go.RowKit
set_option linter.unusedSimpArgs false
set_option linter.unusedVariables false
set_option maxRecDepth 100000
attribute [local go_sem ↓] Go.wp_at_zero Go.wp_at_succ

set_option maxHeartbeats 4000000 in
theorem guess_begin_at (b : Nat) (fs : List ByteArray) (cap : Nat) (hpos : 0 < fs.length) (hsz : ∀ s ∈ fs, s.size ≤ 1000000000) (hfl : fs.length ≤ 1000000000) (hv : fs[0].data.toList = vBegin) (hn : 1 < fs.length) (hm : fs[1].data.toList = vAt) (w : World) (h : Fl b fs w) :
    Calls Tryd.prog 43 #[.slice (some ⟨b, 0, none⟩) fs.length cap] w fun e w' => e = .returned (.agg (opC (1) true true false ⟨(unr (texts fs) 2).toArray⟩ ⟨#[]⟩ ⟨#[]⟩ ⟨#[]⟩ (0))) ∧ Below w.heap.size w w' := by
  obtain ⟨s0, hs0⟩ : ∃ s, s = fs[0] := ⟨_, rfl⟩
  rw [← hs0] at hv
  obtain ⟨T2, hT2⟩ : ∃ T : ByteArray, T = ⟨(unr (texts fs) 2).toArray⟩ := ⟨_, rfl⟩
  have hc2 := fun W hW => runr_calls b fs cap 2 hsz hfl (by omega) W hW
  simp only [← hT2] at hc2 ⊢
  have HC2 := Lib.hid hc2
  clear hc2 hT2
  have eBegin : (s0.toList == [98, 101, 103, 105, 110]) = true := by rw [ByteArray.toList_eq, hv]; rfl
  have eGet : (s0.toList == [103, 101, 116]) = false := by rw [ByteArray.toList_eq, hv]; rfl
  have eDel : (s0.toList == [100, 101, 108]) = false := by rw [ByteArray.toList_eq, hv]; rfl
  have ePut : (s0.toList == [112, 117, 116]) = false := by rw [ByteArray.toList_eq, hv]; rfl
  have eScan : (s0.toList == [115, 99, 97, 110]) = false := by rw [ByteArray.toList_eq, hv]; rfl
  have eRscan : (s0.toList == [114, 115, 99, 97, 110]) = false := by rw [ByteArray.toList_eq, hv]; rfl
  have eCommit : (s0.toList == [99, 111, 109, 109, 105, 116]) = false := by rw [ByteArray.toList_eq, hv]; rfl
  have eAbort : (s0.toList == [97, 98, 111, 114, 116]) = false := by rw [ByteArray.toList_eq, hv]; rfl
  obtain ⟨T1, hT1⟩ : ∃ T : ByteArray, T = ⟨(unr (texts fs) 1).toArray⟩ := ⟨_, rfl⟩
  have hc := fun W hW => runr_calls b fs cap 1 hsz hfl (by omega) W hW
  simp only [← hT1] at hc ⊢
  have HC := Lib.hid hc
  have H0 := h
  have hp : (0 : Int) < (fs.length : Int) := by omega
  clear hc hT1
  obtain ⟨s1, hs1⟩ : ∃ s, s = fs[1] := ⟨_, rfl⟩
  rw [← hs1] at hm
  have c1f : ∀ W, Below w.heap.size w W → W.cell? ⟨b, 1, none⟩ = some (.string s1) := fun W hW => by rw [hs1]; exact h.below hW 1 hn
  have C1F := Lib.hid c1f
  have m1 : (s1.toList == [97, 116]) = true := by rw [ByteArray.toList_eq]; rw [hm]; rfl
  have m2 : (s1.toList == [114, 111]) = false := by rw [ByteArray.toList_eq]; rw [hm]; rfl
  have hlt1 : (1 : Int) < (fs.length : Int) := by omega
  clear c1f hs1 hm
  have HH := Lib.hid h
  have HS0 := Lib.hid hs0
  clear h hv hs0 H0
  go_enter Tryd.func43, Tryd.ntmps43
  go_wp2_with fail
  have hB0 : Below w.heap.size w (w.alloc (.cells zeroOp 27)) := (Below.refl _ _).alloc (Nat.le_refl _) _
  refine (HC.out _ (HH.out.below hB0)).mono ?_
  rintro e w1 ⟨rfl, hb1⟩
  have hb : Below w.heap.size w w1 := hB0.trans (hb1.mono hB0.size)
  have R1 := Lib.hid ((hb1.block w.heap.size (by simp)).trans (heap_alloc_new w _))
  have c0 : w1.cell? ⟨b, 0, none⟩ = some (.string s0) := by rw [HS0.out]; exact HH.out.below hb 0 hpos
  have c1 := C1F.out w1 hb
  have HBB := Lib.hid hb
  have hz1 := hb1.size
  clear HC hb1 hB0 hb
  go_wp2_with fail
  refine (HC2.out w1 (HH.out.below HBB.out)).mono ?_
  rintro e w2 ⟨rfl, hb2⟩
  have R2 := Lib.hid ((hb2.block w.heap.size (Array.getElem?_eq_some_iff.1 R1.out).1).trans R1.out)
  have HBB := Lib.hid (HBB.out.trans (hb2.mono HBB.out.size))
  clear HC2 hb2 c0
  have RA := R2
  have SA := Lib.hid (Only.refl (fun k => w.heap.size ≤ k) w2)
  obtain ⟨y0, hy0⟩ : ∃ x, w2.setCell ⟨w.heap.size, 0, none⟩ (.int .i64 1) = x := ⟨_, rfl⟩
  have qy0 : w2.cell? ⟨w.heap.size, 0, none⟩ = some (.int .i64 0) := block_cell RA.out 0
  have fy0 : w2.frozen? ⟨w.heap.size, 0, none⟩ = false := block_frozen RA.out 0
  replace RA := Lib.hid (hy0 ▸ (put_block RA.out 0 (.int .i64 1) (show zeroOp.setIfInBounds 0 (.int .i64 1) = (#[.int .i64 1, .bool false, .bool false, .bool false, .string ⟨#[]⟩, .string ⟨#[]⟩, .string ⟨#[]⟩, .string ⟨#[]⟩, .int .i64 0] : Array Value) from rfl)))
  replace SA := Lib.hid (hy0 ▸ (Only.setCell SA.out (p := ⟨w.heap.size, 0, none⟩) (.inl (Nat.le_refl _)) (.int .i64 1)))
  obtain ⟨y1, hy1⟩ : ∃ x, y0.setCell ⟨w.heap.size, 1, none⟩ (.bool true) = x := ⟨_, rfl⟩
  have qy1 : y0.cell? ⟨w.heap.size, 1, none⟩ = some (.bool false) := block_cell RA.out 1
  have fy1 : y0.frozen? ⟨w.heap.size, 1, none⟩ = false := block_frozen RA.out 1
  replace RA := Lib.hid (hy1 ▸ (put_block RA.out 1 (.bool true) (show (#[.int .i64 1, .bool false, .bool false, .bool false, .string ⟨#[]⟩, .string ⟨#[]⟩, .string ⟨#[]⟩, .string ⟨#[]⟩, .int .i64 0] : Array Value).setIfInBounds 1 (.bool true) = (#[.int .i64 1, .bool true, .bool false, .bool false, .string ⟨#[]⟩, .string ⟨#[]⟩, .string ⟨#[]⟩, .string ⟨#[]⟩, .int .i64 0] : Array Value) from rfl)))
  replace SA := Lib.hid (hy1 ▸ (Only.setCell SA.out (p := ⟨w.heap.size, 1, none⟩) (.inl (Nat.le_refl _)) (.bool true)))
  obtain ⟨y2, hy2⟩ : ∃ x, y1.setCell ⟨w.heap.size, 2, none⟩ (.bool true) = x := ⟨_, rfl⟩
  have qy2 : y1.cell? ⟨w.heap.size, 2, none⟩ = some (.bool false) := block_cell RA.out 2
  have fy2 : y1.frozen? ⟨w.heap.size, 2, none⟩ = false := block_frozen RA.out 2
  replace RA := Lib.hid (hy2 ▸ (put_block RA.out 2 (.bool true) (show (#[.int .i64 1, .bool true, .bool false, .bool false, .string ⟨#[]⟩, .string ⟨#[]⟩, .string ⟨#[]⟩, .string ⟨#[]⟩, .int .i64 0] : Array Value).setIfInBounds 2 (.bool true) = (#[.int .i64 1, .bool true, .bool true, .bool false, .string ⟨#[]⟩, .string ⟨#[]⟩, .string ⟨#[]⟩, .string ⟨#[]⟩, .int .i64 0] : Array Value) from rfl)))
  replace SA := Lib.hid (hy2 ▸ (Only.setCell SA.out (p := ⟨w.heap.size, 2, none⟩) (.inl (Nat.le_refl _)) (.bool true)))
  obtain ⟨y3, hy3⟩ : ∃ x, y2.setCell ⟨w.heap.size, 3, none⟩ (.bool false) = x := ⟨_, rfl⟩
  have qy3 : y2.cell? ⟨w.heap.size, 3, none⟩ = some (.bool false) := block_cell RA.out 3
  have fy3 : y2.frozen? ⟨w.heap.size, 3, none⟩ = false := block_frozen RA.out 3
  replace RA := Lib.hid (hy3 ▸ (put_block RA.out 3 (.bool false) (show (#[.int .i64 1, .bool true, .bool true, .bool false, .string ⟨#[]⟩, .string ⟨#[]⟩, .string ⟨#[]⟩, .string ⟨#[]⟩, .int .i64 0] : Array Value).setIfInBounds 3 (.bool false) = (#[.int .i64 1, .bool true, .bool true, .bool false, .string ⟨#[]⟩, .string ⟨#[]⟩, .string ⟨#[]⟩, .string ⟨#[]⟩, .int .i64 0] : Array Value) from rfl)))
  replace SA := Lib.hid (hy3 ▸ (Only.setCell SA.out (p := ⟨w.heap.size, 3, none⟩) (.inl (Nat.le_refl _)) (.bool false)))
  obtain ⟨y4, hy4⟩ : ∃ x, y3.setCell ⟨w.heap.size, 4, none⟩ (.string T2) = x := ⟨_, rfl⟩
  have qy4 : y3.cell? ⟨w.heap.size, 4, none⟩ = some (.string ⟨#[]⟩) := block_cell RA.out 4
  have fy4 : y3.frozen? ⟨w.heap.size, 4, none⟩ = false := block_frozen RA.out 4
  replace RA := Lib.hid (hy4 ▸ (put_block RA.out 4 (.string T2) (show (#[.int .i64 1, .bool true, .bool true, .bool false, .string ⟨#[]⟩, .string ⟨#[]⟩, .string ⟨#[]⟩, .string ⟨#[]⟩, .int .i64 0] : Array Value).setIfInBounds 4 (.string T2) = (#[.int .i64 1, .bool true, .bool true, .bool false, .string T2, .string ⟨#[]⟩, .string ⟨#[]⟩, .string ⟨#[]⟩, .int .i64 0] : Array Value) from rfl)))
  replace SA := Lib.hid (hy4 ▸ (Only.setCell SA.out (p := ⟨w.heap.size, 4, none⟩) (.inl (Nat.le_refl _)) (.string T2)))
  obtain ⟨y5, hy5⟩ : ∃ x, y4.setCell ⟨w.heap.size, 5, none⟩ (.string ⟨#[]⟩) = x := ⟨_, rfl⟩
  have qy5 : y4.cell? ⟨w.heap.size, 5, none⟩ = some (.string ⟨#[]⟩) := block_cell RA.out 5
  have fy5 : y4.frozen? ⟨w.heap.size, 5, none⟩ = false := block_frozen RA.out 5
  replace RA := Lib.hid (hy5 ▸ (put_block RA.out 5 (.string ⟨#[]⟩) (show (#[.int .i64 1, .bool true, .bool true, .bool false, .string T2, .string ⟨#[]⟩, .string ⟨#[]⟩, .string ⟨#[]⟩, .int .i64 0] : Array Value).setIfInBounds 5 (.string ⟨#[]⟩) = (#[.int .i64 1, .bool true, .bool true, .bool false, .string T2, .string ⟨#[]⟩, .string ⟨#[]⟩, .string ⟨#[]⟩, .int .i64 0] : Array Value) from rfl)))
  replace SA := Lib.hid (hy5 ▸ (Only.setCell SA.out (p := ⟨w.heap.size, 5, none⟩) (.inl (Nat.le_refl _)) (.string ⟨#[]⟩)))
  obtain ⟨y6, hy6⟩ : ∃ x, y5.setCell ⟨w.heap.size, 6, none⟩ (.string ⟨#[]⟩) = x := ⟨_, rfl⟩
  have qy6 : y5.cell? ⟨w.heap.size, 6, none⟩ = some (.string ⟨#[]⟩) := block_cell RA.out 6
  have fy6 : y5.frozen? ⟨w.heap.size, 6, none⟩ = false := block_frozen RA.out 6
  replace RA := Lib.hid (hy6 ▸ (put_block RA.out 6 (.string ⟨#[]⟩) (show (#[.int .i64 1, .bool true, .bool true, .bool false, .string T2, .string ⟨#[]⟩, .string ⟨#[]⟩, .string ⟨#[]⟩, .int .i64 0] : Array Value).setIfInBounds 6 (.string ⟨#[]⟩) = (#[.int .i64 1, .bool true, .bool true, .bool false, .string T2, .string ⟨#[]⟩, .string ⟨#[]⟩, .string ⟨#[]⟩, .int .i64 0] : Array Value) from rfl)))
  replace SA := Lib.hid (hy6 ▸ (Only.setCell SA.out (p := ⟨w.heap.size, 6, none⟩) (.inl (Nat.le_refl _)) (.string ⟨#[]⟩)))
  obtain ⟨y7, hy7⟩ : ∃ x, y6.setCell ⟨w.heap.size, 7, none⟩ (.string ⟨#[]⟩) = x := ⟨_, rfl⟩
  have qy7 : y6.cell? ⟨w.heap.size, 7, none⟩ = some (.string ⟨#[]⟩) := block_cell RA.out 7
  have fy7 : y6.frozen? ⟨w.heap.size, 7, none⟩ = false := block_frozen RA.out 7
  replace RA := Lib.hid (hy7 ▸ (put_block RA.out 7 (.string ⟨#[]⟩) (show (#[.int .i64 1, .bool true, .bool true, .bool false, .string T2, .string ⟨#[]⟩, .string ⟨#[]⟩, .string ⟨#[]⟩, .int .i64 0] : Array Value).setIfInBounds 7 (.string ⟨#[]⟩) = (#[.int .i64 1, .bool true, .bool true, .bool false, .string T2, .string ⟨#[]⟩, .string ⟨#[]⟩, .string ⟨#[]⟩, .int .i64 0] : Array Value) from rfl)))
  replace SA := Lib.hid (hy7 ▸ (Only.setCell SA.out (p := ⟨w.heap.size, 7, none⟩) (.inl (Nat.le_refl _)) (.string ⟨#[]⟩)))
  obtain ⟨y8, hy8⟩ : ∃ x, y7.setCell ⟨w.heap.size, 8, none⟩ (.int .i64 0) = x := ⟨_, rfl⟩
  have qy8 : y7.cell? ⟨w.heap.size, 8, none⟩ = some (.int .i64 0) := block_cell RA.out 8
  have fy8 : y7.frozen? ⟨w.heap.size, 8, none⟩ = false := block_frozen RA.out 8
  replace RA := Lib.hid (hy8 ▸ (put_block RA.out 8 (.int .i64 0) (show (#[.int .i64 1, .bool true, .bool true, .bool false, .string T2, .string ⟨#[]⟩, .string ⟨#[]⟩, .string ⟨#[]⟩, .int .i64 0] : Array Value).setIfInBounds 8 (.int .i64 0) = (opC (1) true true false T2 ⟨#[]⟩ ⟨#[]⟩ ⟨#[]⟩ (0)) from rfl)))
  replace SA := Lib.hid (hy8 ▸ (Only.setCell SA.out (p := ⟨w.heap.size, 8, none⟩) (.inl (Nat.le_refl _)) (.int .i64 0)))
  go_wp2
  (try simp only [Exit.inBlock, Exit.then])
  refine bodyPost_ret (results_cell_row rfl _ _ w.heap.size 27 (opC (1) true true false T2 ⟨#[]⟩ ⟨#[]⟩ ⟨#[]⟩ (0)) (0, 0) _ rfl RA.out Tryd.underlying27 rfl info_op) rfl ?_
  exact ⟨rfl, HBB.out.trans (SA.out.below (fun k hk => hk) (by have := HBB.out.size; omega))⟩

set_option maxHeartbeats 4000000 in
theorem guess_begin_ro (b : Nat) (fs : List ByteArray) (cap : Nat) (hpos : 0 < fs.length) (hsz : ∀ s ∈ fs, s.size ≤ 1000000000) (hfl : fs.length ≤ 1000000000) (hv : fs[0].data.toList = vBegin) (hn : 1 < fs.length) (hm : fs[1].data.toList = vRo) (w : World) (h : Fl b fs w) :
    Calls Tryd.prog 43 #[.slice (some ⟨b, 0, none⟩) fs.length cap] w fun e w' => e = .returned (.agg (opC (1) true false false ⟨(unr (texts fs) 2).toArray⟩ ⟨#[]⟩ ⟨#[]⟩ ⟨#[]⟩ (0))) ∧ Below w.heap.size w w' := by
  obtain ⟨s0, hs0⟩ : ∃ s, s = fs[0] := ⟨_, rfl⟩
  rw [← hs0] at hv
  obtain ⟨T2, hT2⟩ : ∃ T : ByteArray, T = ⟨(unr (texts fs) 2).toArray⟩ := ⟨_, rfl⟩
  have hc2 := fun W hW => runr_calls b fs cap 2 hsz hfl (by omega) W hW
  simp only [← hT2] at hc2 ⊢
  have HC2 := Lib.hid hc2
  clear hc2 hT2
  have eBegin : (s0.toList == [98, 101, 103, 105, 110]) = true := by rw [ByteArray.toList_eq, hv]; rfl
  have eGet : (s0.toList == [103, 101, 116]) = false := by rw [ByteArray.toList_eq, hv]; rfl
  have eDel : (s0.toList == [100, 101, 108]) = false := by rw [ByteArray.toList_eq, hv]; rfl
  have ePut : (s0.toList == [112, 117, 116]) = false := by rw [ByteArray.toList_eq, hv]; rfl
  have eScan : (s0.toList == [115, 99, 97, 110]) = false := by rw [ByteArray.toList_eq, hv]; rfl
  have eRscan : (s0.toList == [114, 115, 99, 97, 110]) = false := by rw [ByteArray.toList_eq, hv]; rfl
  have eCommit : (s0.toList == [99, 111, 109, 109, 105, 116]) = false := by rw [ByteArray.toList_eq, hv]; rfl
  have eAbort : (s0.toList == [97, 98, 111, 114, 116]) = false := by rw [ByteArray.toList_eq, hv]; rfl
  obtain ⟨T1, hT1⟩ : ∃ T : ByteArray, T = ⟨(unr (texts fs) 1).toArray⟩ := ⟨_, rfl⟩
  have hc := fun W hW => runr_calls b fs cap 1 hsz hfl (by omega) W hW
  simp only [← hT1] at hc ⊢
  have HC := Lib.hid hc
  have H0 := h
  have hp : (0 : Int) < (fs.length : Int) := by omega
  clear hc hT1
  obtain ⟨s1, hs1⟩ : ∃ s, s = fs[1] := ⟨_, rfl⟩
  rw [← hs1] at hm
  have c1f : ∀ W, Below w.heap.size w W → W.cell? ⟨b, 1, none⟩ = some (.string s1) := fun W hW => by rw [hs1]; exact h.below hW 1 hn
  have C1F := Lib.hid c1f
  have m1 : (s1.toList == [97, 116]) = false := by rw [ByteArray.toList_eq]; rw [hm]; rfl
  have m2 : (s1.toList == [114, 111]) = true := by rw [ByteArray.toList_eq]; rw [hm]; rfl
  have hlt1 : (1 : Int) < (fs.length : Int) := by omega
  clear c1f hs1 hm
  have HH := Lib.hid h
  have HS0 := Lib.hid hs0
  clear h hv hs0 H0
  go_enter Tryd.func43, Tryd.ntmps43
  go_wp2_with fail
  have hB0 : Below w.heap.size w (w.alloc (.cells zeroOp 27)) := (Below.refl _ _).alloc (Nat.le_refl _) _
  refine (HC.out _ (HH.out.below hB0)).mono ?_
  rintro e w1 ⟨rfl, hb1⟩
  have hb : Below w.heap.size w w1 := hB0.trans (hb1.mono hB0.size)
  have R1 := Lib.hid ((hb1.block w.heap.size (by simp)).trans (heap_alloc_new w _))
  have c0 : w1.cell? ⟨b, 0, none⟩ = some (.string s0) := by rw [HS0.out]; exact HH.out.below hb 0 hpos
  have c1 := C1F.out w1 hb
  have HBB := Lib.hid hb
  have hz1 := hb1.size
  clear HC hb1 hB0 hb
  go_wp2_with fail
  refine (HC2.out w1 (HH.out.below HBB.out)).mono ?_
  rintro e w2 ⟨rfl, hb2⟩
  have R2 := Lib.hid ((hb2.block w.heap.size (Array.getElem?_eq_some_iff.1 R1.out).1).trans R1.out)
  have HBB := Lib.hid (HBB.out.trans (hb2.mono HBB.out.size))
  clear HC2 hb2 c0
  have RA := R2
  have SA := Lib.hid (Only.refl (fun k => w.heap.size ≤ k) w2)
  obtain ⟨y0, hy0⟩ : ∃ x, w2.setCell ⟨w.heap.size, 0, none⟩ (.int .i64 1) = x := ⟨_, rfl⟩
  have qy0 : w2.cell? ⟨w.heap.size, 0, none⟩ = some (.int .i64 0) := block_cell RA.out 0
  have fy0 : w2.frozen? ⟨w.heap.size, 0, none⟩ = false := block_frozen RA.out 0
  replace RA := Lib.hid (hy0 ▸ (put_block RA.out 0 (.int .i64 1) (show zeroOp.setIfInBounds 0 (.int .i64 1) = (#[.int .i64 1, .bool false, .bool false, .bool false, .string ⟨#[]⟩, .string ⟨#[]⟩, .string ⟨#[]⟩, .string ⟨#[]⟩, .int .i64 0] : Array Value) from rfl)))
  replace SA := Lib.hid (hy0 ▸ (Only.setCell SA.out (p := ⟨w.heap.size, 0, none⟩) (.inl (Nat.le_refl _)) (.int .i64 1)))
  obtain ⟨y1, hy1⟩ : ∃ x, y0.setCell ⟨w.heap.size, 1, none⟩ (.bool true) = x := ⟨_, rfl⟩
  have qy1 : y0.cell? ⟨w.heap.size, 1, none⟩ = some (.bool false) := block_cell RA.out 1
  have fy1 : y0.frozen? ⟨w.heap.size, 1, none⟩ = false := block_frozen RA.out 1
  replace RA := Lib.hid (hy1 ▸ (put_block RA.out 1 (.bool true) (show (#[.int .i64 1, .bool false, .bool false, .bool false, .string ⟨#[]⟩, .string ⟨#[]⟩, .string ⟨#[]⟩, .string ⟨#[]⟩, .int .i64 0] : Array Value).setIfInBounds 1 (.bool true) = (#[.int .i64 1, .bool true, .bool false, .bool false, .string ⟨#[]⟩, .string ⟨#[]⟩, .string ⟨#[]⟩, .string ⟨#[]⟩, .int .i64 0] : Array Value) from rfl)))
  replace SA := Lib.hid (hy1 ▸ (Only.setCell SA.out (p := ⟨w.heap.size, 1, none⟩) (.inl (Nat.le_refl _)) (.bool true)))
  obtain ⟨y2, hy2⟩ : ∃ x, y1.setCell ⟨w.heap.size, 2, none⟩ (.bool false) = x := ⟨_, rfl⟩
  have qy2 : y1.cell? ⟨w.heap.size, 2, none⟩ = some (.bool false) := block_cell RA.out 2
  have fy2 : y1.frozen? ⟨w.heap.size, 2, none⟩ = false := block_frozen RA.out 2
  replace RA := Lib.hid (hy2 ▸ (put_block RA.out 2 (.bool false) (show (#[.int .i64 1, .bool true, .bool false, .bool false, .string ⟨#[]⟩, .string ⟨#[]⟩, .string ⟨#[]⟩, .string ⟨#[]⟩, .int .i64 0] : Array Value).setIfInBounds 2 (.bool false) = (#[.int .i64 1, .bool true, .bool false, .bool false, .string ⟨#[]⟩, .string ⟨#[]⟩, .string ⟨#[]⟩, .string ⟨#[]⟩, .int .i64 0] : Array Value) from rfl)))
  replace SA := Lib.hid (hy2 ▸ (Only.setCell SA.out (p := ⟨w.heap.size, 2, none⟩) (.inl (Nat.le_refl _)) (.bool false)))
  obtain ⟨y3, hy3⟩ : ∃ x, y2.setCell ⟨w.heap.size, 3, none⟩ (.bool false) = x := ⟨_, rfl⟩
  have qy3 : y2.cell? ⟨w.heap.size, 3, none⟩ = some (.bool false) := block_cell RA.out 3
  have fy3 : y2.frozen? ⟨w.heap.size, 3, none⟩ = false := block_frozen RA.out 3
  replace RA := Lib.hid (hy3 ▸ (put_block RA.out 3 (.bool false) (show (#[.int .i64 1, .bool true, .bool false, .bool false, .string ⟨#[]⟩, .string ⟨#[]⟩, .string ⟨#[]⟩, .string ⟨#[]⟩, .int .i64 0] : Array Value).setIfInBounds 3 (.bool false) = (#[.int .i64 1, .bool true, .bool false, .bool false, .string ⟨#[]⟩, .string ⟨#[]⟩, .string ⟨#[]⟩, .string ⟨#[]⟩, .int .i64 0] : Array Value) from rfl)))
  replace SA := Lib.hid (hy3 ▸ (Only.setCell SA.out (p := ⟨w.heap.size, 3, none⟩) (.inl (Nat.le_refl _)) (.bool false)))
  obtain ⟨y4, hy4⟩ : ∃ x, y3.setCell ⟨w.heap.size, 4, none⟩ (.string T2) = x := ⟨_, rfl⟩
  have qy4 : y3.cell? ⟨w.heap.size, 4, none⟩ = some (.string ⟨#[]⟩) := block_cell RA.out 4
  have fy4 : y3.frozen? ⟨w.heap.size, 4, none⟩ = false := block_frozen RA.out 4
  replace RA := Lib.hid (hy4 ▸ (put_block RA.out 4 (.string T2) (show (#[.int .i64 1, .bool true, .bool false, .bool false, .string ⟨#[]⟩, .string ⟨#[]⟩, .string ⟨#[]⟩, .string ⟨#[]⟩, .int .i64 0] : Array Value).setIfInBounds 4 (.string T2) = (#[.int .i64 1, .bool true, .bool false, .bool false, .string T2, .string ⟨#[]⟩, .string ⟨#[]⟩, .string ⟨#[]⟩, .int .i64 0] : Array Value) from rfl)))
  replace SA := Lib.hid (hy4 ▸ (Only.setCell SA.out (p := ⟨w.heap.size, 4, none⟩) (.inl (Nat.le_refl _)) (.string T2)))
  obtain ⟨y5, hy5⟩ : ∃ x, y4.setCell ⟨w.heap.size, 5, none⟩ (.string ⟨#[]⟩) = x := ⟨_, rfl⟩
  have qy5 : y4.cell? ⟨w.heap.size, 5, none⟩ = some (.string ⟨#[]⟩) := block_cell RA.out 5
  have fy5 : y4.frozen? ⟨w.heap.size, 5, none⟩ = false := block_frozen RA.out 5
  replace RA := Lib.hid (hy5 ▸ (put_block RA.out 5 (.string ⟨#[]⟩) (show (#[.int .i64 1, .bool true, .bool false, .bool false, .string T2, .string ⟨#[]⟩, .string ⟨#[]⟩, .string ⟨#[]⟩, .int .i64 0] : Array Value).setIfInBounds 5 (.string ⟨#[]⟩) = (#[.int .i64 1, .bool true, .bool false, .bool false, .string T2, .string ⟨#[]⟩, .string ⟨#[]⟩, .string ⟨#[]⟩, .int .i64 0] : Array Value) from rfl)))
  replace SA := Lib.hid (hy5 ▸ (Only.setCell SA.out (p := ⟨w.heap.size, 5, none⟩) (.inl (Nat.le_refl _)) (.string ⟨#[]⟩)))
  obtain ⟨y6, hy6⟩ : ∃ x, y5.setCell ⟨w.heap.size, 6, none⟩ (.string ⟨#[]⟩) = x := ⟨_, rfl⟩
  have qy6 : y5.cell? ⟨w.heap.size, 6, none⟩ = some (.string ⟨#[]⟩) := block_cell RA.out 6
  have fy6 : y5.frozen? ⟨w.heap.size, 6, none⟩ = false := block_frozen RA.out 6
  replace RA := Lib.hid (hy6 ▸ (put_block RA.out 6 (.string ⟨#[]⟩) (show (#[.int .i64 1, .bool true, .bool false, .bool false, .string T2, .string ⟨#[]⟩, .string ⟨#[]⟩, .string ⟨#[]⟩, .int .i64 0] : Array Value).setIfInBounds 6 (.string ⟨#[]⟩) = (#[.int .i64 1, .bool true, .bool false, .bool false, .string T2, .string ⟨#[]⟩, .string ⟨#[]⟩, .string ⟨#[]⟩, .int .i64 0] : Array Value) from rfl)))
  replace SA := Lib.hid (hy6 ▸ (Only.setCell SA.out (p := ⟨w.heap.size, 6, none⟩) (.inl (Nat.le_refl _)) (.string ⟨#[]⟩)))
  obtain ⟨y7, hy7⟩ : ∃ x, y6.setCell ⟨w.heap.size, 7, none⟩ (.string ⟨#[]⟩) = x := ⟨_, rfl⟩
  have qy7 : y6.cell? ⟨w.heap.size, 7, none⟩ = some (.string ⟨#[]⟩) := block_cell RA.out 7
  have fy7 : y6.frozen? ⟨w.heap.size, 7, none⟩ = false := block_frozen RA.out 7
  replace RA := Lib.hid (hy7 ▸ (put_block RA.out 7 (.string ⟨#[]⟩) (show (#[.int .i64 1, .bool true, .bool false, .bool false, .string T2, .string ⟨#[]⟩, .string ⟨#[]⟩, .string ⟨#[]⟩, .int .i64 0] : Array Value).setIfInBounds 7 (.string ⟨#[]⟩) = (#[.int .i64 1, .bool true, .bool false, .bool false, .string T2, .string ⟨#[]⟩, .string ⟨#[]⟩, .string ⟨#[]⟩, .int .i64 0] : Array Value) from rfl)))
  replace SA := Lib.hid (hy7 ▸ (Only.setCell SA.out (p := ⟨w.heap.size, 7, none⟩) (.inl (Nat.le_refl _)) (.string ⟨#[]⟩)))
  obtain ⟨y8, hy8⟩ : ∃ x, y7.setCell ⟨w.heap.size, 8, none⟩ (.int .i64 0) = x := ⟨_, rfl⟩
  have qy8 : y7.cell? ⟨w.heap.size, 8, none⟩ = some (.int .i64 0) := block_cell RA.out 8
  have fy8 : y7.frozen? ⟨w.heap.size, 8, none⟩ = false := block_frozen RA.out 8
  replace RA := Lib.hid (hy8 ▸ (put_block RA.out 8 (.int .i64 0) (show (#[.int .i64 1, .bool true, .bool false, .bool false, .string T2, .string ⟨#[]⟩, .string ⟨#[]⟩, .string ⟨#[]⟩, .int .i64 0] : Array Value).setIfInBounds 8 (.int .i64 0) = (opC (1) true false false T2 ⟨#[]⟩ ⟨#[]⟩ ⟨#[]⟩ (0)) from rfl)))
  replace SA := Lib.hid (hy8 ▸ (Only.setCell SA.out (p := ⟨w.heap.size, 8, none⟩) (.inl (Nat.le_refl _)) (.int .i64 0)))
  go_wp2
  (try simp only [Exit.inBlock, Exit.then])
  refine bodyPost_ret (results_cell_row rfl _ _ w.heap.size 27 (opC (1) true false false T2 ⟨#[]⟩ ⟨#[]⟩ ⟨#[]⟩ (0)) (0, 0) _ rfl RA.out Tryd.underlying27 rfl info_op) rfl ?_
  exact ⟨rfl, HBB.out.trans (SA.out.below (fun k hk => hk) (by have := HBB.out.size; omega))⟩

set_option maxHeartbeats 4000000 in
theorem guess_begin_rest (b : Nat) (fs : List ByteArray) (cap : Nat) (hpos : 0 < fs.length) (hsz : ∀ s ∈ fs, s.size ≤ 1000000000) (hfl : fs.length ≤ 1000000000) (hv : fs[0].data.toList = vBegin) (hn : 1 < fs.length) (hm : fs[1].data.toList ≠ vAt ∧ fs[1].data.toList ≠ vRo) (w : World) (h : Fl b fs w) :
    Calls Tryd.prog 43 #[.slice (some ⟨b, 0, none⟩) fs.length cap] w fun e w' => e = .returned (.agg (opC (1) false false false ⟨(unr (texts fs) 2).toArray⟩ ⟨#[]⟩ ⟨#[]⟩ ⟨#[]⟩ (0))) ∧ Below w.heap.size w w' := by
  obtain ⟨s0, hs0⟩ : ∃ s, s = fs[0] := ⟨_, rfl⟩
  rw [← hs0] at hv
  obtain ⟨T2, hT2⟩ : ∃ T : ByteArray, T = ⟨(unr (texts fs) 2).toArray⟩ := ⟨_, rfl⟩
  have hc2 := fun W hW => runr_calls b fs cap 2 hsz hfl (by omega) W hW
  simp only [← hT2] at hc2 ⊢
  have HC2 := Lib.hid hc2
  clear hc2 hT2
  have eBegin : (s0.toList == [98, 101, 103, 105, 110]) = true := by rw [ByteArray.toList_eq, hv]; rfl
  have eGet : (s0.toList == [103, 101, 116]) = false := by rw [ByteArray.toList_eq, hv]; rfl
  have eDel : (s0.toList == [100, 101, 108]) = false := by rw [ByteArray.toList_eq, hv]; rfl
  have ePut : (s0.toList == [112, 117, 116]) = false := by rw [ByteArray.toList_eq, hv]; rfl
  have eScan : (s0.toList == [115, 99, 97, 110]) = false := by rw [ByteArray.toList_eq, hv]; rfl
  have eRscan : (s0.toList == [114, 115, 99, 97, 110]) = false := by rw [ByteArray.toList_eq, hv]; rfl
  have eCommit : (s0.toList == [99, 111, 109, 109, 105, 116]) = false := by rw [ByteArray.toList_eq, hv]; rfl
  have eAbort : (s0.toList == [97, 98, 111, 114, 116]) = false := by rw [ByteArray.toList_eq, hv]; rfl
  obtain ⟨T1, hT1⟩ : ∃ T : ByteArray, T = ⟨(unr (texts fs) 1).toArray⟩ := ⟨_, rfl⟩
  have hc := fun W hW => runr_calls b fs cap 1 hsz hfl (by omega) W hW
  simp only [← hT1] at hc ⊢
  have HC := Lib.hid hc
  have H0 := h
  have hp : (0 : Int) < (fs.length : Int) := by omega
  clear hc hT1
  obtain ⟨s1, hs1⟩ : ∃ s, s = fs[1] := ⟨_, rfl⟩
  rw [← hs1] at hm
  have c1f : ∀ W, Below w.heap.size w W → W.cell? ⟨b, 1, none⟩ = some (.string s1) := fun W hW => by rw [hs1]; exact h.below hW 1 hn
  have C1F := Lib.hid c1f
  have m1 : (s1.toList == [97, 116]) = false := by rw [ByteArray.toList_eq]; simpa using hm.1
  have m2 : (s1.toList == [114, 111]) = false := by rw [ByteArray.toList_eq]; simpa using hm.2
  have hlt1 : (1 : Int) < (fs.length : Int) := by omega
  clear c1f hs1 hm
  have HH := Lib.hid h
  have HS0 := Lib.hid hs0
  clear h hv hs0 H0
  go_enter Tryd.func43, Tryd.ntmps43
  go_wp2_with fail
  have hB0 : Below w.heap.size w (w.alloc (.cells zeroOp 27)) := (Below.refl _ _).alloc (Nat.le_refl _) _
  refine (HC.out _ (HH.out.below hB0)).mono ?_
  rintro e w1 ⟨rfl, hb1⟩
  have hb : Below w.heap.size w w1 := hB0.trans (hb1.mono hB0.size)
  have R1 := Lib.hid ((hb1.block w.heap.size (by simp)).trans (heap_alloc_new w _))
  have c0 : w1.cell? ⟨b, 0, none⟩ = some (.string s0) := by rw [HS0.out]; exact HH.out.below hb 0 hpos
  have c1 := C1F.out w1 hb
  have HBB := Lib.hid hb
  have hz1 := hb1.size
  clear HC hb1 hB0 hb
  go_wp2_with fail
  refine (HC2.out w1 (HH.out.below HBB.out)).mono ?_
  rintro e w2 ⟨rfl, hb2⟩
  have R2 := Lib.hid ((hb2.block w.heap.size (Array.getElem?_eq_some_iff.1 R1.out).1).trans R1.out)
  have HBB := Lib.hid (HBB.out.trans (hb2.mono HBB.out.size))
  clear HC2 hb2 c0
  have RA := R2
  have SA := Lib.hid (Only.refl (fun k => w.heap.size ≤ k) w2)
  obtain ⟨y0, hy0⟩ : ∃ x, w2.setCell ⟨w.heap.size, 0, none⟩ (.int .i64 1) = x := ⟨_, rfl⟩
  have qy0 : w2.cell? ⟨w.heap.size, 0, none⟩ = some (.int .i64 0) := block_cell RA.out 0
  have fy0 : w2.frozen? ⟨w.heap.size, 0, none⟩ = false := block_frozen RA.out 0
  replace RA := Lib.hid (hy0 ▸ (put_block RA.out 0 (.int .i64 1) (show zeroOp.setIfInBounds 0 (.int .i64 1) = (#[.int .i64 1, .bool false, .bool false, .bool false, .string ⟨#[]⟩, .string ⟨#[]⟩, .string ⟨#[]⟩, .string ⟨#[]⟩, .int .i64 0] : Array Value) from rfl)))
  replace SA := Lib.hid (hy0 ▸ (Only.setCell SA.out (p := ⟨w.heap.size, 0, none⟩) (.inl (Nat.le_refl _)) (.int .i64 1)))
  obtain ⟨y1, hy1⟩ : ∃ x, y0.setCell ⟨w.heap.size, 1, none⟩ (.bool false) = x := ⟨_, rfl⟩
  have qy1 : y0.cell? ⟨w.heap.size, 1, none⟩ = some (.bool false) := block_cell RA.out 1
  have fy1 : y0.frozen? ⟨w.heap.size, 1, none⟩ = false := block_frozen RA.out 1
  replace RA := Lib.hid (hy1 ▸ (put_block RA.out 1 (.bool false) (show (#[.int .i64 1, .bool false, .bool false, .bool false, .string ⟨#[]⟩, .string ⟨#[]⟩, .string ⟨#[]⟩, .string ⟨#[]⟩, .int .i64 0] : Array Value).setIfInBounds 1 (.bool false) = (#[.int .i64 1, .bool false, .bool false, .bool false, .string ⟨#[]⟩, .string ⟨#[]⟩, .string ⟨#[]⟩, .string ⟨#[]⟩, .int .i64 0] : Array Value) from rfl)))
  replace SA := Lib.hid (hy1 ▸ (Only.setCell SA.out (p := ⟨w.heap.size, 1, none⟩) (.inl (Nat.le_refl _)) (.bool false)))
  obtain ⟨y2, hy2⟩ : ∃ x, y1.setCell ⟨w.heap.size, 2, none⟩ (.bool false) = x := ⟨_, rfl⟩
  have qy2 : y1.cell? ⟨w.heap.size, 2, none⟩ = some (.bool false) := block_cell RA.out 2
  have fy2 : y1.frozen? ⟨w.heap.size, 2, none⟩ = false := block_frozen RA.out 2
  replace RA := Lib.hid (hy2 ▸ (put_block RA.out 2 (.bool false) (show (#[.int .i64 1, .bool false, .bool false, .bool false, .string ⟨#[]⟩, .string ⟨#[]⟩, .string ⟨#[]⟩, .string ⟨#[]⟩, .int .i64 0] : Array Value).setIfInBounds 2 (.bool false) = (#[.int .i64 1, .bool false, .bool false, .bool false, .string ⟨#[]⟩, .string ⟨#[]⟩, .string ⟨#[]⟩, .string ⟨#[]⟩, .int .i64 0] : Array Value) from rfl)))
  replace SA := Lib.hid (hy2 ▸ (Only.setCell SA.out (p := ⟨w.heap.size, 2, none⟩) (.inl (Nat.le_refl _)) (.bool false)))
  obtain ⟨y3, hy3⟩ : ∃ x, y2.setCell ⟨w.heap.size, 3, none⟩ (.bool false) = x := ⟨_, rfl⟩
  have qy3 : y2.cell? ⟨w.heap.size, 3, none⟩ = some (.bool false) := block_cell RA.out 3
  have fy3 : y2.frozen? ⟨w.heap.size, 3, none⟩ = false := block_frozen RA.out 3
  replace RA := Lib.hid (hy3 ▸ (put_block RA.out 3 (.bool false) (show (#[.int .i64 1, .bool false, .bool false, .bool false, .string ⟨#[]⟩, .string ⟨#[]⟩, .string ⟨#[]⟩, .string ⟨#[]⟩, .int .i64 0] : Array Value).setIfInBounds 3 (.bool false) = (#[.int .i64 1, .bool false, .bool false, .bool false, .string ⟨#[]⟩, .string ⟨#[]⟩, .string ⟨#[]⟩, .string ⟨#[]⟩, .int .i64 0] : Array Value) from rfl)))
  replace SA := Lib.hid (hy3 ▸ (Only.setCell SA.out (p := ⟨w.heap.size, 3, none⟩) (.inl (Nat.le_refl _)) (.bool false)))
  obtain ⟨y4, hy4⟩ : ∃ x, y3.setCell ⟨w.heap.size, 4, none⟩ (.string T2) = x := ⟨_, rfl⟩
  have qy4 : y3.cell? ⟨w.heap.size, 4, none⟩ = some (.string ⟨#[]⟩) := block_cell RA.out 4
  have fy4 : y3.frozen? ⟨w.heap.size, 4, none⟩ = false := block_frozen RA.out 4
  replace RA := Lib.hid (hy4 ▸ (put_block RA.out 4 (.string T2) (show (#[.int .i64 1, .bool false, .bool false, .bool false, .string ⟨#[]⟩, .string ⟨#[]⟩, .string ⟨#[]⟩, .string ⟨#[]⟩, .int .i64 0] : Array Value).setIfInBounds 4 (.string T2) = (#[.int .i64 1, .bool false, .bool false, .bool false, .string T2, .string ⟨#[]⟩, .string ⟨#[]⟩, .string ⟨#[]⟩, .int .i64 0] : Array Value) from rfl)))
  replace SA := Lib.hid (hy4 ▸ (Only.setCell SA.out (p := ⟨w.heap.size, 4, none⟩) (.inl (Nat.le_refl _)) (.string T2)))
  obtain ⟨y5, hy5⟩ : ∃ x, y4.setCell ⟨w.heap.size, 5, none⟩ (.string ⟨#[]⟩) = x := ⟨_, rfl⟩
  have qy5 : y4.cell? ⟨w.heap.size, 5, none⟩ = some (.string ⟨#[]⟩) := block_cell RA.out 5
  have fy5 : y4.frozen? ⟨w.heap.size, 5, none⟩ = false := block_frozen RA.out 5
  replace RA := Lib.hid (hy5 ▸ (put_block RA.out 5 (.string ⟨#[]⟩) (show (#[.int .i64 1, .bool false, .bool false, .bool false, .string T2, .string ⟨#[]⟩, .string ⟨#[]⟩, .string ⟨#[]⟩, .int .i64 0] : Array Value).setIfInBounds 5 (.string ⟨#[]⟩) = (#[.int .i64 1, .bool false, .bool false, .bool false, .string T2, .string ⟨#[]⟩, .string ⟨#[]⟩, .string ⟨#[]⟩, .int .i64 0] : Array Value) from rfl)))
  replace SA := Lib.hid (hy5 ▸ (Only.setCell SA.out (p := ⟨w.heap.size, 5, none⟩) (.inl (Nat.le_refl _)) (.string ⟨#[]⟩)))
  obtain ⟨y6, hy6⟩ : ∃ x, y5.setCell ⟨w.heap.size, 6, none⟩ (.string ⟨#[]⟩) = x := ⟨_, rfl⟩
  have qy6 : y5.cell? ⟨w.heap.size, 6, none⟩ = some (.string ⟨#[]⟩) := block_cell RA.out 6
  have fy6 : y5.frozen? ⟨w.heap.size, 6, none⟩ = false := block_frozen RA.out 6
  replace RA := Lib.hid (hy6 ▸ (put_block RA.out 6 (.string ⟨#[]⟩) (show (#[.int .i64 1, .bool false, .bool false, .bool false, .string T2, .string ⟨#[]⟩, .string ⟨#[]⟩, .string ⟨#[]⟩, .int .i64 0] : Array Value).setIfInBounds 6 (.string ⟨#[]⟩) = (#[.int .i64 1, .bool false, .bool false, .bool false, .string T2, .string ⟨#[]⟩, .string ⟨#[]⟩, .string ⟨#[]⟩, .int .i64 0] : Array Value) from rfl)))
  replace SA := Lib.hid (hy6 ▸ (Only.setCell SA.out (p := ⟨w.heap.size, 6, none⟩) (.inl (Nat.le_refl _)) (.string ⟨#[]⟩)))
  obtain ⟨y7, hy7⟩ : ∃ x, y6.setCell ⟨w.heap.size, 7, none⟩ (.string ⟨#[]⟩) = x := ⟨_, rfl⟩
  have qy7 : y6.cell? ⟨w.heap.size, 7, none⟩ = some (.string ⟨#[]⟩) := block_cell RA.out 7
  have fy7 : y6.frozen? ⟨w.heap.size, 7, none⟩ = false := block_frozen RA.out 7
  replace RA := Lib.hid (hy7 ▸ (put_block RA.out 7 (.string ⟨#[]⟩) (show (#[.int .i64 1, .bool false, .bool false, .bool false, .string T2, .string ⟨#[]⟩, .string ⟨#[]⟩, .string ⟨#[]⟩, .int .i64 0] : Array Value).setIfInBounds 7 (.string ⟨#[]⟩) = (#[.int .i64 1, .bool false, .bool false, .bool false, .string T2, .string ⟨#[]⟩, .string ⟨#[]⟩, .string ⟨#[]⟩, .int .i64 0] : Array Value) from rfl)))
  replace SA := Lib.hid (hy7 ▸ (Only.setCell SA.out (p := ⟨w.heap.size, 7, none⟩) (.inl (Nat.le_refl _)) (.string ⟨#[]⟩)))
  obtain ⟨y8, hy8⟩ : ∃ x, y7.setCell ⟨w.heap.size, 8, none⟩ (.int .i64 0) = x := ⟨_, rfl⟩
  have qy8 : y7.cell? ⟨w.heap.size, 8, none⟩ = some (.int .i64 0) := block_cell RA.out 8
  have fy8 : y7.frozen? ⟨w.heap.size, 8, none⟩ = false := block_frozen RA.out 8
  replace RA := Lib.hid (hy8 ▸ (put_block RA.out 8 (.int .i64 0) (show (#[.int .i64 1, .bool false, .bool false, .bool false, .string T2, .string ⟨#[]⟩, .string ⟨#[]⟩, .string ⟨#[]⟩, .int .i64 0] : Array Value).setIfInBounds 8 (.int .i64 0) = (opC (1) false false false T2 ⟨#[]⟩ ⟨#[]⟩ ⟨#[]⟩ (0)) from rfl)))
  replace SA := Lib.hid (hy8 ▸ (Only.setCell SA.out (p := ⟨w.heap.size, 8, none⟩) (.inl (Nat.le_refl _)) (.int .i64 0)))
  go_wp2
  (try simp only [Exit.inBlock, Exit.then])
  refine bodyPost_ret (results_cell_row rfl _ _ w.heap.size 27 (opC (1) false false false T2 ⟨#[]⟩ ⟨#[]⟩ ⟨#[]⟩ (0)) (0, 0) _ rfl RA.out Tryd.underlying27 rfl info_op) rfl ?_
  exact ⟨rfl, HBB.out.trans (SA.out.below (fun k hk => hk) (by have := HBB.out.size; omega))⟩

end Go.Proofs.YtconkncoohcdfaaDoor
