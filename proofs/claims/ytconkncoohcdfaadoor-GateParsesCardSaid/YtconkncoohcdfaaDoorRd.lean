/- What the gate's reader makes of a line's fields, form by form. -/
import Derived.Test.YtconkncoohcdfaaDoorFld3
namespace Go.Proofs.YtconkncoohcdfaaDoor
open Go.RowKit
set_option linter.unusedSimpArgs false
set_option linter.unusedVariables false
set_option maxRecDepth 100000
attribute [local go_sem ↓] Go.wp_at_zero Go.wp_at_succ

/-- no variable that the library reads is the reader -/
def Apart (f : Nat) : Prop := f ≠ 8 ∧ f ≠ 9 ∧ f ≠ 2
theorem errs_only {f : Nat} {w w' : World} (h : ErrsIn w) (hO : Only (fun k => k = f) w w') (hf : Apart f) : ErrsIn w' := by
  obtain ⟨⟨e1, h1, k1⟩, ⟨e2, h2, k2⟩⟩ := h
  refine ⟨⟨e1, ?_, k1⟩, ⟨e2, ?_, k2⟩⟩
  · rw [hO.cell (World.block_lt_of_cell? w _ h1) (fun e => hf.1 e.symm)]; exact h1
  · rw [hO.cell (World.block_lt_of_cell? w _ h2) (fun e => hf.2.1 e.symm)]; exact h2
theorem pow_only {f : Nat} {w w' : World} (h : Pow w) (hO : Only (fun k => k = f) w w') (hf : Apart f) : Pow w' := by
  have hg : Tryd.prog.globalNamed "internal/strconv.uint64pow10" = some 2 := by kernel_rfl
  unfold Pow Lib.TabIs World.var? at h ⊢
  rw [hg] at h ⊢
  simp only [Option.bind_some] at h ⊢
  have hlt : 2 < w.heap.size := by
    rcases Nat.lt_or_ge 2 w.heap.size with h' | h'
    · exact h'
    · simp [Array.getElem?_eq_none h'] at h
  rw [hO.block _ hlt (fun e => hf.2.2 e.symm)]
  exact h

set_option maxHeartbeats 4000000 in
theorem fread_get (f b : Nat) (s0 s1 : ByteArray) (hz1 : s1.size ≤ 1000000000) (hv : s0.data.toList = vGet) (w : World) (h : Fs f b [s0, s1] false w) :
    Calls Tryd.prog 42 #[.pointer (some ⟨f, 0, none⟩)] w fun e w' => e = .returned (.tuple #[.agg (opC (2) false false false ⟨#[]⟩ ⟨((unwordP s1.data.toList).getD []).toArray⟩ ⟨#[]⟩ ⟨#[]⟩ (0)), .bool true]) ∧ Fs f b [s0, s1] (false || (unwordP s1.data.toList).isNone) w' ∧ Only (fun k => k = f) w w' := by
  have hf0 : f < w.heap.size := World.block_lt_of_cell? w _ h.c0
  have hb0 : b < w.heap.size := World.block_lt_of_cell? w _ (h.list 0 (show 0 < 2 by decide))
  have eBegin : (s0.toList == [98, 101, 103, 105, 110]) = false := by rw [ByteArray.toList_eq, hv]; rfl
  have eRscan : (s0.toList == [114, 115, 99, 97, 110]) = false := by rw [ByteArray.toList_eq, hv]; rfl
  have eScan : (s0.toList == [115, 99, 97, 110]) = false := by rw [ByteArray.toList_eq, hv]; rfl
  have eGet : (s0.toList == [103, 101, 116]) = true := by rw [ByteArray.toList_eq, hv]; rfl
  have ePut : (s0.toList == [112, 117, 116]) = false := by rw [ByteArray.toList_eq, hv]; rfl
  have eDel : (s0.toList == [100, 101, 108]) = false := by rw [ByteArray.toList_eq, hv]; rfl
  have eCommit : (s0.toList == [99, 111, 109, 109, 105, 116]) = false := by rw [ByteArray.toList_eq, hv]; rfl
  have eAbort : (s0.toList == [97, 98, 111, 114, 116]) = false := by rw [ByteArray.toList_eq, hv]; rfl
  obtain ⟨T1, hT1⟩ : ∃ T : ByteArray, T = ⟨((unwordP s1.data.toList).getD []).toArray⟩ := ⟨_, rfl⟩
  rw [← hT1]
  have HT1 := Lib.hid hT1
  clear hT1
  obtain ⟨w0, hw0⟩ : ∃ w0, w0 = (w.alloc (.cells zeroOp 27)).alloc (.cells zeroOp 27) := ⟨_, rfl⟩
  have hB0 : Below w.heap.size w w0 := by rw [hw0]; exact ((Below.refl _ _).alloc (Nat.le_refl _) _).alloc (by simp) _
  have r0 : w0.heap[w.heap.size]? = some (.cells zeroOp 27 (0, 0)) := by rw [hw0]; exact low_block _ _ _ _ _
  have o0 : w0.heap[w.heap.size + 1]? = some (.cells zeroOp 27 (0, 0)) := by rw [hw0]; exact top_block _ _ _ _ _
  have zs : w0.heap.size = w.heap.size + 2 := by rw [hw0]; simp
  have h0 := h.kept hB0
  have d0 : ∀ p, (aged w0 p).cell? ⟨f, 0, none⟩ = some (.slice (some ⟨b, 0, none⟩) 2 2) := cell_aged h0.c0
  have d1 : ∀ p, (aged w0 p).cell? ⟨b, 0, none⟩ = some (.string s0) := cell_aged (h0.list 0 (show 0 < 2 by decide))
  have H0 := Lib.hid h0
  have HB0 := Lib.hid hB0
  have HH := Lib.hid h
  unfold zeroOp at hw0
  have HW := Lib.hid hw0
  clear h0 h hv hw0 hB0
  go_enter Tryd.func42, Tryd.ntmps42
  go_wp2_with fail
  rw [← HW.out]
  clear HW
  refine wp_region_aged (by kernel_rfl) (by kernel_rfl) ?_
  repeat (go_big_quiet_step (fail))
  refine wpQuiet_nil ?_
  rintro _ ⟨p, rfl⟩
  have r1 := ((aged_below w0 p).block _ (by omega)).trans r0
  have o1 := ((aged_below w0 p).block _ (by omega)).trans o0
  have H1 := Lib.hid (H0.out.kept (aged_below w0 p))
  have hB1 := HB0.out.trans ((aged_below w0 p).mono (show w.heap.size ≤ w0.heap.size by omega))
  have hO1 : Only (fun k => k = f) w (aged w0 p) := Only.of_below hB1
  have z1 : w.heap.size + 2 ≤ (aged w0 p).heap.size := by have := (aged_below w0 p).size; omega
  obtain ⟨w1, hw1⟩ : ∃ w1, w1 = aged w0 p := ⟨_, rfl⟩
  rw [← hw1] at r1 o1 H1 hO1 z1 hB1 ⊢
  have HBB := Lib.hid hB1
  have HO1 := Lib.hid hO1
  have R1 := Lib.hid r1
  have O1 := Lib.hid o1
  clear hw1 d0 d1 r0 o0 zs H0 HB0 r1 o1 hO1 hB1
  have hc := fword_calls f b [s0, s1] false 1 (show 1 < 2 by decide) hz1 (show 2 ≤ 1000000000 by omega) w1 H1.out
  simp only [show [s0, s1][1] = s1 from rfl, ← HT1.out] at hc
  have HC := Lib.hid hc
  clear hc
  go_wp2_with fail
  refine HC.out.mono ?_
  rintro e w2 ⟨rfl, hF, hx⟩
  clear HC
  have R2 := Lib.hid ((hx.block _ (by omega) (fun e : w.heap.size = f => by omega)).trans R1.out)
  have O2 := Lib.hid ((hx.block _ (by omega) (fun e : w.heap.size + 1 = f => by omega)).trans O1.out)
  have z2 : w.heap.size + 2 ≤ w2.heap.size := by have := hx.size; omega
  have HO2 := Lib.hid (HO1.out.trans hx (fun i hi => .inl hi))
  have H2 := Lib.hid hF
  clear hx hF R1 O1 HO1 H1 z1
  have OA := Lib.hid O2.out
  have RA := Lib.hid R2.out
  have LA := Lib.hid HO2.out
  have SA := Lib.hid (Only.refl (fun k => w.heap.size ≤ k) w2)
  obtain ⟨x0, hx0⟩ : ∃ x, w2.setCell ⟨w.heap.size + 1, 0, none⟩ (.int .i64 2) = x := ⟨_, rfl⟩
  have qx0 : w2.cell? ⟨w.heap.size + 1, 0, none⟩ = some (.int .i64 0) := block_cell OA.out 0
  have fx0 : w2.frozen? ⟨w.heap.size + 1, 0, none⟩ = false := block_frozen OA.out 0
  replace OA := Lib.hid (hx0 ▸ (put_block OA.out 0 (.int .i64 2) (show zeroOp.setIfInBounds 0 (.int .i64 2) = (#[.int .i64 2, .bool false, .bool false, .bool false, .string ⟨#[]⟩, .string ⟨#[]⟩, .string ⟨#[]⟩, .string ⟨#[]⟩, .int .i64 0] : Array Value) from rfl)))
  replace RA := Lib.hid (hx0 ▸ (far_block RA.out (p := ⟨w.heap.size + 1, 0, none⟩) (by simp) (.int .i64 2)))
  replace LA := Lib.hid (hx0 ▸ (Only.setCell LA.out (p := ⟨w.heap.size + 1, 0, none⟩) (.inr (by simp)) (.int .i64 2)))
  replace SA := Lib.hid (hx0 ▸ (Only.setCell SA.out (p := ⟨w.heap.size + 1, 0, none⟩) (.inl (by simp)) (.int .i64 2)))
  obtain ⟨x1, hx1⟩ : ∃ x, x0.setCell ⟨w.heap.size + 1, 5, none⟩ (.string T1) = x := ⟨_, rfl⟩
  have qx1 : x0.cell? ⟨w.heap.size + 1, 5, none⟩ = some (.string ⟨#[]⟩) := block_cell OA.out 5
  have fx1 : x0.frozen? ⟨w.heap.size + 1, 5, none⟩ = false := block_frozen OA.out 5
  replace OA := Lib.hid (hx1 ▸ (put_block OA.out 5 (.string T1) (show (#[.int .i64 2, .bool false, .bool false, .bool false, .string ⟨#[]⟩, .string ⟨#[]⟩, .string ⟨#[]⟩, .string ⟨#[]⟩, .int .i64 0] : Array Value).setIfInBounds 5 (.string T1) = (opC (2) false false false ⟨#[]⟩ T1 ⟨#[]⟩ ⟨#[]⟩ (0)) from rfl)))
  replace RA := Lib.hid (hx1 ▸ (far_block RA.out (p := ⟨w.heap.size + 1, 5, none⟩) (by simp) (.string T1)))
  replace LA := Lib.hid (hx1 ▸ (Only.setCell LA.out (p := ⟨w.heap.size + 1, 5, none⟩) (.inr (by simp)) (.string T1)))
  replace SA := Lib.hid (hx1 ▸ (Only.setCell SA.out (p := ⟨w.heap.size + 1, 5, none⟩) (.inl (by simp)) (.string T1)))
  have hst := storeCells_row (P := Tryd.prog) x1 w.heap.size 27 zeroOp (opC (2) false false false ⟨#[]⟩ T1 ⟨#[]⟩ ⟨#[]⟩ (0)) RA.out rfl (by simp [opC, Value.oneCell'])
  go_wp2_with ((refine wpList_load_row rfl _ _ rfl (w.heap.size + 1) rfl 27 (opC (2) false false false ⟨#[]⟩ T1 ⟨#[]⟩ ⟨#[]⟩ (0)) (0, 0) _ OA.out Tryd.underlying27 rfl info_op ?_))
  (try simp only [Exit.inBlock, Exit.then])
  refine bodyPost_ret (results_row_tmp rfl _ _ w.heap.size 27 (opC (2) false false false ⟨#[]⟩ T1 ⟨#[]⟩ ⟨#[]⟩ (0)) (0, 0) _ rfl (row_block RA.out) Tryd.underlying27 rfl info_op) rfl ?_
  have hO3 := Only.setRow SA.out (g := w.heap.size) (.inl (Nat.le_refl _)) (opC (2) false false false ⟨#[]⟩ T1 ⟨#[]⟩ ⟨#[]⟩ (0))
  exact ⟨rfl, H2.out.same (hO3.block f (by omega) (by omega)) (hO3.block b (by omega) (by omega)), Only.setRow LA.out (.inr (Nat.le_refl _)) _⟩

set_option maxHeartbeats 4000000 in
theorem fread_del (f b : Nat) (s0 s1 : ByteArray) (hz1 : s1.size ≤ 1000000000) (hv : s0.data.toList = vDel) (w : World) (h : Fs f b [s0, s1] false w) :
    Calls Tryd.prog 42 #[.pointer (some ⟨f, 0, none⟩)] w fun e w' => e = .returned (.tuple #[.agg (opC (5) false false false ⟨#[]⟩ ⟨((unwordP s1.data.toList).getD []).toArray⟩ ⟨#[]⟩ ⟨#[]⟩ (0)), .bool true]) ∧ Fs f b [s0, s1] (false || (unwordP s1.data.toList).isNone) w' ∧ Only (fun k => k = f) w w' := by
  have hf0 : f < w.heap.size := World.block_lt_of_cell? w _ h.c0
  have hb0 : b < w.heap.size := World.block_lt_of_cell? w _ (h.list 0 (show 0 < 2 by decide))
  have eBegin : (s0.toList == [98, 101, 103, 105, 110]) = false := by rw [ByteArray.toList_eq, hv]; rfl
  have eRscan : (s0.toList == [114, 115, 99, 97, 110]) = false := by rw [ByteArray.toList_eq, hv]; rfl
  have eScan : (s0.toList == [115, 99, 97, 110]) = false := by rw [ByteArray.toList_eq, hv]; rfl
  have eGet : (s0.toList == [103, 101, 116]) = false := by rw [ByteArray.toList_eq, hv]; rfl
  have ePut : (s0.toList == [112, 117, 116]) = false := by rw [ByteArray.toList_eq, hv]; rfl
  have eDel : (s0.toList == [100, 101, 108]) = true := by rw [ByteArray.toList_eq, hv]; rfl
  have eCommit : (s0.toList == [99, 111, 109, 109, 105, 116]) = false := by rw [ByteArray.toList_eq, hv]; rfl
  have eAbort : (s0.toList == [97, 98, 111, 114, 116]) = false := by rw [ByteArray.toList_eq, hv]; rfl
  obtain ⟨T1, hT1⟩ : ∃ T : ByteArray, T = ⟨((unwordP s1.data.toList).getD []).toArray⟩ := ⟨_, rfl⟩
  rw [← hT1]
  have HT1 := Lib.hid hT1
  clear hT1
  obtain ⟨w0, hw0⟩ : ∃ w0, w0 = (w.alloc (.cells zeroOp 27)).alloc (.cells zeroOp 27) := ⟨_, rfl⟩
  have hB0 : Below w.heap.size w w0 := by rw [hw0]; exact ((Below.refl _ _).alloc (Nat.le_refl _) _).alloc (by simp) _
  have r0 : w0.heap[w.heap.size]? = some (.cells zeroOp 27 (0, 0)) := by rw [hw0]; exact low_block _ _ _ _ _
  have o0 : w0.heap[w.heap.size + 1]? = some (.cells zeroOp 27 (0, 0)) := by rw [hw0]; exact top_block _ _ _ _ _
  have zs : w0.heap.size = w.heap.size + 2 := by rw [hw0]; simp
  have h0 := h.kept hB0
  have d0 : ∀ p, (aged w0 p).cell? ⟨f, 0, none⟩ = some (.slice (some ⟨b, 0, none⟩) 2 2) := cell_aged h0.c0
  have d1 : ∀ p, (aged w0 p).cell? ⟨b, 0, none⟩ = some (.string s0) := cell_aged (h0.list 0 (show 0 < 2 by decide))
  have H0 := Lib.hid h0
  have HB0 := Lib.hid hB0
  have HH := Lib.hid h
  unfold zeroOp at hw0
  have HW := Lib.hid hw0
  clear h0 h hv hw0 hB0
  go_enter Tryd.func42, Tryd.ntmps42
  go_wp2_with fail
  rw [← HW.out]
  clear HW
  refine wp_region_aged (by kernel_rfl) (by kernel_rfl) ?_
  repeat (go_big_quiet_step (fail))
  refine wpQuiet_nil ?_
  rintro _ ⟨p, rfl⟩
  have r1 := ((aged_below w0 p).block _ (by omega)).trans r0
  have o1 := ((aged_below w0 p).block _ (by omega)).trans o0
  have H1 := Lib.hid (H0.out.kept (aged_below w0 p))
  have hB1 := HB0.out.trans ((aged_below w0 p).mono (show w.heap.size ≤ w0.heap.size by omega))
  have hO1 : Only (fun k => k = f) w (aged w0 p) := Only.of_below hB1
  have z1 : w.heap.size + 2 ≤ (aged w0 p).heap.size := by have := (aged_below w0 p).size; omega
  obtain ⟨w1, hw1⟩ : ∃ w1, w1 = aged w0 p := ⟨_, rfl⟩
  rw [← hw1] at r1 o1 H1 hO1 z1 hB1 ⊢
  have HBB := Lib.hid hB1
  have HO1 := Lib.hid hO1
  have R1 := Lib.hid r1
  have O1 := Lib.hid o1
  clear hw1 d0 d1 r0 o0 zs H0 HB0 r1 o1 hO1 hB1
  have hc := fword_calls f b [s0, s1] false 1 (show 1 < 2 by decide) hz1 (show 2 ≤ 1000000000 by omega) w1 H1.out
  simp only [show [s0, s1][1] = s1 from rfl, ← HT1.out] at hc
  have HC := Lib.hid hc
  clear hc
  go_wp2_with fail
  refine HC.out.mono ?_
  rintro e w2 ⟨rfl, hF, hx⟩
  clear HC
  have R2 := Lib.hid ((hx.block _ (by omega) (fun e : w.heap.size = f => by omega)).trans R1.out)
  have O2 := Lib.hid ((hx.block _ (by omega) (fun e : w.heap.size + 1 = f => by omega)).trans O1.out)
  have z2 : w.heap.size + 2 ≤ w2.heap.size := by have := hx.size; omega
  have HO2 := Lib.hid (HO1.out.trans hx (fun i hi => .inl hi))
  have H2 := Lib.hid hF
  clear hx hF R1 O1 HO1 H1 z1
  have OA := Lib.hid O2.out
  have RA := Lib.hid R2.out
  have LA := Lib.hid HO2.out
  have SA := Lib.hid (Only.refl (fun k => w.heap.size ≤ k) w2)
  obtain ⟨x0, hx0⟩ : ∃ x, w2.setCell ⟨w.heap.size + 1, 0, none⟩ (.int .i64 5) = x := ⟨_, rfl⟩
  have qx0 : w2.cell? ⟨w.heap.size + 1, 0, none⟩ = some (.int .i64 0) := block_cell OA.out 0
  have fx0 : w2.frozen? ⟨w.heap.size + 1, 0, none⟩ = false := block_frozen OA.out 0
  replace OA := Lib.hid (hx0 ▸ (put_block OA.out 0 (.int .i64 5) (show zeroOp.setIfInBounds 0 (.int .i64 5) = (#[.int .i64 5, .bool false, .bool false, .bool false, .string ⟨#[]⟩, .string ⟨#[]⟩, .string ⟨#[]⟩, .string ⟨#[]⟩, .int .i64 0] : Array Value) from rfl)))
  replace RA := Lib.hid (hx0 ▸ (far_block RA.out (p := ⟨w.heap.size + 1, 0, none⟩) (by simp) (.int .i64 5)))
  replace LA := Lib.hid (hx0 ▸ (Only.setCell LA.out (p := ⟨w.heap.size + 1, 0, none⟩) (.inr (by simp)) (.int .i64 5)))
  replace SA := Lib.hid (hx0 ▸ (Only.setCell SA.out (p := ⟨w.heap.size + 1, 0, none⟩) (.inl (by simp)) (.int .i64 5)))
  obtain ⟨x1, hx1⟩ : ∃ x, x0.setCell ⟨w.heap.size + 1, 5, none⟩ (.string T1) = x := ⟨_, rfl⟩
  have qx1 : x0.cell? ⟨w.heap.size + 1, 5, none⟩ = some (.string ⟨#[]⟩) := block_cell OA.out 5
  have fx1 : x0.frozen? ⟨w.heap.size + 1, 5, none⟩ = false := block_frozen OA.out 5
  replace OA := Lib.hid (hx1 ▸ (put_block OA.out 5 (.string T1) (show (#[.int .i64 5, .bool false, .bool false, .bool false, .string ⟨#[]⟩, .string ⟨#[]⟩, .string ⟨#[]⟩, .string ⟨#[]⟩, .int .i64 0] : Array Value).setIfInBounds 5 (.string T1) = (opC (5) false false false ⟨#[]⟩ T1 ⟨#[]⟩ ⟨#[]⟩ (0)) from rfl)))
  replace RA := Lib.hid (hx1 ▸ (far_block RA.out (p := ⟨w.heap.size + 1, 5, none⟩) (by simp) (.string T1)))
  replace LA := Lib.hid (hx1 ▸ (Only.setCell LA.out (p := ⟨w.heap.size + 1, 5, none⟩) (.inr (by simp)) (.string T1)))
  replace SA := Lib.hid (hx1 ▸ (Only.setCell SA.out (p := ⟨w.heap.size + 1, 5, none⟩) (.inl (by simp)) (.string T1)))
  have hst := storeCells_row (P := Tryd.prog) x1 w.heap.size 27 zeroOp (opC (5) false false false ⟨#[]⟩ T1 ⟨#[]⟩ ⟨#[]⟩ (0)) RA.out rfl (by simp [opC, Value.oneCell'])
  go_wp2_with ((refine wpList_load_row rfl _ _ rfl (w.heap.size + 1) rfl 27 (opC (5) false false false ⟨#[]⟩ T1 ⟨#[]⟩ ⟨#[]⟩ (0)) (0, 0) _ OA.out Tryd.underlying27 rfl info_op ?_))
  (try simp only [Exit.inBlock, Exit.then])
  refine bodyPost_ret (results_row_tmp rfl _ _ w.heap.size 27 (opC (5) false false false ⟨#[]⟩ T1 ⟨#[]⟩ ⟨#[]⟩ (0)) (0, 0) _ rfl (row_block RA.out) Tryd.underlying27 rfl info_op) rfl ?_
  have hO3 := Only.setRow SA.out (g := w.heap.size) (.inl (Nat.le_refl _)) (opC (5) false false false ⟨#[]⟩ T1 ⟨#[]⟩ ⟨#[]⟩ (0))
  exact ⟨rfl, H2.out.same (hO3.block f (by omega) (by omega)) (hO3.block b (by omega) (by omega)), Only.setRow LA.out (.inr (Nat.le_refl _)) _⟩

set_option maxHeartbeats 4000000 in
theorem fread_put (f b : Nat) (s0 s1 s2 : ByteArray) (hz1 : s1.size ≤ 1000000000) (hz2 : s2.size ≤ 1000000000) (hv : s0.data.toList = vPut) (w : World) (h : Fs f b [s0, s1, s2] false w) :
    Calls Tryd.prog 42 #[.pointer (some ⟨f, 0, none⟩)] w fun e w' => e = .returned (.tuple #[.agg (opC (4) false false false ⟨#[]⟩ ⟨((unwordP s1.data.toList).getD []).toArray⟩ ⟨#[]⟩ ⟨((unwordP s2.data.toList).getD []).toArray⟩ (0)), .bool true]) ∧ Fs f b [s0, s1, s2] ((false || (unwordP s1.data.toList).isNone) || (unwordP s2.data.toList).isNone) w' ∧ Only (fun k => k = f) w w' := by
  have hf0 : f < w.heap.size := World.block_lt_of_cell? w _ h.c0
  have hb0 : b < w.heap.size := World.block_lt_of_cell? w _ (h.list 0 (show 0 < 3 by decide))
  have eBegin : (s0.toList == [98, 101, 103, 105, 110]) = false := by rw [ByteArray.toList_eq, hv]; rfl
  have eRscan : (s0.toList == [114, 115, 99, 97, 110]) = false := by rw [ByteArray.toList_eq, hv]; rfl
  have eScan : (s0.toList == [115, 99, 97, 110]) = false := by rw [ByteArray.toList_eq, hv]; rfl
  have eGet : (s0.toList == [103, 101, 116]) = false := by rw [ByteArray.toList_eq, hv]; rfl
  have ePut : (s0.toList == [112, 117, 116]) = true := by rw [ByteArray.toList_eq, hv]; rfl
  have eDel : (s0.toList == [100, 101, 108]) = false := by rw [ByteArray.toList_eq, hv]; rfl
  have eCommit : (s0.toList == [99, 111, 109, 109, 105, 116]) = false := by rw [ByteArray.toList_eq, hv]; rfl
  have eAbort : (s0.toList == [97, 98, 111, 114, 116]) = false := by rw [ByteArray.toList_eq, hv]; rfl
  obtain ⟨T1, hT1⟩ : ∃ T : ByteArray, T = ⟨((unwordP s1.data.toList).getD []).toArray⟩ := ⟨_, rfl⟩
  rw [← hT1]
  have HT1 := Lib.hid hT1
  clear hT1
  obtain ⟨T2, hT2⟩ : ∃ T : ByteArray, T = ⟨((unwordP s2.data.toList).getD []).toArray⟩ := ⟨_, rfl⟩
  rw [← hT2]
  have HT2 := Lib.hid hT2
  clear hT2
  obtain ⟨w0, hw0⟩ : ∃ w0, w0 = (w.alloc (.cells zeroOp 27)).alloc (.cells zeroOp 27) := ⟨_, rfl⟩
  have hB0 : Below w.heap.size w w0 := by rw [hw0]; exact ((Below.refl _ _).alloc (Nat.le_refl _) _).alloc (by simp) _
  have r0 : w0.heap[w.heap.size]? = some (.cells zeroOp 27 (0, 0)) := by rw [hw0]; exact low_block _ _ _ _ _
  have o0 : w0.heap[w.heap.size + 1]? = some (.cells zeroOp 27 (0, 0)) := by rw [hw0]; exact top_block _ _ _ _ _
  have zs : w0.heap.size = w.heap.size + 2 := by rw [hw0]; simp
  have h0 := h.kept hB0
  have d0 : ∀ p, (aged w0 p).cell? ⟨f, 0, none⟩ = some (.slice (some ⟨b, 0, none⟩) 3 3) := cell_aged h0.c0
  have d1 : ∀ p, (aged w0 p).cell? ⟨b, 0, none⟩ = some (.string s0) := cell_aged (h0.list 0 (show 0 < 3 by decide))
  have H0 := Lib.hid h0
  have HB0 := Lib.hid hB0
  have HH := Lib.hid h
  unfold zeroOp at hw0
  have HW := Lib.hid hw0
  clear h0 h hv hw0 hB0
  go_enter Tryd.func42, Tryd.ntmps42
  go_wp2_with fail
  rw [← HW.out]
  clear HW
  refine wp_region_aged (by kernel_rfl) (by kernel_rfl) ?_
  repeat (go_big_quiet_step (fail))
  refine wpQuiet_nil ?_
  rintro _ ⟨p, rfl⟩
  have r1 := ((aged_below w0 p).block _ (by omega)).trans r0
  have o1 := ((aged_below w0 p).block _ (by omega)).trans o0
  have H1 := Lib.hid (H0.out.kept (aged_below w0 p))
  have hB1 := HB0.out.trans ((aged_below w0 p).mono (show w.heap.size ≤ w0.heap.size by omega))
  have hO1 : Only (fun k => k = f) w (aged w0 p) := Only.of_below hB1
  have z1 : w.heap.size + 2 ≤ (aged w0 p).heap.size := by have := (aged_below w0 p).size; omega
  obtain ⟨w1, hw1⟩ : ∃ w1, w1 = aged w0 p := ⟨_, rfl⟩
  rw [← hw1] at r1 o1 H1 hO1 z1 hB1 ⊢
  have HBB := Lib.hid hB1
  have HO1 := Lib.hid hO1
  have R1 := Lib.hid r1
  have O1 := Lib.hid o1
  clear hw1 d0 d1 r0 o0 zs H0 HB0 r1 o1 hO1 hB1
  have hc := fword_calls f b [s0, s1, s2] false 1 (show 1 < 3 by decide) hz1 (show 3 ≤ 1000000000 by omega) w1 H1.out
  simp only [show [s0, s1, s2][1] = s1 from rfl, ← HT1.out] at hc
  have HC := Lib.hid hc
  clear hc
  go_wp2_with fail
  refine HC.out.mono ?_
  rintro e w2 ⟨rfl, hF, hx⟩
  clear HC
  have R2 := Lib.hid ((hx.block _ (by omega) (fun e : w.heap.size = f => by omega)).trans R1.out)
  have O2 := Lib.hid ((hx.block _ (by omega) (fun e : w.heap.size + 1 = f => by omega)).trans O1.out)
  have z2 : w.heap.size + 2 ≤ w2.heap.size := by have := hx.size; omega
  have HO2 := Lib.hid (HO1.out.trans hx (fun i hi => .inl hi))
  have H2 := Lib.hid hF
  clear hx hF R1 O1 HO1 H1 z1
  have hc := fword_calls f b [s0, s1, s2] (false || (unwordP s1.data.toList).isNone) 2 (show 2 < 3 by decide) hz2 (show 3 ≤ 1000000000 by omega) w2 H2.out
  simp only [show [s0, s1, s2][2] = s2 from rfl, ← HT2.out] at hc
  have HC := Lib.hid hc
  clear hc
  go_wp2_with fail
  refine HC.out.mono ?_
  rintro e w3 ⟨rfl, hF, hx⟩
  clear HC
  have R3 := Lib.hid ((hx.block _ (by omega) (fun e : w.heap.size = f => by omega)).trans R2.out)
  have O3 := Lib.hid ((hx.block _ (by omega) (fun e : w.heap.size + 1 = f => by omega)).trans O2.out)
  have z3 : w.heap.size + 2 ≤ w3.heap.size := by have := hx.size; omega
  have HO3 := Lib.hid (HO2.out.trans hx (fun i hi => .inl hi))
  have H3 := Lib.hid hF
  clear hx hF R2 O2 HO2 H2 z2
  have OA := Lib.hid O3.out
  have RA := Lib.hid R3.out
  have LA := Lib.hid HO3.out
  have SA := Lib.hid (Only.refl (fun k => w.heap.size ≤ k) w3)
  obtain ⟨x0, hx0⟩ : ∃ x, w3.setCell ⟨w.heap.size + 1, 0, none⟩ (.int .i64 4) = x := ⟨_, rfl⟩
  have qx0 : w3.cell? ⟨w.heap.size + 1, 0, none⟩ = some (.int .i64 0) := block_cell OA.out 0
  have fx0 : w3.frozen? ⟨w.heap.size + 1, 0, none⟩ = false := block_frozen OA.out 0
  replace OA := Lib.hid (hx0 ▸ (put_block OA.out 0 (.int .i64 4) (show zeroOp.setIfInBounds 0 (.int .i64 4) = (#[.int .i64 4, .bool false, .bool false, .bool false, .string ⟨#[]⟩, .string ⟨#[]⟩, .string ⟨#[]⟩, .string ⟨#[]⟩, .int .i64 0] : Array Value) from rfl)))
  replace RA := Lib.hid (hx0 ▸ (far_block RA.out (p := ⟨w.heap.size + 1, 0, none⟩) (by simp) (.int .i64 4)))
  replace LA := Lib.hid (hx0 ▸ (Only.setCell LA.out (p := ⟨w.heap.size + 1, 0, none⟩) (.inr (by simp)) (.int .i64 4)))
  replace SA := Lib.hid (hx0 ▸ (Only.setCell SA.out (p := ⟨w.heap.size + 1, 0, none⟩) (.inl (by simp)) (.int .i64 4)))
  obtain ⟨x1, hx1⟩ : ∃ x, x0.setCell ⟨w.heap.size + 1, 5, none⟩ (.string T1) = x := ⟨_, rfl⟩
  have qx1 : x0.cell? ⟨w.heap.size + 1, 5, none⟩ = some (.string ⟨#[]⟩) := block_cell OA.out 5
  have fx1 : x0.frozen? ⟨w.heap.size + 1, 5, none⟩ = false := block_frozen OA.out 5
  replace OA := Lib.hid (hx1 ▸ (put_block OA.out 5 (.string T1) (show (#[.int .i64 4, .bool false, .bool false, .bool false, .string ⟨#[]⟩, .string ⟨#[]⟩, .string ⟨#[]⟩, .string ⟨#[]⟩, .int .i64 0] : Array Value).setIfInBounds 5 (.string T1) = (#[.int .i64 4, .bool false, .bool false, .bool false, .string ⟨#[]⟩, .string T1, .string ⟨#[]⟩, .string ⟨#[]⟩, .int .i64 0] : Array Value) from rfl)))
  replace RA := Lib.hid (hx1 ▸ (far_block RA.out (p := ⟨w.heap.size + 1, 5, none⟩) (by simp) (.string T1)))
  replace LA := Lib.hid (hx1 ▸ (Only.setCell LA.out (p := ⟨w.heap.size + 1, 5, none⟩) (.inr (by simp)) (.string T1)))
  replace SA := Lib.hid (hx1 ▸ (Only.setCell SA.out (p := ⟨w.heap.size + 1, 5, none⟩) (.inl (by simp)) (.string T1)))
  obtain ⟨x2, hx2⟩ : ∃ x, x1.setCell ⟨w.heap.size + 1, 7, none⟩ (.string T2) = x := ⟨_, rfl⟩
  have qx2 : x1.cell? ⟨w.heap.size + 1, 7, none⟩ = some (.string ⟨#[]⟩) := block_cell OA.out 7
  have fx2 : x1.frozen? ⟨w.heap.size + 1, 7, none⟩ = false := block_frozen OA.out 7
  replace OA := Lib.hid (hx2 ▸ (put_block OA.out 7 (.string T2) (show (#[.int .i64 4, .bool false, .bool false, .bool false, .string ⟨#[]⟩, .string T1, .string ⟨#[]⟩, .string ⟨#[]⟩, .int .i64 0] : Array Value).setIfInBounds 7 (.string T2) = (opC (4) false false false ⟨#[]⟩ T1 ⟨#[]⟩ T2 (0)) from rfl)))
  replace RA := Lib.hid (hx2 ▸ (far_block RA.out (p := ⟨w.heap.size + 1, 7, none⟩) (by simp) (.string T2)))
  replace LA := Lib.hid (hx2 ▸ (Only.setCell LA.out (p := ⟨w.heap.size + 1, 7, none⟩) (.inr (by simp)) (.string T2)))
  replace SA := Lib.hid (hx2 ▸ (Only.setCell SA.out (p := ⟨w.heap.size + 1, 7, none⟩) (.inl (by simp)) (.string T2)))
  have hst := storeCells_row (P := Tryd.prog) x2 w.heap.size 27 zeroOp (opC (4) false false false ⟨#[]⟩ T1 ⟨#[]⟩ T2 (0)) RA.out rfl (by simp [opC, Value.oneCell'])
  go_wp2_with ((refine wpList_load_row rfl _ _ rfl (w.heap.size + 1) rfl 27 (opC (4) false false false ⟨#[]⟩ T1 ⟨#[]⟩ T2 (0)) (0, 0) _ OA.out Tryd.underlying27 rfl info_op ?_))
  (try simp only [Exit.inBlock, Exit.then])
  refine bodyPost_ret (results_row_tmp rfl _ _ w.heap.size 27 (opC (4) false false false ⟨#[]⟩ T1 ⟨#[]⟩ T2 (0)) (0, 0) _ rfl (row_block RA.out) Tryd.underlying27 rfl info_op) rfl ?_
  have hO3 := Only.setRow SA.out (g := w.heap.size) (.inl (Nat.le_refl _)) (opC (4) false false false ⟨#[]⟩ T1 ⟨#[]⟩ T2 (0))
  exact ⟨rfl, H3.out.same (hO3.block f (by omega) (by omega)) (hO3.block b (by omega) (by omega)), Only.setRow LA.out (.inr (Nat.le_refl _)) _⟩

set_option maxHeartbeats 4000000 in
theorem fread_commit (f b : Nat) (s0 : ByteArray) (hv : s0.data.toList = vCommit) (w : World) (h : Fs f b [s0] false w) :
    Calls Tryd.prog 42 #[.pointer (some ⟨f, 0, none⟩)] w fun e w' => e = .returned (.tuple #[.agg (opC (6) false false false ⟨#[]⟩ ⟨#[]⟩ ⟨#[]⟩ ⟨#[]⟩ (0)), .bool true]) ∧ Fs f b [s0] false w' ∧ Only (fun k => k = f) w w' := by
  have hf0 : f < w.heap.size := World.block_lt_of_cell? w _ h.c0
  have hb0 : b < w.heap.size := World.block_lt_of_cell? w _ (h.list 0 (show 0 < 1 by decide))
  have eBegin : (s0.toList == [98, 101, 103, 105, 110]) = false := by rw [ByteArray.toList_eq, hv]; rfl
  have eRscan : (s0.toList == [114, 115, 99, 97, 110]) = false := by rw [ByteArray.toList_eq, hv]; rfl
  have eScan : (s0.toList == [115, 99, 97, 110]) = false := by rw [ByteArray.toList_eq, hv]; rfl
  have eGet : (s0.toList == [103, 101, 116]) = false := by rw [ByteArray.toList_eq, hv]; rfl
  have ePut : (s0.toList == [112, 117, 116]) = false := by rw [ByteArray.toList_eq, hv]; rfl
  have eDel : (s0.toList == [100, 101, 108]) = false := by rw [ByteArray.toList_eq, hv]; rfl
  have eCommit : (s0.toList == [99, 111, 109, 109, 105, 116]) = true := by rw [ByteArray.toList_eq, hv]; rfl
  have eAbort : (s0.toList == [97, 98, 111, 114, 116]) = false := by rw [ByteArray.toList_eq, hv]; rfl
  obtain ⟨w0, hw0⟩ : ∃ w0, w0 = (w.alloc (.cells zeroOp 27)).alloc (.cells zeroOp 27) := ⟨_, rfl⟩
  have hB0 : Below w.heap.size w w0 := by rw [hw0]; exact ((Below.refl _ _).alloc (Nat.le_refl _) _).alloc (by simp) _
  have r0 : w0.heap[w.heap.size]? = some (.cells zeroOp 27 (0, 0)) := by rw [hw0]; exact low_block _ _ _ _ _
  have o0 : w0.heap[w.heap.size + 1]? = some (.cells zeroOp 27 (0, 0)) := by rw [hw0]; exact top_block _ _ _ _ _
  have zs : w0.heap.size = w.heap.size + 2 := by rw [hw0]; simp
  have h0 := h.kept hB0
  have d0 : ∀ p, (aged w0 p).cell? ⟨f, 0, none⟩ = some (.slice (some ⟨b, 0, none⟩) 1 1) := cell_aged h0.c0
  have d1 : ∀ p, (aged w0 p).cell? ⟨b, 0, none⟩ = some (.string s0) := cell_aged (h0.list 0 (show 0 < 1 by decide))
  have H0 := Lib.hid h0
  have HB0 := Lib.hid hB0
  have HH := Lib.hid h
  unfold zeroOp at hw0
  have HW := Lib.hid hw0
  clear h0 h hv hw0 hB0
  go_enter Tryd.func42, Tryd.ntmps42
  go_wp2_with fail
  rw [← HW.out]
  clear HW
  refine wp_region_aged (by kernel_rfl) (by kernel_rfl) ?_
  repeat (go_big_quiet_step (fail))
  refine wpQuiet_nil ?_
  rintro _ ⟨p, rfl⟩
  have r1 := ((aged_below w0 p).block _ (by omega)).trans r0
  have o1 := ((aged_below w0 p).block _ (by omega)).trans o0
  have H1 := Lib.hid (H0.out.kept (aged_below w0 p))
  have hB1 := HB0.out.trans ((aged_below w0 p).mono (show w.heap.size ≤ w0.heap.size by omega))
  have hO1 : Only (fun k => k = f) w (aged w0 p) := Only.of_below hB1
  have z1 : w.heap.size + 2 ≤ (aged w0 p).heap.size := by have := (aged_below w0 p).size; omega
  obtain ⟨w1, hw1⟩ : ∃ w1, w1 = aged w0 p := ⟨_, rfl⟩
  rw [← hw1] at r1 o1 H1 hO1 z1 hB1 ⊢
  have HBB := Lib.hid hB1
  have HO1 := Lib.hid hO1
  have R1 := Lib.hid r1
  have O1 := Lib.hid o1
  clear hw1 d0 d1 r0 o0 zs H0 HB0 r1 o1 hO1 hB1
  have OA := Lib.hid O1.out
  have RA := Lib.hid R1.out
  have LA := Lib.hid HO1.out
  have SA := Lib.hid (Only.refl (fun k => w.heap.size ≤ k) w1)
  obtain ⟨x0, hx0⟩ : ∃ x, w1.setCell ⟨w.heap.size + 1, 0, none⟩ (.int .i64 6) = x := ⟨_, rfl⟩
  have qx0 : w1.cell? ⟨w.heap.size + 1, 0, none⟩ = some (.int .i64 0) := block_cell OA.out 0
  have fx0 : w1.frozen? ⟨w.heap.size + 1, 0, none⟩ = false := block_frozen OA.out 0
  replace OA := Lib.hid (hx0 ▸ (put_block OA.out 0 (.int .i64 6) (show zeroOp.setIfInBounds 0 (.int .i64 6) = (opC (6) false false false ⟨#[]⟩ ⟨#[]⟩ ⟨#[]⟩ ⟨#[]⟩ (0)) from rfl)))
  replace RA := Lib.hid (hx0 ▸ (far_block RA.out (p := ⟨w.heap.size + 1, 0, none⟩) (by simp) (.int .i64 6)))
  replace LA := Lib.hid (hx0 ▸ (Only.setCell LA.out (p := ⟨w.heap.size + 1, 0, none⟩) (.inr (by simp)) (.int .i64 6)))
  replace SA := Lib.hid (hx0 ▸ (Only.setCell SA.out (p := ⟨w.heap.size + 1, 0, none⟩) (.inl (by simp)) (.int .i64 6)))
  have hst := storeCells_row (P := Tryd.prog) x0 w.heap.size 27 zeroOp (opC (6) false false false ⟨#[]⟩ ⟨#[]⟩ ⟨#[]⟩ ⟨#[]⟩ (0)) RA.out rfl (by simp [opC, Value.oneCell'])
  go_wp2_with ((refine wpList_load_row rfl _ _ rfl (w.heap.size + 1) rfl 27 (opC (6) false false false ⟨#[]⟩ ⟨#[]⟩ ⟨#[]⟩ ⟨#[]⟩ (0)) (0, 0) _ OA.out Tryd.underlying27 rfl info_op ?_))
  (try simp only [Exit.inBlock, Exit.then])
  refine bodyPost_ret (results_row_tmp rfl _ _ w.heap.size 27 (opC (6) false false false ⟨#[]⟩ ⟨#[]⟩ ⟨#[]⟩ ⟨#[]⟩ (0)) (0, 0) _ rfl (row_block RA.out) Tryd.underlying27 rfl info_op) rfl ?_
  have hO3 := Only.setRow SA.out (g := w.heap.size) (.inl (Nat.le_refl _)) (opC (6) false false false ⟨#[]⟩ ⟨#[]⟩ ⟨#[]⟩ ⟨#[]⟩ (0))
  exact ⟨rfl, H1.out.same (hO3.block f (by omega) (by omega)) (hO3.block b (by omega) (by omega)), Only.setRow LA.out (.inr (Nat.le_refl _)) _⟩

set_option maxHeartbeats 4000000 in
theorem fread_abort (f b : Nat) (s0 : ByteArray) (hv : s0.data.toList = vAbort) (w : World) (h : Fs f b [s0] false w) :
    Calls Tryd.prog 42 #[.pointer (some ⟨f, 0, none⟩)] w fun e w' => e = .returned (.tuple #[.agg (opC (7) false false false ⟨#[]⟩ ⟨#[]⟩ ⟨#[]⟩ ⟨#[]⟩ (0)), .bool true]) ∧ Fs f b [s0] false w' ∧ Only (fun k => k = f) w w' := by
  have hf0 : f < w.heap.size := World.block_lt_of_cell? w _ h.c0
  have hb0 : b < w.heap.size := World.block_lt_of_cell? w _ (h.list 0 (show 0 < 1 by decide))
  have eBegin : (s0.toList == [98, 101, 103, 105, 110]) = false := by rw [ByteArray.toList_eq, hv]; rfl
  have eRscan : (s0.toList == [114, 115, 99, 97, 110]) = false := by rw [ByteArray.toList_eq, hv]; rfl
  have eScan : (s0.toList == [115, 99, 97, 110]) = false := by rw [ByteArray.toList_eq, hv]; rfl
  have eGet : (s0.toList == [103, 101, 116]) = false := by rw [ByteArray.toList_eq, hv]; rfl
  have ePut : (s0.toList == [112, 117, 116]) = false := by rw [ByteArray.toList_eq, hv]; rfl
  have eDel : (s0.toList == [100, 101, 108]) = false := by rw [ByteArray.toList_eq, hv]; rfl
  have eCommit : (s0.toList == [99, 111, 109, 109, 105, 116]) = false := by rw [ByteArray.toList_eq, hv]; rfl
  have eAbort : (s0.toList == [97, 98, 111, 114, 116]) = true := by rw [ByteArray.toList_eq, hv]; rfl
  obtain ⟨w0, hw0⟩ : ∃ w0, w0 = (w.alloc (.cells zeroOp 27)).alloc (.cells zeroOp 27) := ⟨_, rfl⟩
  have hB0 : Below w.heap.size w w0 := by rw [hw0]; exact ((Below.refl _ _).alloc (Nat.le_refl _) _).alloc (by simp) _
  have r0 : w0.heap[w.heap.size]? = some (.cells zeroOp 27 (0, 0)) := by rw [hw0]; exact low_block _ _ _ _ _
  have o0 : w0.heap[w.heap.size + 1]? = some (.cells zeroOp 27 (0, 0)) := by rw [hw0]; exact top_block _ _ _ _ _
  have zs : w0.heap.size = w.heap.size + 2 := by rw [hw0]; simp
  have h0 := h.kept hB0
  have d0 : ∀ p, (aged w0 p).cell? ⟨f, 0, none⟩ = some (.slice (some ⟨b, 0, none⟩) 1 1) := cell_aged h0.c0
  have d1 : ∀ p, (aged w0 p).cell? ⟨b, 0, none⟩ = some (.string s0) := cell_aged (h0.list 0 (show 0 < 1 by decide))
  have H0 := Lib.hid h0
  have HB0 := Lib.hid hB0
  have HH := Lib.hid h
  unfold zeroOp at hw0
  have HW := Lib.hid hw0
  clear h0 h hv hw0 hB0
  go_enter Tryd.func42, Tryd.ntmps42
  go_wp2_with fail
  rw [← HW.out]
  clear HW
  refine wp_region_aged (by kernel_rfl) (by kernel_rfl) ?_
  repeat (go_big_quiet_step (fail))
  refine wpQuiet_nil ?_
  rintro _ ⟨p, rfl⟩
  have r1 := ((aged_below w0 p).block _ (by omega)).trans r0
  have o1 := ((aged_below w0 p).block _ (by omega)).trans o0
  have H1 := Lib.hid (H0.out.kept (aged_below w0 p))
  have hB1 := HB0.out.trans ((aged_below w0 p).mono (show w.heap.size ≤ w0.heap.size by omega))
  have hO1 : Only (fun k => k = f) w (aged w0 p) := Only.of_below hB1
  have z1 : w.heap.size + 2 ≤ (aged w0 p).heap.size := by have := (aged_below w0 p).size; omega
  obtain ⟨w1, hw1⟩ : ∃ w1, w1 = aged w0 p := ⟨_, rfl⟩
  rw [← hw1] at r1 o1 H1 hO1 z1 hB1 ⊢
  have HBB := Lib.hid hB1
  have HO1 := Lib.hid hO1
  have R1 := Lib.hid r1
  have O1 := Lib.hid o1
  clear hw1 d0 d1 r0 o0 zs H0 HB0 r1 o1 hO1 hB1
  have OA := Lib.hid O1.out
  have RA := Lib.hid R1.out
  have LA := Lib.hid HO1.out
  have SA := Lib.hid (Only.refl (fun k => w.heap.size ≤ k) w1)
  obtain ⟨x0, hx0⟩ : ∃ x, w1.setCell ⟨w.heap.size + 1, 0, none⟩ (.int .i64 7) = x := ⟨_, rfl⟩
  have qx0 : w1.cell? ⟨w.heap.size + 1, 0, none⟩ = some (.int .i64 0) := block_cell OA.out 0
  have fx0 : w1.frozen? ⟨w.heap.size + 1, 0, none⟩ = false := block_frozen OA.out 0
  replace OA := Lib.hid (hx0 ▸ (put_block OA.out 0 (.int .i64 7) (show zeroOp.setIfInBounds 0 (.int .i64 7) = (opC (7) false false false ⟨#[]⟩ ⟨#[]⟩ ⟨#[]⟩ ⟨#[]⟩ (0)) from rfl)))
  replace RA := Lib.hid (hx0 ▸ (far_block RA.out (p := ⟨w.heap.size + 1, 0, none⟩) (by simp) (.int .i64 7)))
  replace LA := Lib.hid (hx0 ▸ (Only.setCell LA.out (p := ⟨w.heap.size + 1, 0, none⟩) (.inr (by simp)) (.int .i64 7)))
  replace SA := Lib.hid (hx0 ▸ (Only.setCell SA.out (p := ⟨w.heap.size + 1, 0, none⟩) (.inl (by simp)) (.int .i64 7)))
  have hst := storeCells_row (P := Tryd.prog) x0 w.heap.size 27 zeroOp (opC (7) false false false ⟨#[]⟩ ⟨#[]⟩ ⟨#[]⟩ ⟨#[]⟩ (0)) RA.out rfl (by simp [opC, Value.oneCell'])
  go_wp2_with ((refine wpList_load_row rfl _ _ rfl (w.heap.size + 1) rfl 27 (opC (7) false false false ⟨#[]⟩ ⟨#[]⟩ ⟨#[]⟩ ⟨#[]⟩ (0)) (0, 0) _ OA.out Tryd.underlying27 rfl info_op ?_))
  (try simp only [Exit.inBlock, Exit.then])
  refine bodyPost_ret (results_row_tmp rfl _ _ w.heap.size 27 (opC (7) false false false ⟨#[]⟩ ⟨#[]⟩ ⟨#[]⟩ ⟨#[]⟩ (0)) (0, 0) _ rfl (row_block RA.out) Tryd.underlying27 rfl info_op) rfl ?_
  have hO3 := Only.setRow SA.out (g := w.heap.size) (.inl (Nat.le_refl _)) (opC (7) false false false ⟨#[]⟩ ⟨#[]⟩ ⟨#[]⟩ ⟨#[]⟩ (0))
  exact ⟨rfl, H1.out.same (hO3.block f (by omega) (by omega)) (hO3.block b (by omega) (by omega)), Only.setRow LA.out (.inr (Nat.le_refl _)) _⟩

set_option maxHeartbeats 4000000 in
theorem fread_scan (f b : Nat) (s0 s1 s2 s3 : ByteArray) (hz1 : s1.size ≤ 1000000000) (hz2 : s2.size ≤ 1000000000) (hz3 : s3.size ≤ 1000000000) (hv : s0.data.toList = vScan) (w : World) (h : Fs f b [s0, s1, s2, s3] false w) (he : ErrsIn w) (htab : Pow w) (hap : Apart f) :
    Calls Tryd.prog 42 #[.pointer (some ⟨f, 0, none⟩)] w fun e w' => e = .returned (.tuple #[.agg (opC (3) false false false ⟨#[]⟩ ⟨((unwordP s1.data.toList).getD []).toArray⟩ ⟨((unwordP s2.data.toList).getD []).toArray⟩ ⟨#[]⟩ ((((numP s3.data.toList).getD 0 : Nat) : Int))), .bool true]) ∧ Fs f b [s0, s1, s2, s3] (((false || (unwordP s1.data.toList).isNone) || (unwordP s2.data.toList).isNone) || (numP s3.data.toList).isNone) w' ∧ Only (fun k => k = f) w w' := by
  have hf0 : f < w.heap.size := World.block_lt_of_cell? w _ h.c0
  have hb0 : b < w.heap.size := World.block_lt_of_cell? w _ (h.list 0 (show 0 < 4 by decide))
  have eBegin : (s0.toList == [98, 101, 103, 105, 110]) = false := by rw [ByteArray.toList_eq, hv]; rfl
  have eRscan : (s0.toList == [114, 115, 99, 97, 110]) = false := by rw [ByteArray.toList_eq, hv]; rfl
  have eScan : (s0.toList == [115, 99, 97, 110]) = true := by rw [ByteArray.toList_eq, hv]; rfl
  have eGet : (s0.toList == [103, 101, 116]) = false := by rw [ByteArray.toList_eq, hv]; rfl
  have ePut : (s0.toList == [112, 117, 116]) = false := by rw [ByteArray.toList_eq, hv]; rfl
  have eDel : (s0.toList == [100, 101, 108]) = false := by rw [ByteArray.toList_eq, hv]; rfl
  have eCommit : (s0.toList == [99, 111, 109, 109, 105, 116]) = false := by rw [ByteArray.toList_eq, hv]; rfl
  have eAbort : (s0.toList == [97, 98, 111, 114, 116]) = false := by rw [ByteArray.toList_eq, hv]; rfl
  obtain ⟨T1, hT1⟩ : ∃ T : ByteArray, T = ⟨((unwordP s1.data.toList).getD []).toArray⟩ := ⟨_, rfl⟩
  rw [← hT1]
  have HT1 := Lib.hid hT1
  clear hT1
  obtain ⟨T2, hT2⟩ : ∃ T : ByteArray, T = ⟨((unwordP s2.data.toList).getD []).toArray⟩ := ⟨_, rfl⟩
  rw [← hT2]
  have HT2 := Lib.hid hT2
  clear hT2
  obtain ⟨N3, hT3⟩ : ∃ N : Int, N = (((numP s3.data.toList).getD 0 : Nat) : Int) := ⟨_, rfl⟩
  rw [← hT3]
  have HT3 := Lib.hid hT3
  clear hT3
  obtain ⟨w0, hw0⟩ : ∃ w0, w0 = (w.alloc (.cells zeroOp 27)).alloc (.cells zeroOp 27) := ⟨_, rfl⟩
  have hB0 : Below w.heap.size w w0 := by rw [hw0]; exact ((Below.refl _ _).alloc (Nat.le_refl _) _).alloc (by simp) _
  have r0 : w0.heap[w.heap.size]? = some (.cells zeroOp 27 (0, 0)) := by rw [hw0]; exact low_block _ _ _ _ _
  have o0 : w0.heap[w.heap.size + 1]? = some (.cells zeroOp 27 (0, 0)) := by rw [hw0]; exact top_block _ _ _ _ _
  have zs : w0.heap.size = w.heap.size + 2 := by rw [hw0]; simp
  have h0 := h.kept hB0
  have d0 : ∀ p, (aged w0 p).cell? ⟨f, 0, none⟩ = some (.slice (some ⟨b, 0, none⟩) 4 4) := cell_aged h0.c0
  have d1 : ∀ p, (aged w0 p).cell? ⟨b, 0, none⟩ = some (.string s0) := cell_aged (h0.list 0 (show 0 < 4 by decide))
  have H0 := Lib.hid h0
  have HB0 := Lib.hid hB0
  have HH := Lib.hid h
  unfold zeroOp at hw0
  have HW := Lib.hid hw0
  clear h0 h hv hw0 hB0
  go_enter Tryd.func42, Tryd.ntmps42
  go_wp2_with fail
  rw [← HW.out]
  clear HW
  refine wp_region_aged (by kernel_rfl) (by kernel_rfl) ?_
  repeat (go_big_quiet_step (fail))
  refine wpQuiet_nil ?_
  rintro _ ⟨p, rfl⟩
  have r1 := ((aged_below w0 p).block _ (by omega)).trans r0
  have o1 := ((aged_below w0 p).block _ (by omega)).trans o0
  have H1 := Lib.hid (H0.out.kept (aged_below w0 p))
  have hB1 := HB0.out.trans ((aged_below w0 p).mono (show w.heap.size ≤ w0.heap.size by omega))
  have hO1 : Only (fun k => k = f) w (aged w0 p) := Only.of_below hB1
  have z1 : w.heap.size + 2 ≤ (aged w0 p).heap.size := by have := (aged_below w0 p).size; omega
  obtain ⟨w1, hw1⟩ : ∃ w1, w1 = aged w0 p := ⟨_, rfl⟩
  rw [← hw1] at r1 o1 H1 hO1 z1 hB1 ⊢
  have HBB := Lib.hid hB1
  have HO1 := Lib.hid hO1
  have R1 := Lib.hid r1
  have O1 := Lib.hid o1
  clear hw1 d0 d1 r0 o0 zs H0 HB0 r1 o1 hO1 hB1
  have hc := fword_calls f b [s0, s1, s2, s3] false 1 (show 1 < 4 by decide) hz1 (show 4 ≤ 1000000000 by omega) w1 H1.out
  simp only [show [s0, s1, s2, s3][1] = s1 from rfl, ← HT1.out] at hc
  have HC := Lib.hid hc
  clear hc
  go_wp2_with fail
  refine HC.out.mono ?_
  rintro e w2 ⟨rfl, hF, hx⟩
  clear HC
  have R2 := Lib.hid ((hx.block _ (by omega) (fun e : w.heap.size = f => by omega)).trans R1.out)
  have O2 := Lib.hid ((hx.block _ (by omega) (fun e : w.heap.size + 1 = f => by omega)).trans O1.out)
  have z2 : w.heap.size + 2 ≤ w2.heap.size := by have := hx.size; omega
  have HO2 := Lib.hid (HO1.out.trans hx (fun i hi => .inl hi))
  have H2 := Lib.hid hF
  clear hx hF R1 O1 HO1 H1 z1
  have hc := fword_calls f b [s0, s1, s2, s3] (false || (unwordP s1.data.toList).isNone) 2 (show 2 < 4 by decide) hz2 (show 4 ≤ 1000000000 by omega) w2 H2.out
  simp only [show [s0, s1, s2, s3][2] = s2 from rfl, ← HT2.out] at hc
  have HC := Lib.hid hc
  clear hc
  go_wp2_with fail
  refine HC.out.mono ?_
  rintro e w3 ⟨rfl, hF, hx⟩
  clear HC
  have R3 := Lib.hid ((hx.block _ (by omega) (fun e : w.heap.size = f => by omega)).trans R2.out)
  have O3 := Lib.hid ((hx.block _ (by omega) (fun e : w.heap.size + 1 = f => by omega)).trans O2.out)
  have z3 : w.heap.size + 2 ≤ w3.heap.size := by have := hx.size; omega
  have HO3 := Lib.hid (HO2.out.trans hx (fun i hi => .inl hi))
  have H3 := Lib.hid hF
  clear hx hF R2 O2 HO2 H2 z2
  have hErr : ErrsIn w3 := errs_only he HO3.out hap
  have hPow : Pow w3 := pow_only htab HO3.out hap
  have hc := fnumber_calls f b [s0, s1, s2, s3] ((false || (unwordP s1.data.toList).isNone) || (unwordP s2.data.toList).isNone) 3 (show 3 < 4 by decide) hz3 (show 4 ≤ 1000000000 by omega) w3 H3.out hErr hPow
  simp only [show [s0, s1, s2, s3][3] = s3 from rfl, ← HT3.out] at hc
  have HC := Lib.hid hc
  clear hc hErr hPow
  go_wp2_with fail
  refine HC.out.mono ?_
  rintro e w4 ⟨rfl, hF, hx⟩
  clear HC
  have R4 := Lib.hid ((hx.block _ (by omega) (fun e : w.heap.size = f => by omega)).trans R3.out)
  have O4 := Lib.hid ((hx.block _ (by omega) (fun e : w.heap.size + 1 = f => by omega)).trans O3.out)
  have z4 : w.heap.size + 2 ≤ w4.heap.size := by have := hx.size; omega
  have HO4 := Lib.hid (HO3.out.trans hx (fun i hi => .inl hi))
  have H4 := Lib.hid hF
  clear hx hF R3 O3 HO3 H3 z3
  have OA := Lib.hid O4.out
  have RA := Lib.hid R4.out
  have LA := Lib.hid HO4.out
  have SA := Lib.hid (Only.refl (fun k => w.heap.size ≤ k) w4)
  obtain ⟨x0, hx0⟩ : ∃ x, w4.setCell ⟨w.heap.size + 1, 0, none⟩ (.int .i64 3) = x := ⟨_, rfl⟩
  have qx0 : w4.cell? ⟨w.heap.size + 1, 0, none⟩ = some (.int .i64 0) := block_cell OA.out 0
  have fx0 : w4.frozen? ⟨w.heap.size + 1, 0, none⟩ = false := block_frozen OA.out 0
  replace OA := Lib.hid (hx0 ▸ (put_block OA.out 0 (.int .i64 3) (show zeroOp.setIfInBounds 0 (.int .i64 3) = (#[.int .i64 3, .bool false, .bool false, .bool false, .string ⟨#[]⟩, .string ⟨#[]⟩, .string ⟨#[]⟩, .string ⟨#[]⟩, .int .i64 0] : Array Value) from rfl)))
  replace RA := Lib.hid (hx0 ▸ (far_block RA.out (p := ⟨w.heap.size + 1, 0, none⟩) (by simp) (.int .i64 3)))
  replace LA := Lib.hid (hx0 ▸ (Only.setCell LA.out (p := ⟨w.heap.size + 1, 0, none⟩) (.inr (by simp)) (.int .i64 3)))
  replace SA := Lib.hid (hx0 ▸ (Only.setCell SA.out (p := ⟨w.heap.size + 1, 0, none⟩) (.inl (by simp)) (.int .i64 3)))
  obtain ⟨x1, hx1⟩ : ∃ x, x0.setCell ⟨w.heap.size + 1, 5, none⟩ (.string T1) = x := ⟨_, rfl⟩
  have qx1 : x0.cell? ⟨w.heap.size + 1, 5, none⟩ = some (.string ⟨#[]⟩) := block_cell OA.out 5
  have fx1 : x0.frozen? ⟨w.heap.size + 1, 5, none⟩ = false := block_frozen OA.out 5
  replace OA := Lib.hid (hx1 ▸ (put_block OA.out 5 (.string T1) (show (#[.int .i64 3, .bool false, .bool false, .bool false, .string ⟨#[]⟩, .string ⟨#[]⟩, .string ⟨#[]⟩, .string ⟨#[]⟩, .int .i64 0] : Array Value).setIfInBounds 5 (.string T1) = (#[.int .i64 3, .bool false, .bool false, .bool false, .string ⟨#[]⟩, .string T1, .string ⟨#[]⟩, .string ⟨#[]⟩, .int .i64 0] : Array Value) from rfl)))
  replace RA := Lib.hid (hx1 ▸ (far_block RA.out (p := ⟨w.heap.size + 1, 5, none⟩) (by simp) (.string T1)))
  replace LA := Lib.hid (hx1 ▸ (Only.setCell LA.out (p := ⟨w.heap.size + 1, 5, none⟩) (.inr (by simp)) (.string T1)))
  replace SA := Lib.hid (hx1 ▸ (Only.setCell SA.out (p := ⟨w.heap.size + 1, 5, none⟩) (.inl (by simp)) (.string T1)))
  obtain ⟨x2, hx2⟩ : ∃ x, x1.setCell ⟨w.heap.size + 1, 6, none⟩ (.string T2) = x := ⟨_, rfl⟩
  have qx2 : x1.cell? ⟨w.heap.size + 1, 6, none⟩ = some (.string ⟨#[]⟩) := block_cell OA.out 6
  have fx2 : x1.frozen? ⟨w.heap.size + 1, 6, none⟩ = false := block_frozen OA.out 6
  replace OA := Lib.hid (hx2 ▸ (put_block OA.out 6 (.string T2) (show (#[.int .i64 3, .bool false, .bool false, .bool false, .string ⟨#[]⟩, .string T1, .string ⟨#[]⟩, .string ⟨#[]⟩, .int .i64 0] : Array Value).setIfInBounds 6 (.string T2) = (#[.int .i64 3, .bool false, .bool false, .bool false, .string ⟨#[]⟩, .string T1, .string T2, .string ⟨#[]⟩, .int .i64 0] : Array Value) from rfl)))
  replace RA := Lib.hid (hx2 ▸ (far_block RA.out (p := ⟨w.heap.size + 1, 6, none⟩) (by simp) (.string T2)))
  replace LA := Lib.hid (hx2 ▸ (Only.setCell LA.out (p := ⟨w.heap.size + 1, 6, none⟩) (.inr (by simp)) (.string T2)))
  replace SA := Lib.hid (hx2 ▸ (Only.setCell SA.out (p := ⟨w.heap.size + 1, 6, none⟩) (.inl (by simp)) (.string T2)))
  obtain ⟨x3, hx3⟩ : ∃ x, x2.setCell ⟨w.heap.size + 1, 8, none⟩ (.int .i64 N3) = x := ⟨_, rfl⟩
  have qx3 : x2.cell? ⟨w.heap.size + 1, 8, none⟩ = some (.int .i64 0) := block_cell OA.out 8
  have fx3 : x2.frozen? ⟨w.heap.size + 1, 8, none⟩ = false := block_frozen OA.out 8
  replace OA := Lib.hid (hx3 ▸ (put_block OA.out 8 (.int .i64 N3) (show (#[.int .i64 3, .bool false, .bool false, .bool false, .string ⟨#[]⟩, .string T1, .string T2, .string ⟨#[]⟩, .int .i64 0] : Array Value).setIfInBounds 8 (.int .i64 N3) = (opC (3) false false false ⟨#[]⟩ T1 T2 ⟨#[]⟩ (N3)) from rfl)))
  replace RA := Lib.hid (hx3 ▸ (far_block RA.out (p := ⟨w.heap.size + 1, 8, none⟩) (by simp) (.int .i64 N3)))
  replace LA := Lib.hid (hx3 ▸ (Only.setCell LA.out (p := ⟨w.heap.size + 1, 8, none⟩) (.inr (by simp)) (.int .i64 N3)))
  replace SA := Lib.hid (hx3 ▸ (Only.setCell SA.out (p := ⟨w.heap.size + 1, 8, none⟩) (.inl (by simp)) (.int .i64 N3)))
  have hst := storeCells_row (P := Tryd.prog) x3 w.heap.size 27 zeroOp (opC (3) false false false ⟨#[]⟩ T1 T2 ⟨#[]⟩ (N3)) RA.out rfl (by simp [opC, Value.oneCell'])
  go_wp2_with ((refine wpList_load_row rfl _ _ rfl (w.heap.size + 1) rfl 27 (opC (3) false false false ⟨#[]⟩ T1 T2 ⟨#[]⟩ (N3)) (0, 0) _ OA.out Tryd.underlying27 rfl info_op ?_))
  (try simp only [Exit.inBlock, Exit.then])
  refine bodyPost_ret (results_row_tmp rfl _ _ w.heap.size 27 (opC (3) false false false ⟨#[]⟩ T1 T2 ⟨#[]⟩ (N3)) (0, 0) _ rfl (row_block RA.out) Tryd.underlying27 rfl info_op) rfl ?_
  have hO3 := Only.setRow SA.out (g := w.heap.size) (.inl (Nat.le_refl _)) (opC (3) false false false ⟨#[]⟩ T1 T2 ⟨#[]⟩ (N3))
  exact ⟨rfl, H4.out.same (hO3.block f (by omega) (by omega)) (hO3.block b (by omega) (by omega)), Only.setRow LA.out (.inr (Nat.le_refl _)) _⟩

set_option maxHeartbeats 4000000 in
theorem fread_rscan (f b : Nat) (s0 s1 s2 s3 : ByteArray) (hz1 : s1.size ≤ 1000000000) (hz2 : s2.size ≤ 1000000000) (hz3 : s3.size ≤ 1000000000) (hv : s0.data.toList = vRscan) (w : World) (h : Fs f b [s0, s1, s2, s3] false w) (he : ErrsIn w) (htab : Pow w) (hap : Apart f) :
    Calls Tryd.prog 42 #[.pointer (some ⟨f, 0, none⟩)] w fun e w' => e = .returned (.tuple #[.agg (opC (3) false false true ⟨#[]⟩ ⟨((unwordP s1.data.toList).getD []).toArray⟩ ⟨((unwordP s2.data.toList).getD []).toArray⟩ ⟨#[]⟩ ((((numP s3.data.toList).getD 0 : Nat) : Int))), .bool true]) ∧ Fs f b [s0, s1, s2, s3] (((false || (unwordP s1.data.toList).isNone) || (unwordP s2.data.toList).isNone) || (numP s3.data.toList).isNone) w' ∧ Only (fun k => k = f) w w' := by
  have hf0 : f < w.heap.size := World.block_lt_of_cell? w _ h.c0
  have hb0 : b < w.heap.size := World.block_lt_of_cell? w _ (h.list 0 (show 0 < 4 by decide))
  have eBegin : (s0.toList == [98, 101, 103, 105, 110]) = false := by rw [ByteArray.toList_eq, hv]; rfl
  have eRscan : (s0.toList == [114, 115, 99, 97, 110]) = true := by rw [ByteArray.toList_eq, hv]; rfl
  have eScan : (s0.toList == [115, 99, 97, 110]) = false := by rw [ByteArray.toList_eq, hv]; rfl
  have eGet : (s0.toList == [103, 101, 116]) = false := by rw [ByteArray.toList_eq, hv]; rfl
  have ePut : (s0.toList == [112, 117, 116]) = false := by rw [ByteArray.toList_eq, hv]; rfl
  have eDel : (s0.toList == [100, 101, 108]) = false := by rw [ByteArray.toList_eq, hv]; rfl
  have eCommit : (s0.toList == [99, 111, 109, 109, 105, 116]) = false := by rw [ByteArray.toList_eq, hv]; rfl
  have eAbort : (s0.toList == [97, 98, 111, 114, 116]) = false := by rw [ByteArray.toList_eq, hv]; rfl
  obtain ⟨T1, hT1⟩ : ∃ T : ByteArray, T = ⟨((unwordP s1.data.toList).getD []).toArray⟩ := ⟨_, rfl⟩
  rw [← hT1]
  have HT1 := Lib.hid hT1
  clear hT1
  obtain ⟨T2, hT2⟩ : ∃ T : ByteArray, T = ⟨((unwordP s2.data.toList).getD []).toArray⟩ := ⟨_, rfl⟩
  rw [← hT2]
  have HT2 := Lib.hid hT2
  clear hT2
  obtain ⟨N3, hT3⟩ : ∃ N : Int, N = (((numP s3.data.toList).getD 0 : Nat) : Int) := ⟨_, rfl⟩
  rw [← hT3]
  have HT3 := Lib.hid hT3
  clear hT3
  obtain ⟨w0, hw0⟩ : ∃ w0, w0 = (w.alloc (.cells zeroOp 27)).alloc (.cells zeroOp 27) := ⟨_, rfl⟩
  have hB0 : Below w.heap.size w w0 := by rw [hw0]; exact ((Below.refl _ _).alloc (Nat.le_refl _) _).alloc (by simp) _
  have r0 : w0.heap[w.heap.size]? = some (.cells zeroOp 27 (0, 0)) := by rw [hw0]; exact low_block _ _ _ _ _
  have o0 : w0.heap[w.heap.size + 1]? = some (.cells zeroOp 27 (0, 0)) := by rw [hw0]; exact top_block _ _ _ _ _
  have zs : w0.heap.size = w.heap.size + 2 := by rw [hw0]; simp
  have h0 := h.kept hB0
  have d0 : ∀ p, (aged w0 p).cell? ⟨f, 0, none⟩ = some (.slice (some ⟨b, 0, none⟩) 4 4) := cell_aged h0.c0
  have d1 : ∀ p, (aged w0 p).cell? ⟨b, 0, none⟩ = some (.string s0) := cell_aged (h0.list 0 (show 0 < 4 by decide))
  have H0 := Lib.hid h0
  have HB0 := Lib.hid hB0
  have HH := Lib.hid h
  unfold zeroOp at hw0
  have HW := Lib.hid hw0
  clear h0 h hv hw0 hB0
  go_enter Tryd.func42, Tryd.ntmps42
  go_wp2_with fail
  rw [← HW.out]
  clear HW
  refine wp_region_aged (by kernel_rfl) (by kernel_rfl) ?_
  repeat (go_big_quiet_step (fail))
  refine wpQuiet_nil ?_
  rintro _ ⟨p, rfl⟩
  have r1 := ((aged_below w0 p).block _ (by omega)).trans r0
  have o1 := ((aged_below w0 p).block _ (by omega)).trans o0
  have H1 := Lib.hid (H0.out.kept (aged_below w0 p))
  have hB1 := HB0.out.trans ((aged_below w0 p).mono (show w.heap.size ≤ w0.heap.size by omega))
  have hO1 : Only (fun k => k = f) w (aged w0 p) := Only.of_below hB1
  have z1 : w.heap.size + 2 ≤ (aged w0 p).heap.size := by have := (aged_below w0 p).size; omega
  obtain ⟨w1, hw1⟩ : ∃ w1, w1 = aged w0 p := ⟨_, rfl⟩
  rw [← hw1] at r1 o1 H1 hO1 z1 hB1 ⊢
  have HBB := Lib.hid hB1
  have HO1 := Lib.hid hO1
  have R1 := Lib.hid r1
  have O1 := Lib.hid o1
  clear hw1 d0 d1 r0 o0 zs H0 HB0 r1 o1 hO1 hB1
  have q3 : w1.cell? ⟨w.heap.size + 1, 3, none⟩ = some (.bool false) := block_cell O1.out 3
  have f3 : w1.frozen? ⟨w.heap.size + 1, 3, none⟩ = false := block_frozen O1.out 3
  go_wp2_with fail
  have o2 := put_block O1.out 3 (.bool true) (show zeroOp.setIfInBounds 3 (.bool true) = (#[.int .i64 0, .bool false, .bool false, .bool true, .string ⟨#[]⟩, .string ⟨#[]⟩, .string ⟨#[]⟩, .string ⟨#[]⟩, .int .i64 0] : Array Value) from rfl)
  have r2 := far_block R1.out (p := ⟨w.heap.size + 1, 3, none⟩) (by simp) (.bool true)
  have hO2 : Only (fun k => k = f) w (w1.setCell ⟨w.heap.size + 1, 3, none⟩ (.bool true)) := Only.setCell HO1.out (.inr (by simp)) _
  have z2 : w.heap.size + 2 ≤ (w1.setCell ⟨w.heap.size + 1, 3, none⟩ (.bool true)).heap.size := by simpa [World.setCell] using z1
  have H2 := Lib.hid (H1.out.same (w' := w1.setCell ⟨w.heap.size + 1, 3, none⟩ (.bool true)) (Below.heap_setCell _ _ _ _ (by simp; omega)) (Below.heap_setCell _ _ _ _ (by simp; omega)))
  have hBB2 : Below w.heap.size w (w1.setCell ⟨w.heap.size + 1, 3, none⟩ (.bool true)) := HBB.out.setCell (by simp) _
  obtain ⟨w2, hw2⟩ : ∃ w2, w2 = w1.setCell ⟨w.heap.size + 1, 3, none⟩ (.bool true) := ⟨_, rfl⟩
  rw [← hw2] at o2 r2 hO2 z2 H2 hBB2 ⊢
  have HBB2 := Lib.hid hBB2
  have HO2 := Lib.hid hO2
  have R2 := Lib.hid r2
  have O2 := Lib.hid o2
  clear hw2 o2 r2 hO2 hBB2 q3 f3 z1
  have hc := fword_calls f b [s0, s1, s2, s3] false 1 (show 1 < 4 by decide) hz1 (show 4 ≤ 1000000000 by omega) w2 H2.out
  simp only [show [s0, s1, s2, s3][1] = s1 from rfl, ← HT1.out] at hc
  have HC := Lib.hid hc
  clear hc
  go_wp2_with fail
  refine HC.out.mono ?_
  rintro e w3 ⟨rfl, hF, hx⟩
  clear HC
  have R3 := Lib.hid ((hx.block _ (by omega) (fun e : w.heap.size = f => by omega)).trans R2.out)
  have O3 := Lib.hid ((hx.block _ (by omega) (fun e : w.heap.size + 1 = f => by omega)).trans O2.out)
  have z3 : w.heap.size + 2 ≤ w3.heap.size := by have := hx.size; omega
  have HO3 := Lib.hid (HO2.out.trans hx (fun i hi => .inl hi))
  have H3 := Lib.hid hF
  clear hx hF R2 O2 HO2 H2 z2
  have hc := fword_calls f b [s0, s1, s2, s3] (false || (unwordP s1.data.toList).isNone) 2 (show 2 < 4 by decide) hz2 (show 4 ≤ 1000000000 by omega) w3 H3.out
  simp only [show [s0, s1, s2, s3][2] = s2 from rfl, ← HT2.out] at hc
  have HC := Lib.hid hc
  clear hc
  go_wp2_with fail
  refine HC.out.mono ?_
  rintro e w4 ⟨rfl, hF, hx⟩
  clear HC
  have R4 := Lib.hid ((hx.block _ (by omega) (fun e : w.heap.size = f => by omega)).trans R3.out)
  have O4 := Lib.hid ((hx.block _ (by omega) (fun e : w.heap.size + 1 = f => by omega)).trans O3.out)
  have z4 : w.heap.size + 2 ≤ w4.heap.size := by have := hx.size; omega
  have HO4 := Lib.hid (HO3.out.trans hx (fun i hi => .inl hi))
  have H4 := Lib.hid hF
  clear hx hF R3 O3 HO3 H3 z3
  have hErr : ErrsIn w4 := errs_only he HO4.out hap
  have hPow : Pow w4 := pow_only htab HO4.out hap
  have hc := fnumber_calls f b [s0, s1, s2, s3] ((false || (unwordP s1.data.toList).isNone) || (unwordP s2.data.toList).isNone) 3 (show 3 < 4 by decide) hz3 (show 4 ≤ 1000000000 by omega) w4 H4.out hErr hPow
  simp only [show [s0, s1, s2, s3][3] = s3 from rfl, ← HT3.out] at hc
  have HC := Lib.hid hc
  clear hc hErr hPow
  go_wp2_with fail
  refine HC.out.mono ?_
  rintro e w5 ⟨rfl, hF, hx⟩
  clear HC
  have R5 := Lib.hid ((hx.block _ (by omega) (fun e : w.heap.size = f => by omega)).trans R4.out)
  have O5 := Lib.hid ((hx.block _ (by omega) (fun e : w.heap.size + 1 = f => by omega)).trans O4.out)
  have z5 : w.heap.size + 2 ≤ w5.heap.size := by have := hx.size; omega
  have HO5 := Lib.hid (HO4.out.trans hx (fun i hi => .inl hi))
  have H5 := Lib.hid hF
  clear hx hF R4 O4 HO4 H4 z4
  have OA := Lib.hid O5.out
  have RA := Lib.hid R5.out
  have LA := Lib.hid HO5.out
  have SA := Lib.hid (Only.refl (fun k => w.heap.size ≤ k) w5)
  obtain ⟨x0, hx0⟩ : ∃ x, w5.setCell ⟨w.heap.size + 1, 0, none⟩ (.int .i64 3) = x := ⟨_, rfl⟩
  have qx0 : w5.cell? ⟨w.heap.size + 1, 0, none⟩ = some (.int .i64 0) := block_cell OA.out 0
  have fx0 : w5.frozen? ⟨w.heap.size + 1, 0, none⟩ = false := block_frozen OA.out 0
  replace OA := Lib.hid (hx0 ▸ (put_block OA.out 0 (.int .i64 3) (show (#[.int .i64 0, .bool false, .bool false, .bool true, .string ⟨#[]⟩, .string ⟨#[]⟩, .string ⟨#[]⟩, .string ⟨#[]⟩, .int .i64 0] : Array Value).setIfInBounds 0 (.int .i64 3) = (#[.int .i64 3, .bool false, .bool false, .bool true, .string ⟨#[]⟩, .string ⟨#[]⟩, .string ⟨#[]⟩, .string ⟨#[]⟩, .int .i64 0] : Array Value) from rfl)))
  replace RA := Lib.hid (hx0 ▸ (far_block RA.out (p := ⟨w.heap.size + 1, 0, none⟩) (by simp) (.int .i64 3)))
  replace LA := Lib.hid (hx0 ▸ (Only.setCell LA.out (p := ⟨w.heap.size + 1, 0, none⟩) (.inr (by simp)) (.int .i64 3)))
  replace SA := Lib.hid (hx0 ▸ (Only.setCell SA.out (p := ⟨w.heap.size + 1, 0, none⟩) (.inl (by simp)) (.int .i64 3)))
  obtain ⟨x1, hx1⟩ : ∃ x, x0.setCell ⟨w.heap.size + 1, 5, none⟩ (.string T1) = x := ⟨_, rfl⟩
  have qx1 : x0.cell? ⟨w.heap.size + 1, 5, none⟩ = some (.string ⟨#[]⟩) := block_cell OA.out 5
  have fx1 : x0.frozen? ⟨w.heap.size + 1, 5, none⟩ = false := block_frozen OA.out 5
  replace OA := Lib.hid (hx1 ▸ (put_block OA.out 5 (.string T1) (show (#[.int .i64 3, .bool false, .bool false, .bool true, .string ⟨#[]⟩, .string ⟨#[]⟩, .string ⟨#[]⟩, .string ⟨#[]⟩, .int .i64 0] : Array Value).setIfInBounds 5 (.string T1) = (#[.int .i64 3, .bool false, .bool false, .bool true, .string ⟨#[]⟩, .string T1, .string ⟨#[]⟩, .string ⟨#[]⟩, .int .i64 0] : Array Value) from rfl)))
  replace RA := Lib.hid (hx1 ▸ (far_block RA.out (p := ⟨w.heap.size + 1, 5, none⟩) (by simp) (.string T1)))
  replace LA := Lib.hid (hx1 ▸ (Only.setCell LA.out (p := ⟨w.heap.size + 1, 5, none⟩) (.inr (by simp)) (.string T1)))
  replace SA := Lib.hid (hx1 ▸ (Only.setCell SA.out (p := ⟨w.heap.size + 1, 5, none⟩) (.inl (by simp)) (.string T1)))
  obtain ⟨x2, hx2⟩ : ∃ x, x1.setCell ⟨w.heap.size + 1, 6, none⟩ (.string T2) = x := ⟨_, rfl⟩
  have qx2 : x1.cell? ⟨w.heap.size + 1, 6, none⟩ = some (.string ⟨#[]⟩) := block_cell OA.out 6
  have fx2 : x1.frozen? ⟨w.heap.size + 1, 6, none⟩ = false := block_frozen OA.out 6
  replace OA := Lib.hid (hx2 ▸ (put_block OA.out 6 (.string T2) (show (#[.int .i64 3, .bool false, .bool false, .bool true, .string ⟨#[]⟩, .string T1, .string ⟨#[]⟩, .string ⟨#[]⟩, .int .i64 0] : Array Value).setIfInBounds 6 (.string T2) = (#[.int .i64 3, .bool false, .bool false, .bool true, .string ⟨#[]⟩, .string T1, .string T2, .string ⟨#[]⟩, .int .i64 0] : Array Value) from rfl)))
  replace RA := Lib.hid (hx2 ▸ (far_block RA.out (p := ⟨w.heap.size + 1, 6, none⟩) (by simp) (.string T2)))
  replace LA := Lib.hid (hx2 ▸ (Only.setCell LA.out (p := ⟨w.heap.size + 1, 6, none⟩) (.inr (by simp)) (.string T2)))
  replace SA := Lib.hid (hx2 ▸ (Only.setCell SA.out (p := ⟨w.heap.size + 1, 6, none⟩) (.inl (by simp)) (.string T2)))
  obtain ⟨x3, hx3⟩ : ∃ x, x2.setCell ⟨w.heap.size + 1, 8, none⟩ (.int .i64 N3) = x := ⟨_, rfl⟩
  have qx3 : x2.cell? ⟨w.heap.size + 1, 8, none⟩ = some (.int .i64 0) := block_cell OA.out 8
  have fx3 : x2.frozen? ⟨w.heap.size + 1, 8, none⟩ = false := block_frozen OA.out 8
  replace OA := Lib.hid (hx3 ▸ (put_block OA.out 8 (.int .i64 N3) (show (#[.int .i64 3, .bool false, .bool false, .bool true, .string ⟨#[]⟩, .string T1, .string T2, .string ⟨#[]⟩, .int .i64 0] : Array Value).setIfInBounds 8 (.int .i64 N3) = (opC (3) false false true ⟨#[]⟩ T1 T2 ⟨#[]⟩ (N3)) from rfl)))
  replace RA := Lib.hid (hx3 ▸ (far_block RA.out (p := ⟨w.heap.size + 1, 8, none⟩) (by simp) (.int .i64 N3)))
  replace LA := Lib.hid (hx3 ▸ (Only.setCell LA.out (p := ⟨w.heap.size + 1, 8, none⟩) (.inr (by simp)) (.int .i64 N3)))
  replace SA := Lib.hid (hx3 ▸ (Only.setCell SA.out (p := ⟨w.heap.size + 1, 8, none⟩) (.inl (by simp)) (.int .i64 N3)))
  have hst := storeCells_row (P := Tryd.prog) x3 w.heap.size 27 zeroOp (opC (3) false false true ⟨#[]⟩ T1 T2 ⟨#[]⟩ (N3)) RA.out rfl (by simp [opC, Value.oneCell'])
  go_wp2_with ((refine wpList_load_row rfl _ _ rfl (w.heap.size + 1) rfl 27 (opC (3) false false true ⟨#[]⟩ T1 T2 ⟨#[]⟩ (N3)) (0, 0) _ OA.out Tryd.underlying27 rfl info_op ?_))
  (try simp only [Exit.inBlock, Exit.then])
  refine bodyPost_ret (results_row_tmp rfl _ _ w.heap.size 27 (opC (3) false false true ⟨#[]⟩ T1 T2 ⟨#[]⟩ (N3)) (0, 0) _ rfl (row_block RA.out) Tryd.underlying27 rfl info_op) rfl ?_
  have hO3 := Only.setRow SA.out (g := w.heap.size) (.inl (Nat.le_refl _)) (opC (3) false false true ⟨#[]⟩ T1 T2 ⟨#[]⟩ (N3))
  exact ⟨rfl, H5.out.same (hO3.block f (by omega) (by omega)) (hO3.block b (by omega) (by omega)), Only.setRow LA.out (.inr (Nat.le_refl _)) _⟩

end Go.Proofs.YtconkncoohcdfaaDoor
