/- What the gate's reader makes of a line's fields: a begin; fields that are of no form; all of it in one word. -/
import Derived.Test.YtconkncoohcdfaaDoorRd
namespace Go.Proofs.YtconkncoohcdfaaDoor
open Go.RowKit
set_option linter.unusedSimpArgs false
set_option linter.unusedVariables false
set_option maxRecDepth 100000
attribute [local go_sem ↓] Go.wp_at_zero Go.wp_at_succ

set_option maxHeartbeats 4000000 in
theorem fread_begin (f b : Nat) (s0 m t : ByteArray) (hsz : t.size ≤ 1000000000) (hv : s0.data.toList = vBegin) : ∃ ro ao T ok bad', readP [s0.data.toList, m.data.toList, t.data.toList] = (if ok = true ∧ bad' = false then some (opB 1 ro ao false T ⟨#[]⟩ ⟨#[]⟩ ⟨#[]⟩ 0) else none) ∧
    ∀ w, Fs f b [s0, m, t] false w → Calls Tryd.prog 42 #[.pointer (some ⟨f, 0, none⟩)] w fun e w' => e = .returned (.tuple #[.agg (beginC ro ao T), .bool ok]) ∧ Fs f b [s0, m, t] bad' w' ∧ Only (fun k => k = f) w w' := by
  obtain ⟨ro, ao, T, ok, bad', hread, hcall⟩ := fbegin_calls f b s0 m t hsz hv
  refine ⟨ro, ao, T, ok, bad', hread, fun w h => ?_⟩
  have HC := Lib.hid hcall
  have hf0 : f < w.heap.size := World.block_lt_of_cell? w _ h.c0
  have hb0 : b < w.heap.size := World.block_lt_of_cell? w _ (h.list 0 (by simp))
  have eBegin : (s0.toList == [98, 101, 103, 105, 110]) = true := by rw [ByteArray.toList_eq, hv]; rfl
  have eRscan : (s0.toList == [114, 115, 99, 97, 110]) = false := by rw [ByteArray.toList_eq, hv]; rfl
  have eScan : (s0.toList == [115, 99, 97, 110]) = false := by rw [ByteArray.toList_eq, hv]; rfl
  have eGet : (s0.toList == [103, 101, 116]) = false := by rw [ByteArray.toList_eq, hv]; rfl
  have ePut : (s0.toList == [112, 117, 116]) = false := by rw [ByteArray.toList_eq, hv]; rfl
  have eDel : (s0.toList == [100, 101, 108]) = false := by rw [ByteArray.toList_eq, hv]; rfl
  have eCommit : (s0.toList == [99, 111, 109, 109, 105, 116]) = false := by rw [ByteArray.toList_eq, hv]; rfl
  have eAbort : (s0.toList == [97, 98, 111, 114, 116]) = false := by rw [ByteArray.toList_eq, hv]; rfl
  clear hv hread hcall
  obtain ⟨w0, hw0⟩ : ∃ w0, w0 = (w.alloc (.cells zeroOp 27)).alloc (.cells zeroOp 27) := ⟨_, rfl⟩
  have hB0 : Below w.heap.size w w0 := by rw [hw0]; exact ((Below.refl _ _).alloc (Nat.le_refl _) _).alloc (by simp) _
  have r0 : w0.heap[w.heap.size]? = some (.cells zeroOp 27 (0, 0)) := by rw [hw0]; exact low_block _ _ _ _ _
  have o0 : w0.heap[w.heap.size + 1]? = some (.cells zeroOp 27 (0, 0)) := by rw [hw0]; exact top_block _ _ _ _ _
  have zs : w0.heap.size = w.heap.size + 2 := by rw [hw0]; simp
  have h0 := h.kept hB0
  have d0 : ∀ p, (aged w0 p).cell? ⟨f, 0, none⟩ = some (.slice (some ⟨b, 0, none⟩) 3 3) := cell_aged h0.c0
  have d1 : ∀ p, (aged w0 p).cell? ⟨b, 0, none⟩ = some (.string s0) := cell_aged (h0.list 0 (by simp))
  have H0 := Lib.hid h0
  have HB0 := Lib.hid hB0
  unfold zeroOp at hw0
  have HW := Lib.hid hw0
  clear h0 h hw0 hB0
  go_enter Tryd.func42, Tryd.ntmps42
  go_wp2_with fail
  rw [← HW.out]
  clear HW
  refine wp_region_aged (by kernel_rfl) (by kernel_rfl) ?_
  repeat (go_big_quiet_step (fail))
  refine wpQuiet_nil ?_
  rintro _ ⟨p, rfl⟩
  have r1 := ((aged_below w0 p).block _ (by omega)).trans r0
  have o1 := ((aged_below w0 p).block _ (by omega)).trans o0
  have H1 := Lib.hid (H0.out.kept (aged_below w0 p))
  have hB1 := HB0.out.trans ((aged_below w0 p).mono (show w.heap.size ≤ w0.heap.size by omega))
  have hO1 : Only (fun k => k = f) w (aged w0 p) := Only.of_below hB1
  have z1 : w.heap.size + 2 ≤ (aged w0 p).heap.size := by have := (aged_below w0 p).size; omega
  obtain ⟨w1, hw1⟩ : ∃ w1, w1 = aged w0 p := ⟨_, rfl⟩
  rw [← hw1] at r1 o1 H1 hO1 z1 hB1 ⊢
  have HO1 := Lib.hid hO1
  have R1 := Lib.hid r1
  have O1 := Lib.hid o1
  clear hw1 d0 d1 r0 o0 zs H0 HB0 r1 o1 hO1 hB1
  go_wp2_with fail
  refine (HC.out w1 H1.out).mono ?_
  rintro e w2 ⟨rfl, hF, hx⟩
  clear HC
  have R2 := Lib.hid ((hx.block _ (by omega) (fun e : w.heap.size = f => by omega)).trans R1.out)
  have z2 : w.heap.size + 2 ≤ w2.heap.size := by have := hx.size; omega
  have HO2 := Lib.hid (HO1.out.trans hx (fun i hi => .inl hi))
  have H2 := Lib.hid hF
  clear hx hF
  have hst := storeCells_row (P := Tryd.prog) w2 w.heap.size 27 zeroOp (beginC ro ao T) R2.out rfl (by simp [beginC, Value.oneCell'])
  go_wp2
  (try simp only [Exit.inBlock, Exit.then])
  refine bodyPost_ret (results_row_tmp rfl _ _ w.heap.size 27 (beginC ro ao T) (0, 0) _ rfl (row_block R2.out) Tryd.underlying27 rfl info_op) rfl ?_
  have hO3 := Only.setRow (Only.refl (fun k => w.heap.size ≤ k) w2) (g := w.heap.size) (.inl (Nat.le_refl _)) (beginC ro ao T)
  exact ⟨rfl, H2.out.same (hO3.block f (by omega) (by omega)) (hO3.block b (by omega) (by omega)), Only.setRow HO2.out (.inr (Nat.le_refl _)) _⟩

set_option maxHeartbeats 4000000 in
theorem fnone_Begin (f b : Nat) (s0 : ByteArray) (rest : List ByteArray) (n : Nat) (hN : n = (s0 :: rest).length) (hle : n ≤ 1000000000) (hv : s0.data.toList = vBegin) (hn : n ≠ 3) (w : World) (h : Fs f b (s0 :: rest) false w) :
    Calls Tryd.prog 42 #[.pointer (some ⟨f, 0, none⟩)] w fun e w' => e = .returned (.tuple #[.agg zeroOp, .bool false]) ∧ Fs f b (s0 :: rest) false w' ∧ Only (fun k => k = f) w w' := by
  have hf0 : f < w.heap.size := World.block_lt_of_cell? w _ h.c0
  have hb0 : b < w.heap.size := World.block_lt_of_cell? w _ (h.list 0 (by simp))
  have hpos : (0 : Int) < (n : Int) := by rw [hN]; simp
  have hle' : (n : Int) ≤ 1000000000 := by omega
  have eBegin : (s0.toList == [98, 101, 103, 105, 110]) = true := by rw [ByteArray.toList_eq, hv]; rfl
  have eRscan : (s0.toList == [114, 115, 99, 97, 110]) = false := by rw [ByteArray.toList_eq, hv]; rfl
  have eScan : (s0.toList == [115, 99, 97, 110]) = false := by rw [ByteArray.toList_eq, hv]; rfl
  have eGet : (s0.toList == [103, 101, 116]) = false := by rw [ByteArray.toList_eq, hv]; rfl
  have ePut : (s0.toList == [112, 117, 116]) = false := by rw [ByteArray.toList_eq, hv]; rfl
  have eDel : (s0.toList == [100, 101, 108]) = false := by rw [ByteArray.toList_eq, hv]; rfl
  have eCommit : (s0.toList == [99, 111, 109, 109, 105, 116]) = false := by rw [ByteArray.toList_eq, hv]; rfl
  have eAbort : (s0.toList == [97, 98, 111, 114, 116]) = false := by rw [ByteArray.toList_eq, hv]; rfl
  have en : ((n : Int) == 3) = false := by simp; omega
  clear hv hn
  have HN := Lib.hid hN
  obtain ⟨w0, hw0⟩ : ∃ w0, w0 = (w.alloc (.cells zeroOp 27)).alloc (.cells zeroOp 27) := ⟨_, rfl⟩
  have hB0 : Below w.heap.size w w0 := by rw [hw0]; exact ((Below.refl _ _).alloc (Nat.le_refl _) _).alloc (by simp) _
  have r0 : w0.heap[w.heap.size]? = some (.cells zeroOp 27 (0, 0)) := by rw [hw0]; exact low_block _ _ _ _ _
  have o0 : w0.heap[w.heap.size + 1]? = some (.cells zeroOp 27 (0, 0)) := by rw [hw0]; exact top_block _ _ _ _ _
  have zs : w0.heap.size = w.heap.size + 2 := by rw [hw0]; simp
  have h0 := h.kept hB0
  have d0 : ∀ p, (aged w0 p).cell? ⟨f, 0, none⟩ = some (.slice (some ⟨b, 0, none⟩) n n) := by rw [hN]; exact cell_aged h0.c0
  have d1 : ∀ p, (aged w0 p).cell? ⟨b, 0, none⟩ = some (.string s0) := cell_aged (h0.list 0 (by simp))
  have H0 := Lib.hid h0
  have HB0 := Lib.hid hB0
  unfold zeroOp at hw0
  have HW := Lib.hid hw0
  clear h0 h hw0 hB0 hN
  go_enter Tryd.func42, Tryd.ntmps42
  go_wp2_with fail
  rw [← HW.out]
  clear HW
  refine wp_region_aged (by kernel_rfl) (by kernel_rfl) ?_
  repeat (go_big_quiet_step (fail))
  refine wpQuiet_nil ?_
  rintro _ ⟨p, rfl⟩
  have r1 := ((aged_below w0 p).block _ (by omega)).trans r0
  have o1 := ((aged_below w0 p).block _ (by omega)).trans o0
  have H1 := Lib.hid (H0.out.kept (aged_below w0 p))
  have hB1 := HB0.out.trans ((aged_below w0 p).mono (show w.heap.size ≤ w0.heap.size by omega))
  have hO1 : Only (fun k => k = f) w (aged w0 p) := Only.of_below hB1
  have z1 : w.heap.size + 2 ≤ (aged w0 p).heap.size := by have := (aged_below w0 p).size; omega
  obtain ⟨w1, hw1⟩ : ∃ w1, w1 = aged w0 p := ⟨_, rfl⟩
  rw [← hw1] at r1 o1 H1 hO1 z1 hB1 ⊢
  have HO1 := Lib.hid hO1
  have R1 := Lib.hid r1
  have O1 := Lib.hid o1
  clear hw1 d0 d1 r0 o0 zs H0 HB0 r1 o1 hO1 hB1
  have hst := storeCells_row (P := Tryd.prog) w1 w.heap.size 27 zeroOp zeroOp R1.out rfl (by simp [zeroOp, Value.oneCell'])
  go_wp2_with ((refine wpList_load_row rfl _ _ rfl (w.heap.size + 1) rfl 27 zeroOp (0, 0) _ O1.out Tryd.underlying27 rfl info_op ?_))
  (try simp only [Exit.inBlock, Exit.then])
  refine bodyPost_ret (results_row_tmp rfl _ _ w.heap.size 27 zeroOp (0, 0) _ rfl (row_block R1.out) Tryd.underlying27 rfl info_op) rfl ?_
  have hO3 := Only.setRow (Only.refl (fun k => w.heap.size ≤ k) w1) (g := w.heap.size) (.inl (Nat.le_refl _)) zeroOp
  exact ⟨rfl, H1.out.same (hO3.block f (by omega) (by omega)) (hO3.block b (by omega) (by omega)), Only.setRow HO1.out (.inr (Nat.le_refl _)) _⟩

set_option maxHeartbeats 4000000 in
theorem fnone_Rscan (f b : Nat) (s0 : ByteArray) (rest : List ByteArray) (n : Nat) (hN : n = (s0 :: rest).length) (hle : n ≤ 1000000000) (hv : s0.data.toList = vRscan) (hn : n ≠ 4) (w : World) (h : Fs f b (s0 :: rest) false w) :
    Calls Tryd.prog 42 #[.pointer (some ⟨f, 0, none⟩)] w fun e w' => e = .returned (.tuple #[.agg zeroOp, .bool false]) ∧ Fs f b (s0 :: rest) false w' ∧ Only (fun k => k = f) w w' := by
  have hf0 : f < w.heap.size := World.block_lt_of_cell? w _ h.c0
  have hb0 : b < w.heap.size := World.block_lt_of_cell? w _ (h.list 0 (by simp))
  have hpos : (0 : Int) < (n : Int) := by rw [hN]; simp
  have hle' : (n : Int) ≤ 1000000000 := by omega
  have eBegin : (s0.toList == [98, 101, 103, 105, 110]) = false := by rw [ByteArray.toList_eq, hv]; rfl
  have eRscan : (s0.toList == [114, 115, 99, 97, 110]) = true := by rw [ByteArray.toList_eq, hv]; rfl
  have eScan : (s0.toList == [115, 99, 97, 110]) = false := by rw [ByteArray.toList_eq, hv]; rfl
  have eGet : (s0.toList == [103, 101, 116]) = false := by rw [ByteArray.toList_eq, hv]; rfl
  have ePut : (s0.toList == [112, 117, 116]) = false := by rw [ByteArray.toList_eq, hv]; rfl
  have eDel : (s0.toList == [100, 101, 108]) = false := by rw [ByteArray.toList_eq, hv]; rfl
  have eCommit : (s0.toList == [99, 111, 109, 109, 105, 116]) = false := by rw [ByteArray.toList_eq, hv]; rfl
  have eAbort : (s0.toList == [97, 98, 111, 114, 116]) = false := by rw [ByteArray.toList_eq, hv]; rfl
  have en : ((n : Int) == 4) = false := by simp; omega
  clear hv hn
  have HN := Lib.hid hN
  obtain ⟨w0, hw0⟩ : ∃ w0, w0 = (w.alloc (.cells zeroOp 27)).alloc (.cells zeroOp 27) := ⟨_, rfl⟩
  have hB0 : Below w.heap.size w w0 := by rw [hw0]; exact ((Below.refl _ _).alloc (Nat.le_refl _) _).alloc (by simp) _
  have r0 : w0.heap[w.heap.size]? = some (.cells zeroOp 27 (0, 0)) := by rw [hw0]; exact low_block _ _ _ _ _
  have o0 : w0.heap[w.heap.size + 1]? = some (.cells zeroOp 27 (0, 0)) := by rw [hw0]; exact top_block _ _ _ _ _
  have zs : w0.heap.size = w.heap.size + 2 := by rw [hw0]; simp
  have h0 := h.kept hB0
  have d0 : ∀ p, (aged w0 p).cell? ⟨f, 0, none⟩ = some (.slice (some ⟨b, 0, none⟩) n n) := by rw [hN]; exact cell_aged h0.c0
  have d1 : ∀ p, (aged w0 p).cell? ⟨b, 0, none⟩ = some (.string s0) := cell_aged (h0.list 0 (by simp))
  have H0 := Lib.hid h0
  have HB0 := Lib.hid hB0
  unfold zeroOp at hw0
  have HW := Lib.hid hw0
  clear h0 h hw0 hB0 hN
  go_enter Tryd.func42, Tryd.ntmps42
  go_wp2_with fail
  rw [← HW.out]
  clear HW
  refine wp_region_aged (by kernel_rfl) (by kernel_rfl) ?_
  repeat (go_big_quiet_step (fail))
  refine wpQuiet_nil ?_
  rintro _ ⟨p, rfl⟩
  have r1 := ((aged_below w0 p).block _ (by omega)).trans r0
  have o1 := ((aged_below w0 p).block _ (by omega)).trans o0
  have H1 := Lib.hid (H0.out.kept (aged_below w0 p))
  have hB1 := HB0.out.trans ((aged_below w0 p).mono (show w.heap.size ≤ w0.heap.size by omega))
  have hO1 : Only (fun k => k = f) w (aged w0 p) := Only.of_below hB1
  have z1 : w.heap.size + 2 ≤ (aged w0 p).heap.size := by have := (aged_below w0 p).size; omega
  obtain ⟨w1, hw1⟩ : ∃ w1, w1 = aged w0 p := ⟨_, rfl⟩
  rw [← hw1] at r1 o1 H1 hO1 z1 hB1 ⊢
  have HO1 := Lib.hid hO1
  have R1 := Lib.hid r1
  have O1 := Lib.hid o1
  clear hw1 d0 d1 r0 o0 zs H0 HB0 r1 o1 hO1 hB1
  have hst := storeCells_row (P := Tryd.prog) w1 w.heap.size 27 zeroOp zeroOp R1.out rfl (by simp [zeroOp, Value.oneCell'])
  go_wp2_with ((refine wpList_load_row rfl _ _ rfl (w.heap.size + 1) rfl 27 zeroOp (0, 0) _ O1.out Tryd.underlying27 rfl info_op ?_))
  (try simp only [Exit.inBlock, Exit.then])
  refine bodyPost_ret (results_row_tmp rfl _ _ w.heap.size 27 zeroOp (0, 0) _ rfl (row_block R1.out) Tryd.underlying27 rfl info_op) rfl ?_
  have hO3 := Only.setRow (Only.refl (fun k => w.heap.size ≤ k) w1) (g := w.heap.size) (.inl (Nat.le_refl _)) zeroOp
  exact ⟨rfl, H1.out.same (hO3.block f (by omega) (by omega)) (hO3.block b (by omega) (by omega)), Only.setRow HO1.out (.inr (Nat.le_refl _)) _⟩

set_option maxHeartbeats 4000000 in
theorem fnone_Scan (f b : Nat) (s0 : ByteArray) (rest : List ByteArray) (n : Nat) (hN : n = (s0 :: rest).length) (hle : n ≤ 1000000000) (hv : s0.data.toList = vScan) (hn : n ≠ 4) (w : World) (h : Fs f b (s0 :: rest) false w) :
    Calls Tryd.prog 42 #[.pointer (some ⟨f, 0, none⟩)] w fun e w' => e = .returned (.tuple #[.agg zeroOp, .bool false]) ∧ Fs f b (s0 :: rest) false w' ∧ Only (fun k => k = f) w w' := by
  have hf0 : f < w.heap.size := World.block_lt_of_cell? w _ h.c0
  have hb0 : b < w.heap.size := World.block_lt_of_cell? w _ (h.list 0 (by simp))
  have hpos : (0 : Int) < (n : Int) := by rw [hN]; simp
  have hle' : (n : Int) ≤ 1000000000 := by omega
  have eBegin : (s0.toList == [98, 101, 103, 105, 110]) = false := by rw [ByteArray.toList_eq, hv]; rfl
  have eRscan : (s0.toList == [114, 115, 99, 97, 110]) = false := by rw [ByteArray.toList_eq, hv]; rfl
  have eScan : (s0.toList == [115, 99, 97, 110]) = true := by rw [ByteArray.toList_eq, hv]; rfl
  have eGet : (s0.toList == [103, 101, 116]) = false := by rw [ByteArray.toList_eq, hv]; rfl
  have ePut : (s0.toList == [112, 117, 116]) = false := by rw [ByteArray.toList_eq, hv]; rfl
  have eDel : (s0.toList == [100, 101, 108]) = false := by rw [ByteArray.toList_eq, hv]; rfl
  have eCommit : (s0.toList == [99, 111, 109, 109, 105, 116]) = false := by rw [ByteArray.toList_eq, hv]; rfl
  have eAbort : (s0.toList == [97, 98, 111, 114, 116]) = false := by rw [ByteArray.toList_eq, hv]; rfl
  have en : ((n : Int) == 4) = false := by simp; omega
  clear hv hn
  have HN := Lib.hid hN
  obtain ⟨w0, hw0⟩ : ∃ w0, w0 = (w.alloc (.cells zeroOp 27)).alloc (.cells zeroOp 27) := ⟨_, rfl⟩
  have hB0 : Below w.heap.size w w0 := by rw [hw0]; exact ((Below.refl _ _).alloc (Nat.le_refl _) _).alloc (by simp) _
  have r0 : w0.heap[w.heap.size]? = some (.cells zeroOp 27 (0, 0)) := by rw [hw0]; exact low_block _ _ _ _ _
  have o0 : w0.heap[w.heap.size + 1]? = some (.cells zeroOp 27 (0, 0)) := by rw [hw0]; exact top_block _ _ _ _ _
  have zs : w0.heap.size = w.heap.size + 2 := by rw [hw0]; simp
  have h0 := h.kept hB0
  have d0 : ∀ p, (aged w0 p).cell? ⟨f, 0, none⟩ = some (.slice (some ⟨b, 0, none⟩) n n) := by rw [hN]; exact cell_aged h0.c0
  have d1 : ∀ p, (aged w0 p).cell? ⟨b, 0, none⟩ = some (.string s0) := cell_aged (h0.list 0 (by simp))
  have H0 := Lib.hid h0
  have HB0 := Lib.hid hB0
  unfold zeroOp at hw0
  have HW := Lib.hid hw0
  clear h0 h hw0 hB0 hN
  go_enter Tryd.func42, Tryd.ntmps42
  go_wp2_with fail
  rw [← HW.out]
  clear HW
  refine wp_region_aged (by kernel_rfl) (by kernel_rfl) ?_
  repeat (go_big_quiet_step (fail))
  refine wpQuiet_nil ?_
  rintro _ ⟨p, rfl⟩
  have r1 := ((aged_below w0 p).block _ (by omega)).trans r0
  have o1 := ((aged_below w0 p).block _ (by omega)).trans o0
  have H1 := Lib.hid (H0.out.kept (aged_below w0 p))
  have hB1 := HB0.out.trans ((aged_below w0 p).mono (show w.heap.size ≤ w0.heap.size by omega))
  have hO1 : Only (fun k => k = f) w (aged w0 p) := Only.of_below hB1
  have z1 : w.heap.size + 2 ≤ (aged w0 p).heap.size := by have := (aged_below w0 p).size; omega
  obtain ⟨w1, hw1⟩ : ∃ w1, w1 = aged w0 p := ⟨_, rfl⟩
  rw [← hw1] at r1 o1 H1 hO1 z1 hB1 ⊢
  have HO1 := Lib.hid hO1
  have R1 := Lib.hid r1
  have O1 := Lib.hid o1
  clear hw1 d0 d1 r0 o0 zs H0 HB0 r1 o1 hO1 hB1
  have hst := storeCells_row (P := Tryd.prog) w1 w.heap.size 27 zeroOp zeroOp R1.out rfl (by simp [zeroOp, Value.oneCell'])
  go_wp2_with ((refine wpList_load_row rfl _ _ rfl (w.heap.size + 1) rfl 27 zeroOp (0, 0) _ O1.out Tryd.underlying27 rfl info_op ?_))
  (try simp only [Exit.inBlock, Exit.then])
  refine bodyPost_ret (results_row_tmp rfl _ _ w.heap.size 27 zeroOp (0, 0) _ rfl (row_block R1.out) Tryd.underlying27 rfl info_op) rfl ?_
  have hO3 := Only.setRow (Only.refl (fun k => w.heap.size ≤ k) w1) (g := w.heap.size) (.inl (Nat.le_refl _)) zeroOp
  exact ⟨rfl, H1.out.same (hO3.block f (by omega) (by omega)) (hO3.block b (by omega) (by omega)), Only.setRow HO1.out (.inr (Nat.le_refl _)) _⟩

set_option maxHeartbeats 4000000 in
theorem fnone_Get (f b : Nat) (s0 : ByteArray) (rest : List ByteArray) (n : Nat) (hN : n = (s0 :: rest).length) (hle : n ≤ 1000000000) (hv : s0.data.toList = vGet) (hn : n ≠ 2) (w : World) (h : Fs f b (s0 :: rest) false w) :
    Calls Tryd.prog 42 #[.pointer (some ⟨f, 0, none⟩)] w fun e w' => e = .returned (.tuple #[.agg zeroOp, .bool false]) ∧ Fs f b (s0 :: rest) false w' ∧ Only (fun k => k = f) w w' := by
  have hf0 : f < w.heap.size := World.block_lt_of_cell? w _ h.c0
  have hb0 : b < w.heap.size := World.block_lt_of_cell? w _ (h.list 0 (by simp))
  have hpos : (0 : Int) < (n : Int) := by rw [hN]; simp
  have hle' : (n : Int) ≤ 1000000000 := by omega
  have eBegin : (s0.toList == [98, 101, 103, 105, 110]) = false := by rw [ByteArray.toList_eq, hv]; rfl
  have eRscan : (s0.toList == [114, 115, 99, 97, 110]) = false := by rw [ByteArray.toList_eq, hv]; rfl
  have eScan : (s0.toList == [115, 99, 97, 110]) = false := by rw [ByteArray.toList_eq, hv]; rfl
  have eGet : (s0.toList == [103, 101, 116]) = true := by rw [ByteArray.toList_eq, hv]; rfl
  have ePut : (s0.toList == [112, 117, 116]) = false := by rw [ByteArray.toList_eq, hv]; rfl
  have eDel : (s0.toList == [100, 101, 108]) = false := by rw [ByteArray.toList_eq, hv]; rfl
  have eCommit : (s0.toList == [99, 111, 109, 109, 105, 116]) = false := by rw [ByteArray.toList_eq, hv]; rfl
  have eAbort : (s0.toList == [97, 98, 111, 114, 116]) = false := by rw [ByteArray.toList_eq, hv]; rfl
  have en : ((n : Int) == 2) = false := by simp; omega
  clear hv hn
  have HN := Lib.hid hN
  obtain ⟨w0, hw0⟩ : ∃ w0, w0 = (w.alloc (.cells zeroOp 27)).alloc (.cells zeroOp 27) := ⟨_, rfl⟩
  have hB0 : Below w.heap.size w w0 := by rw [hw0]; exact ((Below.refl _ _).alloc (Nat.le_refl _) _).alloc (by simp) _
  have r0 : w0.heap[w.heap.size]? = some (.cells zeroOp 27 (0, 0)) := by rw [hw0]; exact low_block _ _ _ _ _
  have o0 : w0.heap[w.heap.size + 1]? = some (.cells zeroOp 27 (0, 0)) := by rw [hw0]; exact top_block _ _ _ _ _
  have zs : w0.heap.size = w.heap.size + 2 := by rw [hw0]; simp
  have h0 := h.kept hB0
  have d0 : ∀ p, (aged w0 p).cell? ⟨f, 0, none⟩ = some (.slice (some ⟨b, 0, none⟩) n n) := by rw [hN]; exact cell_aged h0.c0
  have d1 : ∀ p, (aged w0 p).cell? ⟨b, 0, none⟩ = some (.string s0) := cell_aged (h0.list 0 (by simp))
  have H0 := Lib.hid h0
  have HB0 := Lib.hid hB0
  unfold zeroOp at hw0
  have HW := Lib.hid hw0
  clear h0 h hw0 hB0 hN
  go_enter Tryd.func42, Tryd.ntmps42
  go_wp2_with fail
  rw [← HW.out]
  clear HW
  refine wp_region_aged (by kernel_rfl) (by kernel_rfl) ?_
  repeat (go_big_quiet_step (fail))
  refine wpQuiet_nil ?_
  rintro _ ⟨p, rfl⟩
  have r1 := ((aged_below w0 p).block _ (by omega)).trans r0
  have o1 := ((aged_below w0 p).block _ (by omega)).trans o0
  have H1 := Lib.hid (H0.out.kept (aged_below w0 p))
  have hB1 := HB0.out.trans ((aged_below w0 p).mono (show w.heap.size ≤ w0.heap.size by omega))
  have hO1 : Only (fun k => k = f) w (aged w0 p) := Only.of_below hB1
  have z1 : w.heap.size + 2 ≤ (aged w0 p).heap.size := by have := (aged_below w0 p).size; omega
  obtain ⟨w1, hw1⟩ : ∃ w1, w1 = aged w0 p := ⟨_, rfl⟩
  rw [← hw1] at r1 o1 H1 hO1 z1 hB1 ⊢
  have HO1 := Lib.hid hO1
  have R1 := Lib.hid r1
  have O1 := Lib.hid o1
  clear hw1 d0 d1 r0 o0 zs H0 HB0 r1 o1 hO1 hB1
  have hst := storeCells_row (P := Tryd.prog) w1 w.heap.size 27 zeroOp zeroOp R1.out rfl (by simp [zeroOp, Value.oneCell'])
  go_wp2_with ((refine wpList_load_row rfl _ _ rfl (w.heap.size + 1) rfl 27 zeroOp (0, 0) _ O1.out Tryd.underlying27 rfl info_op ?_))
  (try simp only [Exit.inBlock, Exit.then])
  refine bodyPost_ret (results_row_tmp rfl _ _ w.heap.size 27 zeroOp (0, 0) _ rfl (row_block R1.out) Tryd.underlying27 rfl info_op) rfl ?_
  have hO3 := Only.setRow (Only.refl (fun k => w.heap.size ≤ k) w1) (g := w.heap.size) (.inl (Nat.le_refl _)) zeroOp
  exact ⟨rfl, H1.out.same (hO3.block f (by omega) (by omega)) (hO3.block b (by omega) (by omega)), Only.setRow HO1.out (.inr (Nat.le_refl _)) _⟩

set_option maxHeartbeats 4000000 in
theorem fnone_Put (f b : Nat) (s0 : ByteArray) (rest : List ByteArray) (n : Nat) (hN : n = (s0 :: rest).length) (hle : n ≤ 1000000000) (hv : s0.data.toList = vPut) (hn : n ≠ 3) (w : World) (h : Fs f b (s0 :: rest) false w) :
    Calls Tryd.prog 42 #[.pointer (some ⟨f, 0, none⟩)] w fun e w' => e = .returned (.tuple #[.agg zeroOp, .bool false]) ∧ Fs f b (s0 :: rest) false w' ∧ Only (fun k => k = f) w w' := by
  have hf0 : f < w.heap.size := World.block_lt_of_cell? w _ h.c0
  have hb0 : b < w.heap.size := World.block_lt_of_cell? w _ (h.list 0 (by simp))
  have hpos : (0 : Int) < (n : Int) := by rw [hN]; simp
  have hle' : (n : Int) ≤ 1000000000 := by omega
  have eBegin : (s0.toList == [98, 101, 103, 105, 110]) = false := by rw [ByteArray.toList_eq, hv]; rfl
  have eRscan : (s0.toList == [114, 115, 99, 97, 110]) = false := by rw [ByteArray.toList_eq, hv]; rfl
  have eScan : (s0.toList == [115, 99, 97, 110]) = false := by rw [ByteArray.toList_eq, hv]; rfl
  have eGet : (s0.toList == [103, 101, 116]) = false := by rw [ByteArray.toList_eq, hv]; rfl
  have ePut : (s0.toList == [112, 117, 116]) = true := by rw [ByteArray.toList_eq, hv]; rfl
  have eDel : (s0.toList == [100, 101, 108]) = false := by rw [ByteArray.toList_eq, hv]; rfl
  have eCommit : (s0.toList == [99, 111, 109, 109, 105, 116]) = false := by rw [ByteArray.toList_eq, hv]; rfl
  have eAbort : (s0.toList == [97, 98, 111, 114, 116]) = false := by rw [ByteArray.toList_eq, hv]; rfl
  have en : ((n : Int) == 3) = false := by simp; omega
  clear hv hn
  have HN := Lib.hid hN
  obtain ⟨w0, hw0⟩ : ∃ w0, w0 = (w.alloc (.cells zeroOp 27)).alloc (.cells zeroOp 27) := ⟨_, rfl⟩
  have hB0 : Below w.heap.size w w0 := by rw [hw0]; exact ((Below.refl _ _).alloc (Nat.le_refl _) _).alloc (by simp) _
  have r0 : w0.heap[w.heap.size]? = some (.cells zeroOp 27 (0, 0)) := by rw [hw0]; exact low_block _ _ _ _ _
  have o0 : w0.heap[w.heap.size + 1]? = some (.cells zeroOp 27 (0, 0)) := by rw [hw0]; exact top_block _ _ _ _ _
  have zs : w0.heap.size = w.heap.size + 2 := by rw [hw0]; simp
  have h0 := h.kept hB0
  have d0 : ∀ p, (aged w0 p).cell? ⟨f, 0, none⟩ = some (.slice (some ⟨b, 0, none⟩) n n) := by rw [hN]; exact cell_aged h0.c0
  have d1 : ∀ p, (aged w0 p).cell? ⟨b, 0, none⟩ = some (.string s0) := cell_aged (h0.list 0 (by simp))
  have H0 := Lib.hid h0
  have HB0 := Lib.hid hB0
  unfold zeroOp at hw0
  have HW := Lib.hid hw0
  clear h0 h hw0 hB0 hN
  go_enter Tryd.func42, Tryd.ntmps42
  go_wp2_with fail
  rw [← HW.out]
  clear HW
  refine wp_region_aged (by kernel_rfl) (by kernel_rfl) ?_
  repeat (go_big_quiet_step (fail))
  refine wpQuiet_nil ?_
  rintro _ ⟨p, rfl⟩
  have r1 := ((aged_below w0 p).block _ (by omega)).trans r0
  have o1 := ((aged_below w0 p).block _ (by omega)).trans o0
  have H1 := Lib.hid (H0.out.kept (aged_below w0 p))
  have hB1 := HB0.out.trans ((aged_below w0 p).mono (show w.heap.size ≤ w0.heap.size by omega))
  have hO1 : Only (fun k => k = f) w (aged w0 p) := Only.of_below hB1
  have z1 : w.heap.size + 2 ≤ (aged w0 p).heap.size := by have := (aged_below w0 p).size; omega
  obtain ⟨w1, hw1⟩ : ∃ w1, w1 = aged w0 p := ⟨_, rfl⟩
  rw [← hw1] at r1 o1 H1 hO1 z1 hB1 ⊢
  have HO1 := Lib.hid hO1
  have R1 := Lib.hid r1
  have O1 := Lib.hid o1
  clear hw1 d0 d1 r0 o0 zs H0 HB0 r1 o1 hO1 hB1
  have hst := storeCells_row (P := Tryd.prog) w1 w.heap.size 27 zeroOp zeroOp R1.out rfl (by simp [zeroOp, Value.oneCell'])
  go_wp2_with ((refine wpList_load_row rfl _ _ rfl (w.heap.size + 1) rfl 27 zeroOp (0, 0) _ O1.out Tryd.underlying27 rfl info_op ?_))
  (try simp only [Exit.inBlock, Exit.then])
  refine bodyPost_ret (results_row_tmp rfl _ _ w.heap.size 27 zeroOp (0, 0) _ rfl (row_block R1.out) Tryd.underlying27 rfl info_op) rfl ?_
  have hO3 := Only.setRow (Only.refl (fun k => w.heap.size ≤ k) w1) (g := w.heap.size) (.inl (Nat.le_refl _)) zeroOp
  exact ⟨rfl, H1.out.same (hO3.block f (by omega) (by omega)) (hO3.block b (by omega) (by omega)), Only.setRow HO1.out (.inr (Nat.le_refl _)) _⟩

set_option maxHeartbeats 4000000 in
theorem fnone_Del (f b : Nat) (s0 : ByteArray) (rest : List ByteArray) (n : Nat) (hN : n = (s0 :: rest).length) (hle : n ≤ 1000000000) (hv : s0.data.toList = vDel) (hn : n ≠ 2) (w : World) (h : Fs f b (s0 :: rest) false w) :
    Calls Tryd.prog 42 #[.pointer (some ⟨f, 0, none⟩)] w fun e w' => e = .returned (.tuple #[.agg zeroOp, .bool false]) ∧ Fs f b (s0 :: rest) false w' ∧ Only (fun k => k = f) w w' := by
  have hf0 : f < w.heap.size := World.block_lt_of_cell? w _ h.c0
  have hb0 : b < w.heap.size := World.block_lt_of_cell? w _ (h.list 0 (by simp))
  have hpos : (0 : Int) < (n : Int) := by rw [hN]; simp
  have hle' : (n : Int) ≤ 1000000000 := by omega
  have eBegin : (s0.toList == [98, 101, 103, 105, 110]) = false := by rw [ByteArray.toList_eq, hv]; rfl
  have eRscan : (s0.toList == [114, 115, 99, 97, 110]) = false := by rw [ByteArray.toList_eq, hv]; rfl
  have eScan : (s0.toList == [115, 99, 97, 110]) = false := by rw [ByteArray.toList_eq, hv]; rfl
  have eGet : (s0.toList == [103, 101, 116]) = false := by rw [ByteArray.toList_eq, hv]; rfl
  have ePut : (s0.toList == [112, 117, 116]) = false := by rw [ByteArray.toList_eq, hv]; rfl
  have eDel : (s0.toList == [100, 101, 108]) = true := by rw [ByteArray.toList_eq, hv]; rfl
  have eCommit : (s0.toList == [99, 111, 109, 109, 105, 116]) = false := by rw [ByteArray.toList_eq, hv]; rfl
  have eAbort : (s0.toList == [97, 98, 111, 114, 116]) = false := by rw [ByteArray.toList_eq, hv]; rfl
  have en : ((n : Int) == 2) = false := by simp; omega
  clear hv hn
  have HN := Lib.hid hN
  obtain ⟨w0, hw0⟩ : ∃ w0, w0 = (w.alloc (.cells zeroOp 27)).alloc (.cells zeroOp 27) := ⟨_, rfl⟩
  have hB0 : Below w.heap.size w w0 := by rw [hw0]; exact ((Below.refl _ _).alloc (Nat.le_refl _) _).alloc (by simp) _
  have r0 : w0.heap[w.heap.size]? = some (.cells zeroOp 27 (0, 0)) := by rw [hw0]; exact low_block _ _ _ _ _
  have o0 : w0.heap[w.heap.size + 1]? = some (.cells zeroOp 27 (0, 0)) := by rw [hw0]; exact top_block _ _ _ _ _
  have zs : w0.heap.size = w.heap.size + 2 := by rw [hw0]; simp
  have h0 := h.kept hB0
  have d0 : ∀ p, (aged w0 p).cell? ⟨f, 0, none⟩ = some (.slice (some ⟨b, 0, none⟩) n n) := by rw [hN]; exact cell_aged h0.c0
  have d1 : ∀ p, (aged w0 p).cell? ⟨b, 0, none⟩ = some (.string s0) := cell_aged (h0.list 0 (by simp))
  have H0 := Lib.hid h0
  have HB0 := Lib.hid hB0
  unfold zeroOp at hw0
  have HW := Lib.hid hw0
  clear h0 h hw0 hB0 hN
  go_enter Tryd.func42, Tryd.ntmps42
  go_wp2_with fail
  rw [← HW.out]
  clear HW
  refine wp_region_aged (by kernel_rfl) (by kernel_rfl) ?_
  repeat (go_big_quiet_step (fail))
  refine wpQuiet_nil ?_
  rintro _ ⟨p, rfl⟩
  have r1 := ((aged_below w0 p).block _ (by omega)).trans r0
  have o1 := ((aged_below w0 p).block _ (by omega)).trans o0
  have H1 := Lib.hid (H0.out.kept (aged_below w0 p))
  have hB1 := HB0.out.trans ((aged_below w0 p).mono (show w.heap.size ≤ w0.heap.size by omega))
  have hO1 : Only (fun k => k = f) w (aged w0 p) := Only.of_below hB1
  have z1 : w.heap.size + 2 ≤ (aged w0 p).heap.size := by have := (aged_below w0 p).size; omega
  obtain ⟨w1, hw1⟩ : ∃ w1, w1 = aged w0 p := ⟨_, rfl⟩
  rw [← hw1] at r1 o1 H1 hO1 z1 hB1 ⊢
  have HO1 := Lib.hid hO1
  have R1 := Lib.hid r1
  have O1 := Lib.hid o1
  clear hw1 d0 d1 r0 o0 zs H0 HB0 r1 o1 hO1 hB1
  have hst := storeCells_row (P := Tryd.prog) w1 w.heap.size 27 zeroOp zeroOp R1.out rfl (by simp [zeroOp, Value.oneCell'])
  go_wp2_with ((refine wpList_load_row rfl _ _ rfl (w.heap.size + 1) rfl 27 zeroOp (0, 0) _ O1.out Tryd.underlying27 rfl info_op ?_))
  (try simp only [Exit.inBlock, Exit.then])
  refine bodyPost_ret (results_row_tmp rfl _ _ w.heap.size 27 zeroOp (0, 0) _ rfl (row_block R1.out) Tryd.underlying27 rfl info_op) rfl ?_
  have hO3 := Only.setRow (Only.refl (fun k => w.heap.size ≤ k) w1) (g := w.heap.size) (.inl (Nat.le_refl _)) zeroOp
  exact ⟨rfl, H1.out.same (hO3.block f (by omega) (by omega)) (hO3.block b (by omega) (by omega)), Only.setRow HO1.out (.inr (Nat.le_refl _)) _⟩

set_option maxHeartbeats 4000000 in
theorem fnone_Commit (f b : Nat) (s0 : ByteArray) (rest : List ByteArray) (n : Nat) (hN : n = (s0 :: rest).length) (hle : n ≤ 1000000000) (hv : s0.data.toList = vCommit) (hn : n ≠ 1) (w : World) (h : Fs f b (s0 :: rest) false w) :
    Calls Tryd.prog 42 #[.pointer (some ⟨f, 0, none⟩)] w fun e w' => e = .returned (.tuple #[.agg zeroOp, .bool false]) ∧ Fs f b (s0 :: rest) false w' ∧ Only (fun k => k = f) w w' := by
  have hf0 : f < w.heap.size := World.block_lt_of_cell? w _ h.c0
  have hb0 : b < w.heap.size := World.block_lt_of_cell? w _ (h.list 0 (by simp))
  have hpos : (0 : Int) < (n : Int) := by rw [hN]; simp
  have hle' : (n : Int) ≤ 1000000000 := by omega
  have eBegin : (s0.toList == [98, 101, 103, 105, 110]) = false := by rw [ByteArray.toList_eq, hv]; rfl
  have eRscan : (s0.toList == [114, 115, 99, 97, 110]) = false := by rw [ByteArray.toList_eq, hv]; rfl
  have eScan : (s0.toList == [115, 99, 97, 110]) = false := by rw [ByteArray.toList_eq, hv]; rfl
  have eGet : (s0.toList == [103, 101, 116]) = false := by rw [ByteArray.toList_eq, hv]; rfl
  have ePut : (s0.toList == [112, 117, 116]) = false := by rw [ByteArray.toList_eq, hv]; rfl
  have eDel : (s0.toList == [100, 101, 108]) = false := by rw [ByteArray.toList_eq, hv]; rfl
  have eCommit : (s0.toList == [99, 111, 109, 109, 105, 116]) = true := by rw [ByteArray.toList_eq, hv]; rfl
  have eAbort : (s0.toList == [97, 98, 111, 114, 116]) = false := by rw [ByteArray.toList_eq, hv]; rfl
  have en : ((n : Int) == 1) = false := by simp; omega
  clear hv hn
  have HN := Lib.hid hN
  obtain ⟨w0, hw0⟩ : ∃ w0, w0 = (w.alloc (.cells zeroOp 27)).alloc (.cells zeroOp 27) := ⟨_, rfl⟩
  have hB0 : Below w.heap.size w w0 := by rw [hw0]; exact ((Below.refl _ _).alloc (Nat.le_refl _) _).alloc (by simp) _
  have r0 : w0.heap[w.heap.size]? = some (.cells zeroOp 27 (0, 0)) := by rw [hw0]; exact low_block _ _ _ _ _
  have o0 : w0.heap[w.heap.size + 1]? = some (.cells zeroOp 27 (0, 0)) := by rw [hw0]; exact top_block _ _ _ _ _
  have zs : w0.heap.size = w.heap.size + 2 := by rw [hw0]; simp
  have h0 := h.kept hB0
  have d0 : ∀ p, (aged w0 p).cell? ⟨f, 0, none⟩ = some (.slice (some ⟨b, 0, none⟩) n n) := by rw [hN]; exact cell_aged h0.c0
  have d1 : ∀ p, (aged w0 p).cell? ⟨b, 0, none⟩ = some (.string s0) := cell_aged (h0.list 0 (by simp))
  have H0 := Lib.hid h0
  have HB0 := Lib.hid hB0
  unfold zeroOp at hw0
  have HW := Lib.hid hw0
  clear h0 h hw0 hB0 hN
  go_enter Tryd.func42, Tryd.ntmps42
  go_wp2_with fail
  rw [← HW.out]
  clear HW
  refine wp_region_aged (by kernel_rfl) (by kernel_rfl) ?_
  repeat (go_big_quiet_step (fail))
  refine wpQuiet_nil ?_
  rintro _ ⟨p, rfl⟩
  have r1 := ((aged_below w0 p).block _ (by omega)).trans r0
  have o1 := ((aged_below w0 p).block _ (by omega)).trans o0
  have H1 := Lib.hid (H0.out.kept (aged_below w0 p))
  have hB1 := HB0.out.trans ((aged_below w0 p).mono (show w.heap.size ≤ w0.heap.size by omega))
  have hO1 : Only (fun k => k = f) w (aged w0 p) := Only.of_below hB1
  have z1 : w.heap.size + 2 ≤ (aged w0 p).heap.size := by have := (aged_below w0 p).size; omega
  obtain ⟨w1, hw1⟩ : ∃ w1, w1 = aged w0 p := ⟨_, rfl⟩
  rw [← hw1] at r1 o1 H1 hO1 z1 hB1 ⊢
  have HO1 := Lib.hid hO1
  have R1 := Lib.hid r1
  have O1 := Lib.hid o1
  clear hw1 d0 d1 r0 o0 zs H0 HB0 r1 o1 hO1 hB1
  have hst := storeCells_row (P := Tryd.prog) w1 w.heap.size 27 zeroOp zeroOp R1.out rfl (by simp [zeroOp, Value.oneCell'])
  go_wp2_with ((refine wpList_load_row rfl _ _ rfl (w.heap.size + 1) rfl 27 zeroOp (0, 0) _ O1.out Tryd.underlying27 rfl info_op ?_))
  (try simp only [Exit.inBlock, Exit.then])
  refine bodyPost_ret (results_row_tmp rfl _ _ w.heap.size 27 zeroOp (0, 0) _ rfl (row_block R1.out) Tryd.underlying27 rfl info_op) rfl ?_
  have hO3 := Only.setRow (Only.refl (fun k => w.heap.size ≤ k) w1) (g := w.heap.size) (.inl (Nat.le_refl _)) zeroOp
  exact ⟨rfl, H1.out.same (hO3.block f (by omega) (by omega)) (hO3.block b (by omega) (by omega)), Only.setRow HO1.out (.inr (Nat.le_refl _)) _⟩

set_option maxHeartbeats 4000000 in
theorem fnone_Abort (f b : Nat) (s0 : ByteArray) (rest : List ByteArray) (n : Nat) (hN : n = (s0 :: rest).length) (hle : n ≤ 1000000000) (hv : s0.data.toList = vAbort) (hn : n ≠ 1) (w : World) (h : Fs f b (s0 :: rest) false w) :
    Calls Tryd.prog 42 #[.pointer (some ⟨f, 0, none⟩)] w fun e w' => e = .returned (.tuple #[.agg zeroOp, .bool false]) ∧ Fs f b (s0 :: rest) false w' ∧ Only (fun k => k = f) w w' := by
  have hf0 : f < w.heap.size := World.block_lt_of_cell? w _ h.c0
  have hb0 : b < w.heap.size := World.block_lt_of_cell? w _ (h.list 0 (by simp))
  have hpos : (0 : Int) < (n : Int) := by rw [hN]; simp
  have hle' : (n : Int) ≤ 1000000000 := by omega
  have eBegin : (s0.toList == [98, 101, 103, 105, 110]) = false := by rw [ByteArray.toList_eq, hv]; rfl
  have eRscan : (s0.toList == [114, 115, 99, 97, 110]) = false := by rw [ByteArray.toList_eq, hv]; rfl
  have eScan : (s0.toList == [115, 99, 97, 110]) = false := by rw [ByteArray.toList_eq, hv]; rfl
  have eGet : (s0.toList == [103, 101, 116]) = false := by rw [ByteArray.toList_eq, hv]; rfl
  have ePut : (s0.toList == [112, 117, 116]) = false := by rw [ByteArray.toList_eq, hv]; rfl
  have eDel : (s0.toList == [100, 101, 108]) = false := by rw [ByteArray.toList_eq, hv]; rfl
  have eCommit : (s0.toList == [99, 111, 109, 109, 105, 116]) = false := by rw [ByteArray.toList_eq, hv]; rfl
  have eAbort : (s0.toList == [97, 98, 111, 114, 116]) = true := by rw [ByteArray.toList_eq, hv]; rfl
  have en : ((n : Int) == 1) = false := by simp; omega
  clear hv hn
  have HN := Lib.hid hN
  obtain ⟨w0, hw0⟩ : ∃ w0, w0 = (w.alloc (.cells zeroOp 27)).alloc (.cells zeroOp 27) := ⟨_, rfl⟩
  have hB0 : Below w.heap.size w w0 := by rw [hw0]; exact ((Below.refl _ _).alloc (Nat.le_refl _) _).alloc (by simp) _
  have r0 : w0.heap[w.heap.size]? = some (.cells zeroOp 27 (0, 0)) := by rw [hw0]; exact low_block _ _ _ _ _
  have o0 : w0.heap[w.heap.size + 1]? = some (.cells zeroOp 27 (0, 0)) := by rw [hw0]; exact top_block _ _ _ _ _
  have zs : w0.heap.size = w.heap.size + 2 := by rw [hw0]; simp
  have h0 := h.kept hB0
  have d0 : ∀ p, (aged w0 p).cell? ⟨f, 0, none⟩ = some (.slice (some ⟨b, 0, none⟩) n n) := by rw [hN]; exact cell_aged h0.c0
  have d1 : ∀ p, (aged w0 p).cell? ⟨b, 0, none⟩ = some (.string s0) := cell_aged (h0.list 0 (by simp))
  have H0 := Lib.hid h0
  have HB0 := Lib.hid hB0
  unfold zeroOp at hw0
  have HW := Lib.hid hw0
  clear h0 h hw0 hB0 hN
  go_enter Tryd.func42, Tryd.ntmps42
  go_wp2_with fail
  rw [← HW.out]
  clear HW
  refine wp_region_aged (by kernel_rfl) (by kernel_rfl) ?_
  repeat (go_big_quiet_step (fail))
  refine wpQuiet_nil ?_
  rintro _ ⟨p, rfl⟩
  have r1 := ((aged_below w0 p).block _ (by omega)).trans r0
  have o1 := ((aged_below w0 p).block _ (by omega)).trans o0
  have H1 := Lib.hid (H0.out.kept (aged_below w0 p))
  have hB1 := HB0.out.trans ((aged_below w0 p).mono (show w.heap.size ≤ w0.heap.size by omega))
  have hO1 : Only (fun k => k = f) w (aged w0 p) := Only.of_below hB1
  have z1 : w.heap.size + 2 ≤ (aged w0 p).heap.size := by have := (aged_below w0 p).size; omega
  obtain ⟨w1, hw1⟩ : ∃ w1, w1 = aged w0 p := ⟨_, rfl⟩
  rw [← hw1] at r1 o1 H1 hO1 z1 hB1 ⊢
  have HO1 := Lib.hid hO1
  have R1 := Lib.hid r1
  have O1 := Lib.hid o1
  clear hw1 d0 d1 r0 o0 zs H0 HB0 r1 o1 hO1 hB1
  have hst := storeCells_row (P := Tryd.prog) w1 w.heap.size 27 zeroOp zeroOp R1.out rfl (by simp [zeroOp, Value.oneCell'])
  go_wp2_with ((refine wpList_load_row rfl _ _ rfl (w.heap.size + 1) rfl 27 zeroOp (0, 0) _ O1.out Tryd.underlying27 rfl info_op ?_))
  (try simp only [Exit.inBlock, Exit.then])
  refine bodyPost_ret (results_row_tmp rfl _ _ w.heap.size 27 zeroOp (0, 0) _ rfl (row_block R1.out) Tryd.underlying27 rfl info_op) rfl ?_
  have hO3 := Only.setRow (Only.refl (fun k => w.heap.size ≤ k) w1) (g := w.heap.size) (.inl (Nat.le_refl _)) zeroOp
  exact ⟨rfl, H1.out.same (hO3.block f (by omega) (by omega)) (hO3.block b (by omega) (by omega)), Only.setRow HO1.out (.inr (Nat.le_refl _)) _⟩

set_option maxHeartbeats 4000000 in
theorem fnone_any (f b : Nat) (s0 : ByteArray) (rest : List ByteArray) (n : Nat) (hN : n = (s0 :: rest).length) (hle : n ≤ 1000000000) (hBegin : s0.data.toList ≠ vBegin) (hRscan : s0.data.toList ≠ vRscan) (hScan : s0.data.toList ≠ vScan) (hGet : s0.data.toList ≠ vGet) (hPut : s0.data.toList ≠ vPut) (hDel : s0.data.toList ≠ vDel) (hCommit : s0.data.toList ≠ vCommit) (hAbort : s0.data.toList ≠ vAbort) (w : World) (h : Fs f b (s0 :: rest) false w) :
    Calls Tryd.prog 42 #[.pointer (some ⟨f, 0, none⟩)] w fun e w' => e = .returned (.tuple #[.agg zeroOp, .bool false]) ∧ Fs f b (s0 :: rest) false w' ∧ Only (fun k => k = f) w w' := by
  have hf0 : f < w.heap.size := World.block_lt_of_cell? w _ h.c0
  have hb0 : b < w.heap.size := World.block_lt_of_cell? w _ (h.list 0 (by simp))
  have hpos : (0 : Int) < (n : Int) := by rw [hN]; simp
  have hle' : (n : Int) ≤ 1000000000 := by omega
  have eBegin : (s0.toList == [98, 101, 103, 105, 110]) = false := by rw [ByteArray.toList_eq]; simpa using hBegin
  have eRscan : (s0.toList == [114, 115, 99, 97, 110]) = false := by rw [ByteArray.toList_eq]; simpa using hRscan
  have eScan : (s0.toList == [115, 99, 97, 110]) = false := by rw [ByteArray.toList_eq]; simpa using hScan
  have eGet : (s0.toList == [103, 101, 116]) = false := by rw [ByteArray.toList_eq]; simpa using hGet
  have ePut : (s0.toList == [112, 117, 116]) = false := by rw [ByteArray.toList_eq]; simpa using hPut
  have eDel : (s0.toList == [100, 101, 108]) = false := by rw [ByteArray.toList_eq]; simpa using hDel
  have eCommit : (s0.toList == [99, 111, 109, 109, 105, 116]) = false := by rw [ByteArray.toList_eq]; simpa using hCommit
  have eAbort : (s0.toList == [97, 98, 111, 114, 116]) = false := by rw [ByteArray.toList_eq]; simpa using hAbort
  clear hBegin hRscan hScan hGet hPut hDel hCommit hAbort
  have HN := Lib.hid hN
  obtain ⟨w0, hw0⟩ : ∃ w0, w0 = (w.alloc (.cells zeroOp 27)).alloc (.cells zeroOp 27) := ⟨_, rfl⟩
  have hB0 : Below w.heap.size w w0 := by rw [hw0]; exact ((Below.refl _ _).alloc (Nat.le_refl _) _).alloc (by simp) _
  have r0 : w0.heap[w.heap.size]? = some (.cells zeroOp 27 (0, 0)) := by rw [hw0]; exact low_block _ _ _ _ _
  have o0 : w0.heap[w.heap.size + 1]? = some (.cells zeroOp 27 (0, 0)) := by rw [hw0]; exact top_block _ _ _ _ _
  have zs : w0.heap.size = w.heap.size + 2 := by rw [hw0]; simp
  have h0 := h.kept hB0
  have d0 : ∀ p, (aged w0 p).cell? ⟨f, 0, none⟩ = some (.slice (some ⟨b, 0, none⟩) n n) := by rw [hN]; exact cell_aged h0.c0
  have d1 : ∀ p, (aged w0 p).cell? ⟨b, 0, none⟩ = some (.string s0) := cell_aged (h0.list 0 (by simp))
  have H0 := Lib.hid h0
  have HB0 := Lib.hid hB0
  unfold zeroOp at hw0
  have HW := Lib.hid hw0
  clear h0 h hw0 hB0 hN
  go_enter Tryd.func42, Tryd.ntmps42
  go_wp2_with fail
  rw [← HW.out]
  clear HW
  refine wp_region_aged (by kernel_rfl) (by kernel_rfl) ?_
  repeat (go_big_quiet_step (fail))
  refine wpQuiet_nil ?_
  rintro _ ⟨p, rfl⟩
  have r1 := ((aged_below w0 p).block _ (by omega)).trans r0
  have o1 := ((aged_below w0 p).block _ (by omega)).trans o0
  have H1 := Lib.hid (H0.out.kept (aged_below w0 p))
  have hB1 := HB0.out.trans ((aged_below w0 p).mono (show w.heap.size ≤ w0.heap.size by omega))
  have hO1 : Only (fun k => k = f) w (aged w0 p) := Only.of_below hB1
  have z1 : w.heap.size + 2 ≤ (aged w0 p).heap.size := by have := (aged_below w0 p).size; omega
  obtain ⟨w1, hw1⟩ : ∃ w1, w1 = aged w0 p := ⟨_, rfl⟩
  rw [← hw1] at r1 o1 H1 hO1 z1 hB1 ⊢
  have HO1 := Lib.hid hO1
  have R1 := Lib.hid r1
  have O1 := Lib.hid o1
  clear hw1 d0 d1 r0 o0 zs H0 HB0 r1 o1 hO1 hB1
  have hst := storeCells_row (P := Tryd.prog) w1 w.heap.size 27 zeroOp zeroOp R1.out rfl (by simp [zeroOp, Value.oneCell'])
  go_wp2_with ((refine wpList_load_row rfl _ _ rfl (w.heap.size + 1) rfl 27 zeroOp (0, 0) _ O1.out Tryd.underlying27 rfl info_op ?_))
  (try simp only [Exit.inBlock, Exit.then])
  refine bodyPost_ret (results_row_tmp rfl _ _ w.heap.size 27 zeroOp (0, 0) _ rfl (row_block R1.out) Tryd.underlying27 rfl info_op) rfl ?_
  have hO3 := Only.setRow (Only.refl (fun k => w.heap.size ≤ k) w1) (g := w.heap.size) (.inl (Nat.le_refl _)) zeroOp
  exact ⟨rfl, H1.out.same (hO3.block f (by omega) (by omega)) (hO3.block b (by omega) (by omega)), Only.setRow HO1.out (.inr (Nat.le_refl _)) _⟩

end Go.Proofs.YtconkncoohcdfaaDoor
