/- What the gate's reader of a line's fields does with a begin: which mode, which token. -/
import Derived.Test.YtconkncoohcdfaaDoorFld2
import Derived.Laws.ResultCell
namespace Go.Proofs.YtconkncoohcdfaaDoor
open Go.RowKit
set_option linter.unusedSimpArgs false
set_option linter.unusedVariables false
set_option maxRecDepth 100000
attribute [local go_sem ↓] Go.wp_at_zero Go.wp_at_succ

theorem low_block (w : World) (A B : Array Value) (t u : TypeId) : ((w.alloc (.cells A t)).alloc (.cells B u)).heap[w.heap.size]? = some (.cells A t (0, 0)) := by
  rw [Below.heap_alloc _ _ _ (by simp)]
  exact heap_alloc_new w _
theorem put_block {w : World} {g : Nat} {t : TypeId} {cs cs' : Array Value} (h : w.heap[g]? = some (.cells cs t (0, 0))) (i : Nat) (u : Value) (e : cs.setIfInBounds i u = cs') : (w.setCell ⟨g, i, none⟩ u).heap[g]? = some (.cells cs' t (0, 0)) := by
  subst e
  simp [World.setCell, Array.getElem?_modify, h]
theorem far_block {w : World} {g : Nat} {o : Obj} (h : w.heap[g]? = some o) {p : Addr} (hp : g ≠ p.block) (u : Value) : (w.setCell p u).heap[g]? = some o := (Below.heap_setCell w p u g hp).trans h
theorem row_block {w : World} {g : Nat} {t : TypeId} {old cs : Array Value} (h : w.heap[g]? = some (.cells old t (0, 0))) : (w.setRow g cs).heap[g]? = some (.cells cs t (0, 0)) := by
  simp [World.setRow, Array.getElem?_modify, h]
theorem block_cell {w : World} {g : Nat} {t : TypeId} {cs : Array Value} (h : w.heap[g]? = some (.cells cs t (0, 0))) (i : Nat) : w.cell? ⟨g, i, none⟩ = cs[i]? := by simp [World.cell?, h]
theorem block_frozen {w : World} {g : Nat} {t : TypeId} {cs : Array Value} (h : w.heap[g]? = some (.cells cs t (0, 0))) (i : Nat) : w.frozen? ⟨g, i, none⟩ = false := by simp [World.frozen?, h]
theorem Only.setRow {F : Nat → Prop} {a w : World} (h : Only F a w) {g : Nat} (hp : F g ∨ a.heap.size ≤ g) (cs : Array Value) : Only F a (w.setRow g cs) :=
  ⟨h.os, h.tape, h.output, by simpa [World.setRow] using h.size, fun k hk hf => by
    have hne : g ≠ k := fun e => hp.elim (fun hp => hf (e ▸ hp)) (fun hp => by omega)
    rw [← h.block k hk hf]
    simp [World.setRow, Array.getElem?_modify, hne]⟩
theorem Fs.same {f b : Nat} {fs : List ByteArray} {bad : Bool} {w w' : World} (h : Fs f b fs bad w) (hf : w'.heap[f]? = w.heap[f]?) (hb : w'.heap[b]? = w.heap[b]?) : Fs f b fs bad w' :=
  ⟨(World.cell?_of_block (w := w) (a := ⟨f, 0, none⟩) hf).trans h.c0, (World.cell?_of_block (w := w) (a := ⟨f, 1, none⟩) hf).trans h.c1, fun j hj => (World.cell?_of_block (w := w) (a := ⟨b, j, none⟩) hb).trans (h.list j hj), h.ne, (World.frozen?_of_block (w := w) (a := ⟨f, 1, none⟩) hf).trans h.live⟩

theorem results_row_tmp {P : Program} {fn : Func} {p u : Tmp} {ty : TypeId} (h : fn.results = #[.cell p ty, .tmp u]) (tmps : Array Value) (w : World) (g : Nat) (t : TypeId) (cs : Array Value) (fr : Nat × Nat) (d : TypeDesc)
    (hp : tmps.getD p undef = .pointer (some ⟨g, 0, none⟩)) (hg : w.heap[g]? = some (.cells cs t fr))
    (hu : P.underlying ty = some d) (hd : (match d with | .struct _ | .array _ _ => true | _ => false) = true) (hi : (P.info? ty).map (·.size) = some cs.size) :
    (results fn tmps).run P w = .ok (.tuple #[.agg cs, tmps.getD u undef]) w := by
  have hp' : tmps[p]?.getD undef = .pointer (some ⟨g, 0, none⟩) := by simpa using hp
  rw [results_cell_tmp h]
  simp [hp', asAddr, run_loadVar_row w g t ty cs fr d hg hu hd hi]

theorem storeCells_row {P : Program} (w : World) (g : Nat) (t : TypeId) (old cells : Array Value) (hg : w.heap[g]? = some (.cells old t (0, 0))) (ho : old.size = cells.size) (h1 : cells.all (·.oneCell') = true) :
    (storeCells ⟨g, 0, none⟩ cells.toList).run P w = .ok () (w.setRow g cells) := by
  have := run_storeCells_from (P := P) g t cells.toList 0 old w hg (by simp; omega) (fun v hv => (Array.all_eq_true_iff_forall_mem.1 h1) v (by simpa using hv))
  simpa using this

def zeroOp : Array Value := #[.int .i64 0, .bool false, .bool false, .bool false, .string ⟨#[]⟩, .string ⟨#[]⟩, .string ⟨#[]⟩, .string ⟨#[]⟩, .int .i64 0]

/-- a begin's cells -/
def beginC (ro ao : Bool) (t : ByteArray) : Array Value := #[.int .i64 1, .bool ro, .bool ao, .bool false, .string t, .string ⟨#[]⟩, .string ⟨#[]⟩, .string ⟨#[]⟩, .int .i64 0]

set_option maxHeartbeats 4000000 in
theorem fbegin_rw (f b : Nat) (s0 m t : ByteArray) (bad : Bool) (hsz : t.size ≤ 1000000000) (hm : m.data.toList = vRw) (w : World) (h : Fs f b [s0, m, t] bad w) :
    Calls Tryd.prog 65 #[.pointer (some ⟨f, 0, none⟩)] w fun e w' => e = .returned (.tuple #[.agg (beginC false false ⟨((unwordP t.data.toList).getD []).toArray⟩), .bool true]) ∧ Fs f b [s0, m, t] (bad || (unwordP t.data.toList).isNone) w' ∧ Only (fun k => k = f) w w' := by
  have hf0 : f < w.heap.size := World.block_lt_of_cell? w _ h.c0
  have hb0 : b < w.heap.size := World.block_lt_of_cell? w _ (h.list 1 (show 1 < 3 by decide))
  have c0 : w.cell? ⟨f, 0, none⟩ = some (.slice (some ⟨b, 0, none⟩) 3 3) := h.c0
  have c1 : w.cell? ⟨b, 1, none⟩ = some (.string m) := h.list 1 (show 1 < 3 by decide)
  have m1 : (m.toList == [97, 116]) = false := by rw [ByteArray.toList_eq, hm]; rfl
  have m2 : (m.toList == [114, 111]) = false := by rw [ByteArray.toList_eq, hm]; rfl
  have m3 : (m.toList == [114, 119]) = true := by rw [ByteArray.toList_eq, hm]; rfl
  have hcall := fun W hW => fword_calls f b [s0, m, t] bad 2 (show 2 < 3 by decide) hsz (show 3 ≤ 1000000000 by omega) W hW
  rw [show [s0, m, t][2] = t from rfl] at hcall
  obtain ⟨T, hT⟩ : ∃ T : ByteArray, T = ⟨((unwordP t.data.toList).getD []).toArray⟩ := ⟨_, rfl⟩
  rw [← hT] at hcall ⊢
  have HC := Lib.hid hcall
  have HH := Lib.hid h
  clear hcall h hm hT
  go_enter Tryd.func65, Tryd.ntmps65
  go_wp2_with fail
  obtain ⟨w0, hw0⟩ : ∃ w0, w0 = (w.alloc (.cells zeroOp 27)).alloc (.cells (beginC false false ⟨#[]⟩) 27) := ⟨_, rfl⟩
  have hB0 : Below w.heap.size w w0 := by rw [hw0]; exact ((Below.refl _ _).alloc (Nat.le_refl _) _).alloc (by simp) _
  have r0 : w0.heap[w.heap.size]? = some (.cells zeroOp 27 (0, 0)) := by rw [hw0]; exact low_block _ _ _ _ _
  have o0 : w0.heap[w.heap.size + 1]? = some (.cells (beginC false false ⟨#[]⟩) 27 (0, 0)) := by rw [hw0]; exact top_block _ _ _ _ _
  have z0 : w0.heap.size = w.heap.size + 2 := by rw [hw0]; simp
  unfold zeroOp beginC at hw0
  rw [← hw0]
  clear hw0
  refine (HC.out w0 (HH.out.kept hB0)).mono ?_
  rintro e w1 ⟨rfl, hF1, hO1⟩
  have r1 := (hO1.block _ (by omega) (fun e : w.heap.size = f => by omega)).trans r0
  have o1 := (hO1.block _ (by omega) (fun e : w.heap.size + 1 = f => by omega)).trans o0
  have q4 := block_cell o1 4
  have q4' : w1.cell? ⟨w.heap.size + 1, 4, none⟩ = some (.string ⟨#[]⟩) := q4
  have f4 := block_frozen o1 4
  have o2 := put_block o1 4 (.string T) (show (beginC false false ⟨#[]⟩).setIfInBounds 4 (.string T) = beginC false false T from rfl)
  have r2 := far_block r1 (p := ⟨w.heap.size + 1, 4, none⟩) (by simp) (.string T)
  have hst := storeCells_row (P := Tryd.prog) _ w.heap.size 27 zeroOp (beginC false false T) r2 rfl (by simp [beginC, Value.oneCell'])
  have R2 := Lib.hid r2
  have O2 := Lib.hid o2
  have HF1 := Lib.hid hF1
  clear r0 o0 r1 o1 q4 o2 r2 hF1 c0 c1
  go_wp2_with (first | (refine wpList_load_row rfl _ _ rfl (w.heap.size + 1) rfl 27 (beginC false false T) (0, 0) _ O2.out Tryd.underlying27 rfl info_op ?_))
  (try simp only [Exit.inBlock, Exit.then])
  refine bodyPost_ret (results_row_tmp rfl _ _ w.heap.size 27 (beginC false false T) (0, 0) _ rfl (row_block R2.out) Tryd.underlying27 rfl info_op) rfl ?_
  have hO2 : Only (fun k => k = f) w ((w1.setCell ⟨w.heap.size + 1, 4, none⟩ (.string T)).setRow w.heap.size (beginC false false T)) :=
    Only.setRow (Only.setCell ((Only.of_below hB0).trans hO1 (fun i hi => .inl hi)) (.inr (by simp)) _) (.inr (Nat.le_refl _)) _
  have hO3 : Only (fun k => w.heap.size ≤ k) w1 ((w1.setCell ⟨w.heap.size + 1, 4, none⟩ (.string T)).setRow w.heap.size (beginC false false T)) :=
    Only.setRow (Only.setCell (Only.refl _ _) (.inl (by simp)) _) (.inl (Nat.le_refl _)) _
  have hs1 := hO1.size
  exact ⟨rfl, HF1.out.same (hO3.block f (by omega) (by omega)) (hO3.block b (by omega) (by omega)), hO2⟩

set_option maxHeartbeats 4000000 in
theorem fbegin_ro (f b : Nat) (s0 m t : ByteArray) (bad : Bool) (hsz : t.size ≤ 1000000000) (hm : m.data.toList = vRo) (w : World) (h : Fs f b [s0, m, t] bad w) :
    Calls Tryd.prog 65 #[.pointer (some ⟨f, 0, none⟩)] w fun e w' => e = .returned (.tuple #[.agg (beginC true false ⟨((unwordP t.data.toList).getD []).toArray⟩), .bool true]) ∧ Fs f b [s0, m, t] (bad || (unwordP t.data.toList).isNone) w' ∧ Only (fun k => k = f) w w' := by
  have hf0 : f < w.heap.size := World.block_lt_of_cell? w _ h.c0
  have hb0 : b < w.heap.size := World.block_lt_of_cell? w _ (h.list 1 (show 1 < 3 by decide))
  have c0 : w.cell? ⟨f, 0, none⟩ = some (.slice (some ⟨b, 0, none⟩) 3 3) := h.c0
  have c1 : w.cell? ⟨b, 1, none⟩ = some (.string m) := h.list 1 (show 1 < 3 by decide)
  have m1 : (m.toList == [97, 116]) = false := by rw [ByteArray.toList_eq, hm]; rfl
  have m2 : (m.toList == [114, 111]) = true := by rw [ByteArray.toList_eq, hm]; rfl
  have m3 : (m.toList == [114, 119]) = false := by rw [ByteArray.toList_eq, hm]; rfl
  have hcall := fun W hW => fword_calls f b [s0, m, t] bad 2 (show 2 < 3 by decide) hsz (show 3 ≤ 1000000000 by omega) W hW
  rw [show [s0, m, t][2] = t from rfl] at hcall
  obtain ⟨T, hT⟩ : ∃ T : ByteArray, T = ⟨((unwordP t.data.toList).getD []).toArray⟩ := ⟨_, rfl⟩
  rw [← hT] at hcall ⊢
  have HC := Lib.hid hcall
  have HH := Lib.hid h
  clear hcall h hm hT
  go_enter Tryd.func65, Tryd.ntmps65
  go_wp2_with fail
  obtain ⟨w0, hw0⟩ : ∃ w0, w0 = (w.alloc (.cells zeroOp 27)).alloc (.cells (beginC true false ⟨#[]⟩) 27) := ⟨_, rfl⟩
  have hB0 : Below w.heap.size w w0 := by rw [hw0]; exact ((Below.refl _ _).alloc (Nat.le_refl _) _).alloc (by simp) _
  have r0 : w0.heap[w.heap.size]? = some (.cells zeroOp 27 (0, 0)) := by rw [hw0]; exact low_block _ _ _ _ _
  have o0 : w0.heap[w.heap.size + 1]? = some (.cells (beginC true false ⟨#[]⟩) 27 (0, 0)) := by rw [hw0]; exact top_block _ _ _ _ _
  have z0 : w0.heap.size = w.heap.size + 2 := by rw [hw0]; simp
  unfold zeroOp beginC at hw0
  rw [← hw0]
  clear hw0
  refine (HC.out w0 (HH.out.kept hB0)).mono ?_
  rintro e w1 ⟨rfl, hF1, hO1⟩
  have r1 := (hO1.block _ (by omega) (fun e : w.heap.size = f => by omega)).trans r0
  have o1 := (hO1.block _ (by omega) (fun e : w.heap.size + 1 = f => by omega)).trans o0
  have q4 := block_cell o1 4
  have q4' : w1.cell? ⟨w.heap.size + 1, 4, none⟩ = some (.string ⟨#[]⟩) := q4
  have f4 := block_frozen o1 4
  have o2 := put_block o1 4 (.string T) (show (beginC true false ⟨#[]⟩).setIfInBounds 4 (.string T) = beginC true false T from rfl)
  have r2 := far_block r1 (p := ⟨w.heap.size + 1, 4, none⟩) (by simp) (.string T)
  have hst := storeCells_row (P := Tryd.prog) _ w.heap.size 27 zeroOp (beginC true false T) r2 rfl (by simp [beginC, Value.oneCell'])
  have R2 := Lib.hid r2
  have O2 := Lib.hid o2
  have HF1 := Lib.hid hF1
  clear r0 o0 r1 o1 q4 o2 r2 hF1 c0 c1
  go_wp2_with (first | (refine wpList_load_row rfl _ _ rfl (w.heap.size + 1) rfl 27 (beginC true false T) (0, 0) _ O2.out Tryd.underlying27 rfl info_op ?_))
  (try simp only [Exit.inBlock, Exit.then])
  refine bodyPost_ret (results_row_tmp rfl _ _ w.heap.size 27 (beginC true false T) (0, 0) _ rfl (row_block R2.out) Tryd.underlying27 rfl info_op) rfl ?_
  have hO2 : Only (fun k => k = f) w ((w1.setCell ⟨w.heap.size + 1, 4, none⟩ (.string T)).setRow w.heap.size (beginC true false T)) :=
    Only.setRow (Only.setCell ((Only.of_below hB0).trans hO1 (fun i hi => .inl hi)) (.inr (by simp)) _) (.inr (Nat.le_refl _)) _
  have hO3 : Only (fun k => w.heap.size ≤ k) w1 ((w1.setCell ⟨w.heap.size + 1, 4, none⟩ (.string T)).setRow w.heap.size (beginC true false T)) :=
    Only.setRow (Only.setCell (Only.refl _ _) (.inl (by simp)) _) (.inl (Nat.le_refl _)) _
  have hs1 := hO1.size
  exact ⟨rfl, HF1.out.same (hO3.block f (by omega) (by omega)) (hO3.block b (by omega) (by omega)), hO2⟩

set_option maxHeartbeats 4000000 in
theorem fbegin_at (f b : Nat) (s0 m t : ByteArray) (bad : Bool) (hsz : t.size ≤ 1000000000) (hm : m.data.toList = vAt) (w : World) (h : Fs f b [s0, m, t] bad w) :
    Calls Tryd.prog 65 #[.pointer (some ⟨f, 0, none⟩)] w fun e w' => e = .returned (.tuple #[.agg (beginC true true ⟨((unwordP t.data.toList).getD []).toArray⟩), .bool true]) ∧ Fs f b [s0, m, t] (bad || (unwordP t.data.toList).isNone) w' ∧ Only (fun k => k = f) w w' := by
  have hf0 : f < w.heap.size := World.block_lt_of_cell? w _ h.c0
  have hb0 : b < w.heap.size := World.block_lt_of_cell? w _ (h.list 1 (show 1 < 3 by decide))
  have c0 : w.cell? ⟨f, 0, none⟩ = some (.slice (some ⟨b, 0, none⟩) 3 3) := h.c0
  have c1 : w.cell? ⟨b, 1, none⟩ = some (.string m) := h.list 1 (show 1 < 3 by decide)
  have m1 : (m.toList == [97, 116]) = true := by rw [ByteArray.toList_eq, hm]; rfl
  have m2 : (m.toList == [114, 111]) = false := by rw [ByteArray.toList_eq, hm]; rfl
  have m3 : (m.toList == [114, 119]) = false := by rw [ByteArray.toList_eq, hm]; rfl
  have hcall := fun W hW => fword_calls f b [s0, m, t] bad 2 (show 2 < 3 by decide) hsz (show 3 ≤ 1000000000 by omega) W hW
  rw [show [s0, m, t][2] = t from rfl] at hcall
  obtain ⟨T, hT⟩ : ∃ T : ByteArray, T = ⟨((unwordP t.data.toList).getD []).toArray⟩ := ⟨_, rfl⟩
  rw [← hT] at hcall ⊢
  have HC := Lib.hid hcall
  have HH := Lib.hid h
  clear hcall h hm hT
  go_enter Tryd.func65, Tryd.ntmps65
  go_wp2_with fail
  obtain ⟨w0, hw0⟩ : ∃ w0, w0 = (w.alloc (.cells zeroOp 27)).alloc (.cells (beginC true true ⟨#[]⟩) 27) := ⟨_, rfl⟩
  have hB0 : Below w.heap.size w w0 := by rw [hw0]; exact ((Below.refl _ _).alloc (Nat.le_refl _) _).alloc (by simp) _
  have r0 : w0.heap[w.heap.size]? = some (.cells zeroOp 27 (0, 0)) := by rw [hw0]; exact low_block _ _ _ _ _
  have o0 : w0.heap[w.heap.size + 1]? = some (.cells (beginC true true ⟨#[]⟩) 27 (0, 0)) := by rw [hw0]; exact top_block _ _ _ _ _
  have z0 : w0.heap.size = w.heap.size + 2 := by rw [hw0]; simp
  unfold zeroOp beginC at hw0
  rw [← hw0]
  clear hw0
  refine (HC.out w0 (HH.out.kept hB0)).mono ?_
  rintro e w1 ⟨rfl, hF1, hO1⟩
  have r1 := (hO1.block _ (by omega) (fun e : w.heap.size = f => by omega)).trans r0
  have o1 := (hO1.block _ (by omega) (fun e : w.heap.size + 1 = f => by omega)).trans o0
  have q4 := block_cell o1 4
  have q4' : w1.cell? ⟨w.heap.size + 1, 4, none⟩ = some (.string ⟨#[]⟩) := q4
  have f4 := block_frozen o1 4
  have o2 := put_block o1 4 (.string T) (show (beginC true true ⟨#[]⟩).setIfInBounds 4 (.string T) = beginC true true T from rfl)
  have r2 := far_block r1 (p := ⟨w.heap.size + 1, 4, none⟩) (by simp) (.string T)
  have hst := storeCells_row (P := Tryd.prog) _ w.heap.size 27 zeroOp (beginC true true T) r2 rfl (by simp [beginC, Value.oneCell'])
  have R2 := Lib.hid r2
  have O2 := Lib.hid o2
  have HF1 := Lib.hid hF1
  clear r0 o0 r1 o1 q4 o2 r2 hF1 c0 c1
  go_wp2_with (first | (refine wpList_load_row rfl _ _ rfl (w.heap.size + 1) rfl 27 (beginC true true T) (0, 0) _ O2.out Tryd.underlying27 rfl info_op ?_))
  (try simp only [Exit.inBlock, Exit.then])
  refine bodyPost_ret (results_row_tmp rfl _ _ w.heap.size 27 (beginC true true T) (0, 0) _ rfl (row_block R2.out) Tryd.underlying27 rfl info_op) rfl ?_
  have hO2 : Only (fun k => k = f) w ((w1.setCell ⟨w.heap.size + 1, 4, none⟩ (.string T)).setRow w.heap.size (beginC true true T)) :=
    Only.setRow (Only.setCell ((Only.of_below hB0).trans hO1 (fun i hi => .inl hi)) (.inr (by simp)) _) (.inr (Nat.le_refl _)) _
  have hO3 : Only (fun k => w.heap.size ≤ k) w1 ((w1.setCell ⟨w.heap.size + 1, 4, none⟩ (.string T)).setRow w.heap.size (beginC true true T)) :=
    Only.setRow (Only.setCell (Only.refl _ _) (.inl (by simp)) _) (.inl (Nat.le_refl _)) _
  have hs1 := hO1.size
  exact ⟨rfl, HF1.out.same (hO3.block f (by omega) (by omega)) (hO3.block b (by omega) (by omega)), hO2⟩

set_option maxHeartbeats 4000000 in
theorem fbegin_none (f b : Nat) (s0 m t : ByteArray) (bad : Bool) (h1 : m.data.toList ≠ vAt) (h2 : m.data.toList ≠ vRo) (h3 : m.data.toList ≠ vRw) (w : World) (h : Fs f b [s0, m, t] bad w) :
    Calls Tryd.prog 65 #[.pointer (some ⟨f, 0, none⟩)] w fun e w' => e = .returned (.tuple #[.agg (beginC false false ⟨#[]⟩), .bool false]) ∧ Fs f b [s0, m, t] bad w' ∧ Only (fun k => k = f) w w' := by
  have hf0 : f < w.heap.size := World.block_lt_of_cell? w _ h.c0
  have hb0 : b < w.heap.size := World.block_lt_of_cell? w _ (h.list 1 (show 1 < 3 by decide))
  have c0 : w.cell? ⟨f, 0, none⟩ = some (.slice (some ⟨b, 0, none⟩) 3 3) := h.c0
  have c1 : w.cell? ⟨b, 1, none⟩ = some (.string m) := h.list 1 (show 1 < 3 by decide)
  have m1 : (m.toList == [97, 116]) = false := by rw [ByteArray.toList_eq]; simpa using h1
  have m2 : (m.toList == [114, 111]) = false := by rw [ByteArray.toList_eq]; simpa using h2
  have m3 : (m.toList == [114, 119]) = false := by rw [ByteArray.toList_eq]; simpa using h3
  have HH := Lib.hid h
  clear h h1 h2 h3
  go_enter Tryd.func65, Tryd.ntmps65
  go_wp2
  (try simp only [Exit.inBlock, Exit.then])
  refine bodyPost_ret (results_row_tmp rfl _ _ w.heap.size 27 (beginC false false ⟨#[]⟩) (0, 0) _ rfl (low_block _ _ _ _ _) Tryd.underlying27 rfl info_op) rfl ?_
  have hB0 : Below w.heap.size w ((w.alloc (.cells (beginC false false ⟨#[]⟩) 27)).alloc (.cells (beginC false false ⟨#[]⟩) 27)) := ((Below.refl _ _).alloc (Nat.le_refl _) _).alloc (by simp) _
  exact ⟨rfl, HH.out.kept hB0, Only.of_below hB0⟩

/-- (*fields).begin, of a line of three fields that opens with "begin", no field marked so far -/
theorem fbegin_calls (f b : Nat) (s0 m t : ByteArray) (hsz : t.size ≤ 1000000000) (h0 : s0.data.toList = vBegin) : ∃ ro ao T ok bad', readP [s0.data.toList, m.data.toList, t.data.toList] = (if ok = true ∧ bad' = false then some (opB 1 ro ao false T ⟨#[]⟩ ⟨#[]⟩ ⟨#[]⟩ 0) else none) ∧
    ∀ w, Fs f b [s0, m, t] false w → Calls Tryd.prog 65 #[.pointer (some ⟨f, 0, none⟩)] w fun e w' => e = .returned (.tuple #[.agg (beginC ro ao T), .bool ok]) ∧ Fs f b [s0, m, t] bad' w' ∧ Only (fun k => k = f) w w' := by
  by_cases h1 : m.data.toList = vAt
  · refine ⟨true, true, ⟨((unwordP t.data.toList).getD []).toArray⟩, true, (false || (unwordP t.data.toList).isNone), ?_, fun w h => fbegin_at f b s0 m t false hsz h1 w h⟩
    rw [h0, h1]
    cases hu : unwordP t.data.toList <;> simp [readP, fld, hu, opB]
  by_cases h2 : m.data.toList = vRo
  · refine ⟨true, false, ⟨((unwordP t.data.toList).getD []).toArray⟩, true, (false || (unwordP t.data.toList).isNone), ?_, fun w h => fbegin_ro f b s0 m t false hsz h2 w h⟩
    rw [h0, h2]
    cases hu : unwordP t.data.toList <;> simp [readP, fld, hu, opB]
  by_cases h3 : m.data.toList = vRw
  · refine ⟨false, false, ⟨((unwordP t.data.toList).getD []).toArray⟩, true, (false || (unwordP t.data.toList).isNone), ?_, fun w h => fbegin_rw f b s0 m t false hsz h3 w h⟩
    rw [h0, h3]
    cases hu : unwordP t.data.toList <;> simp [readP, fld, hu, opB]
  refine ⟨false, false, ⟨#[]⟩, false, false, ?_, fun w h => fbegin_none f b s0 m t false h1 h2 h3 w h⟩
  rw [h0]
  simp [readP, fld, h1, h2, h3]
end Go.Proofs.YtconkncoohcdfaaDoor
