/- An answer as an argument, opened: its eighteen cells, its pairs in the world. The table of names, out of the row's list. -/
import Derived.Test.YtconkncoohcdfaaDoorWalk3
import Derived.Test.YtconkncoohcdfaaDoorRows
import Derived.ProofKit
import Derived.OpenShut
import Derived.Deep.SlicePairs
import Derived.Lib.LaidTab
import Derived.Carry
namespace Go.Proofs.YtconkncoohcdfaaDoor
open Go.RowKit Go.ChangeShapes Go.WideShapes Go.Deep
set_option linter.unusedSimpArgs false
set_option linter.unusedVariables false
set_option maxRecDepth 100000

theorem arr18 (cs : Array Value) (h : cs.size = 18) : ∃ v0 v1 v2 v3 v4 v5 v6 v7 v8 v9 v10 v11 v12 v13 v14 v15 v16 v17, cs = #[v0, v1, v2, v3, v4, v5, v6, v7, v8, v9, v10, v11, v12, v13, v14, v15, v16, v17] := by
  obtain ⟨l⟩ := cs
  match l, h with
  | [v0, v1, v2, v3, v4, v5, v6, v7, v8, v9, v10, v11, v12, v13, v14, v15, v16, v17], _ => exact ⟨v0, v1, v2, v3, v4, v5, v6, v7, v8, v9, v10, v11, v12, v13, v14, v15, v16, v17, rfl⟩

section
variable {H : Type} {enc : TypeId × Value → H} {w : World} {base : Nat} {sp : Nat → Bool} {held : Bool}

theorem part_at {xs : List (DataW H × List MemPlace)} {n i : Nat} {t : TypeId} {cs : List Value} (hi : i < xs.length) (h : DataW.trod enc Tryd.prog w base sp held n t cs = xs[i]?) : DataW.trod enc Tryd.prog w base sp held n t cs = some xs[i] := by
  rw [h, List.getElem?_eq_getElem hi]

theorem field_at {fs : Array Field} {xs : List (DataW H × List MemPlace)} {m : Nat} {cs : List Value}
    (hf : ∀ (i : Nat) (f : Field), fs[i]? = some f → DataW.trod enc Tryd.prog w base sp held m f.type ((cs.drop f.offset).take (Tryd.prog.cellsOf f.type)) = xs[i]?)
    (i : Nat) {f : Field} {t o k : Nat} (hfi : fs[i]? = some f) (ht : f.type = t) (ho : f.offset = o) (hk : Tryd.prog.cellsOf t = k) : DataW.trod enc Tryd.prog w base sp held m t ((cs.drop o).take k) = xs[i]? := by
  subst ht ho hk
  exact hf i f hfi

theorem bulk_part {d : DataW H} {l : List (DataW H)} (h : d ∈ l) : Rows.uptoBulk d ≤ Rows.uptoBulkAll l := by
  induction l with
  | nil => cases h
  | cons x r ih =>
    simp only [Rows.uptoBulkAll]
    rcases List.mem_cons.1 h with e | e
    · subst e; omega
    · have := ih e; omega

theorem cells22 : Tryd.prog.cellsOf 22 = 1 := by kernel_rfl
theorem cells24 : Tryd.prog.cellsOf 24 = 2 := by kernel_rfl
theorem cells27 : Tryd.prog.cellsOf 27 = 9 := by kernel_rfl
theorem cells28 : Tryd.prog.cellsOf 28 = 1 := by kernel_rfl
theorem cells31 : Tryd.prog.cellsOf 31 = 3 := by kernel_rfl
theorem cells32 : Tryd.prog.cellsOf 32 = 1 := by kernel_rfl
theorem cells34 : Tryd.prog.cellsOf 34 = 18 := by kernel_rfl
theorem cells36 : Tryd.prog.cellsOf 36 = 2 := by kernel_rfl
theorem cells9 : Tryd.prog.cellsOf 9 = 1 := by kernel_rfl
theorem cells25 : Tryd.prog.cellsOf 25 = 1 := by kernel_rfl
theorem cells4 : Tryd.prog.cellsOf 4 = 1 := by kernel_rfl
theorem cells3 : Tryd.prog.cellsOf 3 = 1 := by kernel_rfl
theorem cells29 : Tryd.prog.cellsOf 29 = 1 := by kernel_rfl

/-- the pairs of a slice that is read, and their bulk -/
theorem open_pairs {n : Nat} {v : Value} {x : DataW H × List MemPlace} (h : DataW.trod enc Tryd.prog w base sp held n 32 [v] = some x) :
    ∃ A ps cap, v = .slice A ps.length cap ∧ PairsIn A ps w ∧ totOf ps ≤ Rows.uptoBulk x.1 := by
  rcases open_slice_pairs Tryd.underlying32 Tryd.underlying36 cells36 rfl rfl cells9 cells9 h with ⟨hcs, hx⟩ | ⟨a, len, cap, m, k, V0, V1, D0, D1, P0, P1, hcs, hb, hl, hm, hmm, hx, hc⟩
  · simp only [List.cons.injEq, and_true] at hcs
    exact ⟨none, [], 0, hcs, fun h0 => absurd h0 (by simp), by simp [totOf]⟩
  · simp only [List.cons.injEq, and_true] at hcs
    have hlm : len ≤ m := by rw [hmm]; split <;> omega
    have each : ∀ i, i < len → ∃ q : ByteArray × ByteArray, w.cell? (a.add (i * 2)) = some (.string q.1) ∧ w.cell? (a.add (i * 2 + 1)) = some (.string q.2) ∧ D0 i = .lit (.string q.1.data.toList) ∧ D1 i = .lit (.string q.2.data.toList) := by
      intro i hi
      obtain ⟨h0, h1, h2, h3⟩ := hc i (by omega)
      obtain ⟨s, e1, e2, _⟩ := DataW.trod_string Tryd.underlying9 h2
      obtain ⟨u, e3, e4, _⟩ := DataW.trod_string Tryd.underlying9 h3
      simp only [List.cons.injEq, and_true] at e1 e3
      simp only [Prod.mk.injEq] at e2 e4
      exact ⟨(s, u), by rw [h0, e1], by rw [h1, e3], e2.1, e4.1⟩
    obtain ⟨q, hq⟩ := choose_lt each
    refine ⟨some a, (List.range len).map q, cap, by rw [hcs]; simp, ?_, ?_⟩
    · intro h0
      have hl0 : 0 < len := by simpa using h0
      have hp : a.spot = none := by
        have := (hq 0 hl0).1
        cases hs : a.spot with
        | none => rfl
        | some _ =>
          rw [Nat.zero_mul] at this
          simp [World.cell?, Addr.add, hs] at this
          cases hh : w.heap[a.block]? with
          | none => simp [hh] at this
          | some o => cases o <;> simp [hh] at this
      obtain ⟨b, off, spot⟩ := a
      simp only at hp
      subst hp
      refine ⟨b, off, rfl, fun j hj => ?_⟩
      have hj' : j < len := by simpa using hj
      have h1 := (hq j hj').1
      have h2 := (hq j hj').2.1
      rw [add_plain] at h1 h2
      simp only [List.getElem_map, List.getElem_range]
      exact ⟨h1, by rw [Nat.add_assoc]; exact h2⟩
    · rw [hx]
      simp only [Rows.uptoBulk]
      have : ∀ k, k ≤ len → totOf ((List.range k).map q) ≤ Rows.uptoBulkAll ((List.range k).map fun i => (DataW.agg [D0 i, D1 i] : DataW H)) := by
        intro k
        induction k with
        | zero => intro _; simp [totOf]
        | succ k ih =>
          intro hk
          have ih := ih (by omega)
          have happ : ∀ l r : List (DataW H), Rows.uptoBulkAll (l ++ r) = Rows.uptoBulkAll l + Rows.uptoBulkAll r := by
            intro l r
            induction l with
            | nil => simp [Rows.uptoBulkAll]
            | cons x l ih => simp only [List.cons_append, Rows.uptoBulkAll, ih]; omega
          rw [List.range_succ, List.map_append, List.map_append, totOf_append, happ]
          obtain ⟨_, _, e1, e2⟩ := hq k (by omega)
          simp only [List.map_cons, List.map_nil, totOf, Rows.uptoBulkAll, Rows.uptoBulk, e1, e2]
          simp
          omega
      have := this len (Nat.le_refl _)
      omega

theorem list7 {α : Type} (l : List α) (h : l.length = 7) : ∃ a0 a1 a2 a3 a4 a5 a6, l = [a0, a1, a2, a3, a4, a5, a6] := by
  match l, h with
  | [a0, a1, a2, a3, a4, a5, a6], _ => exact ⟨a0, a1, a2, a3, a4, a5, a6, rfl⟩
theorem list9 {α : Type} (l : List α) (h : l.length = 9) : ∃ a0 a1 a2 a3 a4 a5 a6 a7 a8, l = [a0, a1, a2, a3, a4, a5, a6, a7, a8] := by
  match l, h with
  | [a0, a1, a2, a3, a4, a5, a6, a7, a8], _ => exact ⟨a0, a1, a2, a3, a4, a5, a6, a7, a8, rfl⟩
theorem list3 {α : Type} (l : List α) (h : l.length = 3) : ∃ a0 a1 a2, l = [a0, a1, a2] := by
  match l, h with
  | [a0, a1, a2], _ => exact ⟨a0, a1, a2, rfl⟩
theorem list2 {α : Type} (l : List α) (h : l.length = 2) : ∃ a0 a1, l = [a0, a1] := by
  match l, h with
  | [a0, a1], _ => exact ⟨a0, a1, rfl⟩

theorem cell_int {k : IntKind} {t : TypeId} {n : Nat} {v : Value} {x : DataW H × List MemPlace} (ht : Tryd.prog.underlying t = some (.int k)) (h : DataW.trod enc Tryd.prog w base sp held n t [v] = some x) : ∃ z, v = .int k z ∧ x.1 = .lit (.int k z) ∧ (Lit.int k z).wf = true := by
  obtain ⟨z, e1, e2, e3⟩ := DataW.trod_int ht h
  simp only [List.cons.injEq, and_true] at e1
  exact ⟨z, e1, by rw [e2], e3⟩
theorem cell_bool {t : TypeId} {n : Nat} {v : Value} {x : DataW H × List MemPlace} (ht : Tryd.prog.underlying t = some .bool) (h : DataW.trod enc Tryd.prog w base sp held n t [v] = some x) : ∃ z : Bool, v = .bool z ∧ x.1 = .lit (.bool z) := by
  obtain ⟨z, e1, e2⟩ := DataW.trod_bool ht h
  simp only [List.cons.injEq, and_true] at e1
  exact ⟨z, e1, by rw [e2]⟩
theorem cell_string {t : TypeId} {n : Nat} {v : Value} {x : DataW H × List MemPlace} (ht : Tryd.prog.underlying t = some .string) (h : DataW.trod enc Tryd.prog w base sp held n t [v] = some x) : ∃ s : ByteArray, v = .string s ∧ x.1 = .lit (.string s.data.toList) ∧ s.size ≤ maxLen := by
  obtain ⟨s, e1, e2, e3⟩ := DataW.trod_string ht h
  simp only [List.cons.injEq, and_true] at e1
  exact ⟨s, e1, by rw [e2], e3⟩

/-- an operation's nine cells -/
theorem open_op {n : Nat} {v0 v1 v2 v3 v4 v5 v6 v7 v8 : Value} {x : DataW H × List MemPlace} (h : DataW.trod enc Tryd.prog w base sp held n 27 [v0, v1, v2, v3, v4, v5, v6, v7, v8] = some x) :
    ∃ (k : Int) (ro ao bk : Bool) (tk ky hi vl : ByteArray) (lm : Int), v0 = .int .i64 k ∧ v1 = .bool ro ∧ v2 = .bool ao ∧ v3 = .bool bk ∧ v4 = .string tk ∧ v5 = .string ky ∧ v6 = .string hi ∧ v7 = .string vl ∧ v8 = .int .i64 lm ∧
      (Lit.int .i64 k).wf = true ∧ (Lit.int .i64 lm).wf = true ∧ tk.size + ky.size + hi.size + vl.size ≤ Rows.uptoBulk x.1 := by
  obtain ⟨xs, m, _, hx, _, hl, hf⟩ := DataW.trod_struct Tryd.underlying27 h
  obtain ⟨y0, y1, y2, y3, y4, y5, y6, y7, y8, rfl⟩ := list9 xs hl
  have g0 : DataW.trod enc Tryd.prog w base sp held m 25 [v0] = some y0 := field_at hf 0 rfl rfl rfl cells25
  have g1 : DataW.trod enc Tryd.prog w base sp held m 4 [v1] = some y1 := field_at hf 1 rfl rfl rfl cells4
  have g2 : DataW.trod enc Tryd.prog w base sp held m 4 [v2] = some y2 := field_at hf 2 rfl rfl rfl cells4
  have g3 : DataW.trod enc Tryd.prog w base sp held m 4 [v3] = some y3 := field_at hf 3 rfl rfl rfl cells4
  have g4 : DataW.trod enc Tryd.prog w base sp held m 9 [v4] = some y4 := field_at hf 4 rfl rfl rfl cells9
  have g5 : DataW.trod enc Tryd.prog w base sp held m 9 [v5] = some y5 := field_at hf 5 rfl rfl rfl cells9
  have g6 : DataW.trod enc Tryd.prog w base sp held m 9 [v6] = some y6 := field_at hf 6 rfl rfl rfl cells9
  have g7 : DataW.trod enc Tryd.prog w base sp held m 9 [v7] = some y7 := field_at hf 7 rfl rfl rfl cells9
  have g8 : DataW.trod enc Tryd.prog w base sp held m 3 [v8] = some y8 := field_at hf 8 rfl rfl rfl cells3
  obtain ⟨k, rfl, d0, wk⟩ := cell_int Tryd.underlying25 g0
  obtain ⟨ro, rfl, d1⟩ := cell_bool Tryd.underlying4 g1
  obtain ⟨ao, rfl, d2⟩ := cell_bool Tryd.underlying4 g2
  obtain ⟨bk, rfl, d3⟩ := cell_bool Tryd.underlying4 g3
  obtain ⟨tk, rfl, d4, _⟩ := cell_string Tryd.underlying9 g4
  obtain ⟨ky, rfl, d5, _⟩ := cell_string Tryd.underlying9 g5
  obtain ⟨hi, rfl, d6, _⟩ := cell_string Tryd.underlying9 g6
  obtain ⟨vl, rfl, d7, _⟩ := cell_string Tryd.underlying9 g7
  obtain ⟨lm, rfl, d8, wl⟩ := cell_int Tryd.underlying3 g8
  refine ⟨k, ro, ao, bk, tk, ky, hi, vl, lm, rfl, rfl, rfl, rfl, rfl, rfl, rfl, rfl, rfl, wk, wl, ?_⟩
  rw [hx]
  simp only [List.map_cons, List.map_nil, Rows.uptoBulk, Rows.uptoBulkAll, d0, d1, d2, d3, d4, d5, d6, d7, d8]
  simp
  omega

/-- an answer's eighteen cells -/
theorem open_answer {n : Nat} {cs : List Value} {x : DataW H × List MemPlace} (hn : cs.length = 18) (h : DataW.trod enc Tryd.prog w base sp held n 34 cs = some x) :
    ∃ (cl tc ts k : Int) (ro ao bk : Bool) (tk ky hi vl : ByteArray) (lm st a b c : Int) (A : Option Addr) (ps : List (ByteArray × ByteArray)) (cap : Nat) (tok : ByteArray),
      cs = (answerC cl tc ts k ro ao bk tk ky hi vl lm st a b c A ps.length cap tok).toList ∧ (Lit.int .u32 tc).wf = true ∧ (Lit.int .u32 ts).wf = true ∧ (Lit.int .i64 st).wf = true ∧ (Lit.int .u64 a).wf = true ∧ (Lit.int .u32 b).wf = true ∧ (Lit.int .u32 c).wf = true ∧
      PairsIn A ps w ∧ totOf ps ≤ Rows.uptoBulk x.1 ∧ tok.size ≤ Rows.uptoBulk x.1 := by
  obtain ⟨v0, v1, v2, v3, v4, v5, v6, v7, v8, v9, v10, v11, v12, v13, v14, v15, v16, v17, e⟩ := arr18 cs.toArray (by simpa using hn)
  obtain rfl : cs = [v0, v1, v2, v3, v4, v5, v6, v7, v8, v9, v10, v11, v12, v13, v14, v15, v16, v17] := by simpa using congrArg Array.toList e
  clear e
  obtain ⟨xs, m, _, hx, _, hl, hf⟩ := DataW.trod_struct Tryd.underlying34 h
  obtain ⟨y0, y1, y2, y3, y4, y5, y6, rfl⟩ := list7 xs hl
  have g0 : DataW.trod enc Tryd.prog w base sp held m 22 [v0] = some y0 := field_at hf 0 rfl rfl rfl cells22
  have g1 : DataW.trod enc Tryd.prog w base sp held m 24 [v1, v2] = some y1 := field_at hf 1 rfl rfl rfl cells24
  have g2 : DataW.trod enc Tryd.prog w base sp held m 27 [v3, v4, v5, v6, v7, v8, v9, v10, v11] = some y2 := field_at hf 2 rfl rfl rfl cells27
  have g3 : DataW.trod enc Tryd.prog w base sp held m 28 [v12] = some y3 := field_at hf 3 rfl rfl rfl cells28
  have g4 : DataW.trod enc Tryd.prog w base sp held m 31 [v13, v14, v15] = some y4 := field_at hf 4 rfl rfl rfl cells31
  have g5 : DataW.trod enc Tryd.prog w base sp held m 32 [v16] = some y5 := field_at hf 5 rfl rfl rfl cells32
  have g6 : DataW.trod enc Tryd.prog w base sp held m 9 [v17] = some y6 := field_at hf 6 rfl rfl rfl cells9
  obtain ⟨cl, rfl, _⟩ := cell_int Tryd.underlying22 g0
  obtain ⟨k, ro, ao, bk, tk, ky, hi, vl, lm, rfl, rfl, rfl, rfl, rfl, rfl, rfl, rfl, rfl, wk, wl, hop⟩ := open_op g2
  obtain ⟨st, rfl, _, wst⟩ := cell_int Tryd.underlying28 g3
  obtain ⟨A, ps, cap, rfl, hps, htot⟩ := open_pairs g5
  obtain ⟨tok, rfl, dt, _⟩ := cell_string Tryd.underlying9 g6
  obtain ⟨zs, m1, _, _, _, hl1, hf1⟩ := DataW.trod_struct Tryd.underlying24 g1
  obtain ⟨z0, z1, rfl⟩ := list2 zs hl1
  have f0 : DataW.trod enc Tryd.prog w base sp held m1 22 [v1] = some z0 := field_at hf1 0 rfl rfl rfl cells22
  have f1 : DataW.trod enc Tryd.prog w base sp held m1 22 [v2] = some z1 := field_at hf1 1 rfl rfl rfl cells22
  obtain ⟨tc, rfl, _, wtc⟩ := cell_int Tryd.underlying22 f0
  obtain ⟨ts, rfl, _, wts⟩ := cell_int Tryd.underlying22 f1
  obtain ⟨us, m2, _, _, _, hl2, hf2⟩ := DataW.trod_struct Tryd.underlying31 g4
  obtain ⟨u0, u1, u2, rfl⟩ := list3 us hl2
  have i0 : DataW.trod enc Tryd.prog w base sp held m2 29 [v13] = some u0 := field_at hf2 0 rfl rfl rfl cells29
  have i1 : DataW.trod enc Tryd.prog w base sp held m2 22 [v14] = some u1 := field_at hf2 1 rfl rfl rfl cells22
  have i2 : DataW.trod enc Tryd.prog w base sp held m2 22 [v15] = some u2 := field_at hf2 2 rfl rfl rfl cells22
  obtain ⟨a, rfl, _, wa⟩ := cell_int Tryd.underlying29 i0
  obtain ⟨b, rfl, _, wb⟩ := cell_int Tryd.underlying22 i1
  obtain ⟨c, rfl, _, wc⟩ := cell_int Tryd.underlying22 i2
  refine ⟨cl, tc, ts, k, ro, ao, bk, tk, ky, hi, vl, lm, st, a, b, c, A, ps, cap, tok, rfl, wtc, wts, wst, wa, wb, wc, hps, ?_, ?_⟩
  · rw [hx]
    have := bulk_part (d := y5.1) (l := [y0.1, y1.1, y2.1, y3.1, y4.1, y5.1, y6.1]) (by simp)
    simp only [List.map_cons, List.map_nil, Rows.uptoBulk]
    omega
  · rw [hx]
    have h1 := bulk_part (d := y6.1) (l := [y0.1, y1.1, y2.1, y3.1, y4.1, y5.1, y6.1]) (by simp)
    have h2 : tok.size + 1 ≤ Rows.uptoBulk y6.1 := by rw [dt]; simp [Rows.uptoBulk]
    simp only [List.map_cons, List.map_nil, Rows.uptoBulk]
    omega
end
end Go.Proofs.YtconkncoohcdfaaDoor
