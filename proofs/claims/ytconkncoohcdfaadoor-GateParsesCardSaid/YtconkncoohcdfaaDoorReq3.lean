/- What the document's bare is; how two operations compare; what the document's Request answers; new blocks alone. -/
import Derived.Test.YtconkncoohcdfaaDoorReq2
import Derived.Laws.StructEq
namespace Go.Proofs.YtconkncoohcdfaaDoor
open Go.RowKit
set_option linter.unusedSimpArgs false
set_option linter.unusedVariables false
set_option maxRecDepth 100000
attribute [local go_sem ↓] Go.wp_at_zero Go.wp_at_succ

section
variable {P : Program} {d : Nat} {xs ys : Array Value} {f : Field} {fs : List Field} {a b : Value} {r s : Bool} {w : World}
theorem fields_one (hn : (f.name == "_") = false) (ha : (part f.type xs f.offset).run P w = .ok a w) (hb : (part f.type ys f.offset).run P w = .ok b w) (he : (Op.equalIn d f.type a b).run P w = .ok r w) : (Op.eqFields d xs ys [f]).run P w = .ok r w := by
  have hn' : f.name ≠ "_" := by simpa using hn
  simp only [Op.eqFields, if_pos hn', Sem.run_bind, ha, hb, he, Result.andThen_ok]
  cases r <;> simp
theorem fields_more (hn : (f.name == "_") = false) (ha : (part f.type xs f.offset).run P w = .ok a w) (hb : (part f.type ys f.offset).run P w = .ok b w) (he : (Op.equalIn d f.type a b).run P w = .ok r w) (hr : (Op.eqFields d xs ys fs).run P w = .ok s w) : (Op.eqFields d xs ys (f :: fs)).run P w = .ok (r && s) w := by
  have hn' : f.name ≠ "_" := by simpa using hn
  rw [Op.eqFields]
  simp only [if_pos hn', Sem.run_bind, ha, hb, he, Result.andThen_ok]
  cases r
  · simp
  · simpa using hr
theorem structs_eq {t : TypeId} {fs : Array Field} (hu : P.underlying t = some (.struct fs)) (hp : P.stoodInHeld t = false) (h : (Op.eqFields d xs ys fs.toList).run P w = .ok r w) : (Op.equalIn (d + 1) t (.agg xs) (.agg ys)).run P w = .ok r w := by
  have hf : P.fieldsOf t = fs := by simp [Program.fieldsOf, hu]
  rw [run_equalIn_struct (P := P) w d t xs ys (by rw [hf]; exact hu) hp, hf]
  exact h
end

theorem ops_eq0 (d : Nat) (w : World) (x0 y0 : Int) (x1 y1 : Bool) (x2 y2 : Bool) (x3 y3 : Bool) (x4 y4 : ByteArray) (x5 y5 : ByteArray) (x6 y6 : ByteArray) (x7 y7 : ByteArray) (x8 y8 : Int) :
    (Op.equalIn (d + 2) 27 (.agg (opC x0 x1 x2 x3 x4 x5 x6 x7 x8)) (.agg (opC y0 y1 y2 y3 y4 y5 y6 y7 y8))).run Tryd.prog w = .ok (x0 == y0 && (x1 == y1 && (x2 == y2 && (x3 == y3 && (x4.toList == y4.toList && (x5.toList == y5.toList && (x6.toList == y6.toList && (x7.toList == y7.toList && (x8 == y8))))))))) w := by
  unfold opC
  refine structs_eq Tryd.underlying27 (by kernel_rfl) ?_
  refine fields_more (by rfl) (by go_simp; rfl) (by go_simp; rfl) (by go_simp) ?_
  refine fields_more (by rfl) (by go_simp; rfl) (by go_simp; rfl) (by go_simp) ?_
  refine fields_more (by rfl) (by go_simp; rfl) (by go_simp; rfl) (by go_simp) ?_
  refine fields_more (by rfl) (by go_simp; rfl) (by go_simp; rfl) (by go_simp) ?_
  refine fields_more (by rfl) (by go_simp; rfl) (by go_simp; rfl) (by go_simp) ?_
  refine fields_more (by rfl) (by go_simp; rfl) (by go_simp; rfl) (by go_simp) ?_
  refine fields_more (by rfl) (by go_simp; rfl) (by go_simp; rfl) (by go_simp) ?_
  refine fields_more (by rfl) (by go_simp; rfl) (by go_simp; rfl) (by go_simp) ?_
  exact fields_one (by rfl) (by go_simp; rfl) (by go_simp; rfl) (by go_simp)

theorem ops_eq (d : Nat) (w : World) (x0 y0 : Int) (x1 y1 : Bool) (x2 y2 : Bool) (x3 y3 : Bool) (x4 y4 : ByteArray) (x5 y5 : ByteArray) (x6 y6 : ByteArray) (x7 y7 : ByteArray) (x8 y8 : Int) :
    (Op.equalIn (d + 2) 27 (.agg (opC x0 x1 x2 x3 x4 x5 x6 x7 x8)) (.agg (opC y0 y1 y2 y3 y4 y5 y6 y7 y8))).run Tryd.prog w = .ok (decide (opB x0 x1 x2 x3 x4 x5 x6 x7 x8 = opB y0 y1 y2 y3 y4 y5 y6 y7 y8)) w := by
  rw [ops_eq0]
  congr 1
  rw [Bool.eq_iff_iff]
  simp only [Bool.and_eq_true, beq_iff_eq, decide_eq_true_eq, opB, OpP.mk.injEq, ByteArray.toList_eq]

theorem top_block (w : World) (A B : Array Value) (t u : TypeId) : ((w.alloc (.cells A t)).alloc (.cells B u)).heap[w.heap.size + 1]? = some (.cells B u (0, 0)) := by
  have h := heap_alloc_new (w.alloc (.cells A t)) (.cells B u)
  rwa [show (w.alloc (.cells A t)).heap.size = w.heap.size + 1 by simp] at h
theorem info_op : (Tryd.prog.info? 27).map (·.size) = some 9 := by kernel_rfl

def bareC (k : Int) (ro ao bk : Bool) (tk ky hi vl : ByteArray) (lm : Int) : Array Value :=
  if k = 1 then opC 1 ro ao false tk ⟨#[]⟩ ⟨#[]⟩ ⟨#[]⟩ 0
  else if k = 2 ∨ k = 5 then opC k false false false ⟨#[]⟩ ky ⟨#[]⟩ ⟨#[]⟩ 0
  else if k = 3 then opC 3 false false bk ⟨#[]⟩ ky hi ⟨#[]⟩ lm
  else if k = 4 then opC 4 false false false ⟨#[]⟩ ky ⟨#[]⟩ vl 0
  else opC k false false false ⟨#[]⟩ ⟨#[]⟩ ⟨#[]⟩ ⟨#[]⟩ 0

set_option maxHeartbeats 2000000 in
theorem bare_begin (k : Int) (ro ao bk : Bool) (tk ky hi vl : ByteArray) (lm : Int)  (w : World) :
    Calls Tryd.prog 40 #[.agg (opC 1 ro ao bk tk ky hi vl lm)] w fun e w' => e = .returned (.agg (opC 1 ro ao false tk ⟨#[]⟩ ⟨#[]⟩ ⟨#[]⟩ 0)) ∧ Below w.heap.size w w' := by
  unfold opC
  go_enter Tryd.func40, Tryd.ntmps40
  go_wp2
  (try simp only [Exit.inBlock, Exit.then])
  refine bodyPost_ret (results_cell_row rfl _ _ (w.heap.size + 1) 27 (opC 1 ro ao false tk ⟨#[]⟩ ⟨#[]⟩ ⟨#[]⟩ 0) (0, 0) _ rfl (top_block w _ _ _ _) Tryd.underlying27 rfl info_op) rfl ?_
  exact ⟨rfl, ((Below.refl _ _).alloc (Nat.le_refl _) _).alloc (by simp) _⟩

set_option maxHeartbeats 2000000 in
theorem bare_get (k : Int) (ro ao bk : Bool) (tk ky hi vl : ByteArray) (lm : Int)  (w : World) :
    Calls Tryd.prog 40 #[.agg (opC 2 ro ao bk tk ky hi vl lm)] w fun e w' => e = .returned (.agg (opC 2 false false false ⟨#[]⟩ ky ⟨#[]⟩ ⟨#[]⟩ 0)) ∧ Below w.heap.size w w' := by
  unfold opC
  go_enter Tryd.func40, Tryd.ntmps40
  go_wp2
  (try simp only [Exit.inBlock, Exit.then])
  refine bodyPost_ret (results_cell_row rfl _ _ (w.heap.size + 1) 27 (opC 2 false false false ⟨#[]⟩ ky ⟨#[]⟩ ⟨#[]⟩ 0) (0, 0) _ rfl (top_block w _ _ _ _) Tryd.underlying27 rfl info_op) rfl ?_
  exact ⟨rfl, ((Below.refl _ _).alloc (Nat.le_refl _) _).alloc (by simp) _⟩

set_option maxHeartbeats 2000000 in
theorem bare_del (k : Int) (ro ao bk : Bool) (tk ky hi vl : ByteArray) (lm : Int)  (w : World) :
    Calls Tryd.prog 40 #[.agg (opC 5 ro ao bk tk ky hi vl lm)] w fun e w' => e = .returned (.agg (opC 5 false false false ⟨#[]⟩ ky ⟨#[]⟩ ⟨#[]⟩ 0)) ∧ Below w.heap.size w w' := by
  unfold opC
  go_enter Tryd.func40, Tryd.ntmps40
  go_wp2
  (try simp only [Exit.inBlock, Exit.then])
  refine bodyPost_ret (results_cell_row rfl _ _ (w.heap.size + 1) 27 (opC 5 false false false ⟨#[]⟩ ky ⟨#[]⟩ ⟨#[]⟩ 0) (0, 0) _ rfl (top_block w _ _ _ _) Tryd.underlying27 rfl info_op) rfl ?_
  exact ⟨rfl, ((Below.refl _ _).alloc (Nat.le_refl _) _).alloc (by simp) _⟩

set_option maxHeartbeats 2000000 in
theorem bare_scan (k : Int) (ro ao bk : Bool) (tk ky hi vl : ByteArray) (lm : Int)  (w : World) :
    Calls Tryd.prog 40 #[.agg (opC 3 ro ao bk tk ky hi vl lm)] w fun e w' => e = .returned (.agg (opC 3 false false bk ⟨#[]⟩ ky hi ⟨#[]⟩ lm)) ∧ Below w.heap.size w w' := by
  unfold opC
  go_enter Tryd.func40, Tryd.ntmps40
  go_wp2
  (try simp only [Exit.inBlock, Exit.then])
  refine bodyPost_ret (results_cell_row rfl _ _ (w.heap.size + 1) 27 (opC 3 false false bk ⟨#[]⟩ ky hi ⟨#[]⟩ lm) (0, 0) _ rfl (top_block w _ _ _ _) Tryd.underlying27 rfl info_op) rfl ?_
  exact ⟨rfl, ((Below.refl _ _).alloc (Nat.le_refl _) _).alloc (by simp) _⟩

set_option maxHeartbeats 2000000 in
theorem bare_put (k : Int) (ro ao bk : Bool) (tk ky hi vl : ByteArray) (lm : Int)  (w : World) :
    Calls Tryd.prog 40 #[.agg (opC 4 ro ao bk tk ky hi vl lm)] w fun e w' => e = .returned (.agg (opC 4 false false false ⟨#[]⟩ ky ⟨#[]⟩ vl 0)) ∧ Below w.heap.size w w' := by
  unfold opC
  go_enter Tryd.func40, Tryd.ntmps40
  go_wp2
  (try simp only [Exit.inBlock, Exit.then])
  refine bodyPost_ret (results_cell_row rfl _ _ (w.heap.size + 1) 27 (opC 4 false false false ⟨#[]⟩ ky ⟨#[]⟩ vl 0) (0, 0) _ rfl (top_block w _ _ _ _) Tryd.underlying27 rfl info_op) rfl ?_
  exact ⟨rfl, ((Below.refl _ _).alloc (Nat.le_refl _) _).alloc (by simp) _⟩

set_option maxHeartbeats 2000000 in
theorem bare_other (k : Int) (ro ao bk : Bool) (tk ky hi vl : ByteArray) (lm : Int) (h1 : k ≠ 1) (h2 : k ≠ 2) (h3 : k ≠ 3) (h4 : k ≠ 4) (h5 : k ≠ 5) (w : World) :
    Calls Tryd.prog 40 #[.agg (opC k ro ao bk tk ky hi vl lm)] w fun e w' => e = .returned (.agg (opC k false false false ⟨#[]⟩ ⟨#[]⟩ ⟨#[]⟩ ⟨#[]⟩ 0)) ∧ Below w.heap.size w w' := by
  have k1 : (k == 1) = false := by simpa using h1
  have k2 : (k == 2) = false := by simpa using h2
  have k3 : (k == 3) = false := by simpa using h3
  have k4 : (k == 4) = false := by simpa using h4
  have k5 : (k == 5) = false := by simpa using h5
  unfold opC
  go_enter Tryd.func40, Tryd.ntmps40
  go_wp2
  (try simp only [Exit.inBlock, Exit.then])
  refine bodyPost_ret (results_cell_row rfl _ _ (w.heap.size + 1) 27 (opC k false false false ⟨#[]⟩ ⟨#[]⟩ ⟨#[]⟩ ⟨#[]⟩ 0) (0, 0) _ rfl (top_block w _ _ _ _) Tryd.underlying27 rfl info_op) rfl ?_
  exact ⟨rfl, ((Below.refl _ _).alloc (Nat.le_refl _) _).alloc (by simp) _⟩

theorem bare_calls (k : Int) (ro ao bk : Bool) (tk ky hi vl : ByteArray) (lm : Int) (w : World) :
    Calls Tryd.prog 40 #[.agg (opC k ro ao bk tk ky hi vl lm)] w fun e w' => e = .returned (.agg (bareC k ro ao bk tk ky hi vl lm)) ∧ Below w.heap.size w w' := by
  unfold bareC
  by_cases k1 : k = 1
  · subst k1; rw [if_pos rfl]; exact bare_begin 1 ro ao bk tk ky hi vl lm w
  rw [if_neg k1]
  by_cases k2 : k = 2
  · subst k2; rw [if_pos (.inl rfl)]; exact bare_get 2 ro ao bk tk ky hi vl lm w
  by_cases k5 : k = 5
  · subst k5; rw [if_pos (.inr rfl)]; exact bare_del 5 ro ao bk tk ky hi vl lm w
  rw [if_neg (fun h => h.elim k2 k5)]
  by_cases k3 : k = 3
  · subst k3; rw [if_pos rfl]; exact bare_scan 3 ro ao bk tk ky hi vl lm w
  rw [if_neg k3]
  by_cases k4 : k = 4
  · subst k4; rw [if_pos rfl]; exact bare_put 4 ro ao bk tk ky hi vl lm w
  rw [if_neg k4]
  exact bare_other k ro ao bk tk ky hi vl lm k1 k2 k3 k4 k5 w

/-- bare's cells are an operation's, the bare one's -/
theorem bareC_op (k : Int) (ro ao bk : Bool) (tk ky hi vl : ByteArray) (lm : Int) :
    ∃ k' ro' ao' bk' tk' ky' hi' vl' lm', bareC k ro ao bk tk ky hi vl lm = opC k' ro' ao' bk' tk' ky' hi' vl' lm' ∧ opB k' ro' ao' bk' tk' ky' hi' vl' lm' = bareP (opB k ro ao bk tk ky hi vl lm) := by
  unfold bareC
  by_cases k1 : k = 1
  · rw [if_pos k1]; exact ⟨_, _, _, _, _, _, _, _, _, rfl, by simp [bareP, opB, k1]⟩
  rw [if_neg k1]
  by_cases k2 : k = 2 ∨ k = 5
  · rw [if_pos k2]; exact ⟨_, _, _, _, _, _, _, _, _, rfl, by simp [bareP, opB, k1, k2]⟩
  rw [if_neg k2]
  by_cases k3 : k = 3
  · rw [if_pos k3]; exact ⟨_, _, _, _, _, _, _, _, _, rfl, by simp [bareP, opB, k3]⟩
  rw [if_neg k3]
  by_cases k4 : k = 4
  · rw [if_pos k4]; exact ⟨_, _, _, _, _, _, _, _, _, rfl, by simp [bareP, opB, k4]⟩
  rw [if_neg k4]
  exact ⟨_, _, _, _, _, _, _, _, _, rfl, by simp [bareP, opB, k1, k2, k3, k4]⟩
end Go.Proofs.YtconkncoohcdfaaDoor
