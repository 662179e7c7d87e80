/- GateRequests: the line of any operation, or the refusal; what Parse makes of it: the second form's card; its condition is the given bound of what is read. -/
import Derived.Test.YtconkncoohcdfaaDoorLawReplies
import Derived.Test.YtconkncoohcdfaaDoorWalk5
import Derived.HandedShaped
import Derived.Deep.DeepWitnessRowRef
namespace Go.Proofs.YtconkncoohcdfaaDoor.lawRequests
open Go.ChangeShapes Go.WideShapes Go.ChangeAt Go.RowKit Go.Proofs.YtconkncoohcdfaaDoor Go.Proofs.YtconkncoohcdfaaDoor.lawReplies
set_option linter.unusedSimpArgs false
set_option linter.unusedVariables false
set_option maxRecDepth 100000

theorem readableOp : Tryd.prog.readableRec 27 = true := by kernel_rfl
theorem opInTypes : 27 < Tryd.prog.types.size := of_decide_eq_true (by kernel_rfl)

theorem trod_err {H : Type} {enc : TypeId × Value → H} {w : World} {n : Nat} {cs : List Value} {x : DataW H × List MemPlace} {ms : Array (String × TypeId)} {t : TypeId} (ht : Tryd.prog.underlying t = some (.interface ms)) (h : DataW.trod enc Tryd.prog w 0 (fun _ => true) false n t cs = some x) :
    ∃ ev, cs = [ev] ∧ (ev = .nilIface ∨ ∃ te pe, ev = .iface te pe) := by
  cases n with
  | zero => simp [DataW.trod] at h
  | succ n =>
    unfold DataW.trod at h
    rw [ht] at h
    split at h
    all_goals first
      | (rename_i heq; cases heq; done)
      | exact ⟨_, rfl, .inl rfl⟩
      | exact ⟨_, rfl, .inr ⟨_, _, rfl⟩⟩
      | (simp at h; done)
      | simp_all

theorem laid_err {W : World} {l : List (String × DataW Unit)} {name : String} {d : DataW Unit} {g : Nat} {t : TypeId} {ms : Array (String × TypeId)} (h : laidMet Tryd.prog l W) (hm : (name, d) ∈ l) (hg : Tryd.prog.globalNamed name = some g) (ht : (Tryd.prog.globals[g]?).map (·.type) = some t) (hu : Tryd.prog.underlying t = some (.interface ms)) :
    ∃ ev, W.cell? ⟨g, 0, none⟩ = some ev ∧ (ev = .nilIface ∨ ∃ te pe, ev = .iface te pe) := by
  obtain ⟨ps, hl, _⟩ := h
  obtain ⟨g', t', cs, fuel, p, hg', ht', hv, hd⟩ := laid_vars hl _ hm
  obtain rfl := Option.some.inj (hg.symm.trans hg')
  obtain rfl := Option.some.inj (ht.symm.trans ht')
  obtain ⟨ev, hcs, hev⟩ := trod_err hu hd
  refine ⟨ev, ?_, hev⟩
  have h0 := World.var?_cell hg hv 0
  rw [h0]
  have : cs = #[ev] := by cases cs; simpa using hcs
  rw [this]
  rfl

theorem laid_errs {W : World} {l : List (String × DataW Unit)} (h : laidMet Tryd.prog l W) (h1 : ("strconv.ErrSyntax", Rows.laid_strconv_ErrSyntax) ∈ l) (h2 : ("strconv.ErrRange", Rows.laid_strconv_ErrRange) ∈ l) : ErrsIn W :=
  ⟨laid_err h h1 (by kernel_rfl) (by kernel_rfl) Tryd.underlying121, laid_err h h2 (by kernel_rfl) (by kernel_rfl) Tryd.underlying121⟩

theorem shaped_max {W : World} (h : W.ShapedOpen Tryd.prog) : MaxIn W :=
  Go.Proofs.cell_of_shapedOpen_int (P := Tryd.prog) (g := 3) (zero := #[.int .i64 0]) (t := 3) h (of_decide_eq_true (by kernel_rfl)) (by kernel_rfl) rfl (by kernel_rfl) (by kernel_rfl) Tryd.underlying3

theorem arr9 (cs : Array Value) (h : cs.size = 9) : ∃ v0 v1 v2 v3 v4 v5 v6 v7 v8, cs = #[v0, v1, v2, v3, v4, v5, v6, v7, v8] := by
  obtain ⟨l⟩ := cs
  match l, h with
  | [v0, v1, v2, v3, v4, v5, v6, v7, v8], _ => exact ⟨v0, v1, v2, v3, v4, v5, v6, v7, v8, rfl⟩

theorem contract (H : Type) (enc : TypeId × Value → H) (W : World) (base : Nat) (args : Array Value) (ds gs : List (DataW H)) (before : List MemPlace)
    (hval : ∀ (j : Nat) t v, Tryd.f5.params[j]? = some t → args[j]? = some v → Value.okWide Tryd.prog W .any base t v)
    (hW : DataW.Whole enc Tryd.prog Tryd.f5.params.toList Rows.gateRequestsSpec.vars false W args.toList ds gs before) (hk : Rows.uptoSmall H (ds ++ gs) = true) (hL : laidMetH Tryd.prog Rows.gateRequestsUptoRow.laid W) (hSh : W.ShapedOpen Tryd.prog) :
    Calls Tryd.prog 5 args W fun e W' => ∃ v, e = .returned v ∧ Rows.gateRequestsSpec.post enc Tryd.prog Tryd.f5 false true false false W args v W' := by
  rw [MakeChecks.laidMetH_plain _ _ _ (by kernel_rfl)] at hL
  have htab := laid_pow hL (List.mem_cons_of_mem _ (List.mem_cons_of_mem _ (List.mem_cons_self ..)))
  have hmax := shaped_max hSh
  have herr := laid_errs hL (by simp [Rows.gateRequestsUptoRow]) (by simp [Rows.gateRequestsUptoRow])
  have hW' := hW
  obtain ⟨p, q, hA0, hV, rfl, hfz, hnd⟩ := hW
  have hA : DataW.TrodAll enc Tryd.prog W 0 (fun _ => true) true Tryd.f5.params.toList args.toList ds p := hA0
  rw [Tryd.params5] at hA hval
  obtain ⟨v0, vs0, d0, ds0, p0, q0, hargs, rfl, rfl, h0, r0⟩ := trodAll_cons hA
  obtain ⟨rfl, rfl, rfl⟩ := trodAll_nil r0
  obtain rfl : args = #[v0] := by cases args; simp_all
  obtain ⟨rfl, rfl⟩ := trodVars_none hV
  simp only [List.append_nil] at hW' hk
  have hk' : Rows.uptoBulk d0 ≤ 1048576 := by
    have h : Rows.uptoBulkAll [d0] ≤ 1048576 := of_decide_eq_true hk
    simp only [Rows.uptoBulkAll] at h
    omega
  obtain ⟨cs, rfl, hsz⟩ := okWide_struct Tryd.underlying27 (hval 0 _ v0 rfl rfl)
  rw [cells27] at hsz
  obtain ⟨v0, v1, v2, v3, v4, v5, v6, v7, v8, rfl⟩ := arr9 cs hsz
  obtain ⟨fuel, hf⟩ := h0
  have hf1 : DataW.trod enc Tryd.prog W 0 (fun _ => true) true fuel 27 [v0, v1, v2, v3, v4, v5, v6, v7, v8] = some (d0, p0) := hf
  obtain ⟨k, ro, ao, bk, tk, ky, hi, vl, lm, rfl, rfl, rfl, rfl, rfl, rfl, rfl, rfl, rfl, wk, wl, hbulk⟩ := open_op (enc := enc) hf1
  simp only at hbulk
  have i64 : ∀ z : Int, (Lit.int .i64 z).wf = true → -9223372036854775808 ≤ z ∧ z ≤ 9223372036854775807 := fun z h => by simp only [Lit.wf, show IntKind.i64.min = -9223372036854775808 from rfl, show IntKind.i64.max = 9223372036854775807 from rfl, Bool.and_eq_true, decide_eq_true_eq] at h; omega
  have hwalk : Calls Tryd.prog 5 #[.agg #[.int .i64 k, .bool ro, .bool ao, .bool bk, .string tk, .string ky, .string hi, .string vl, .int .i64 lm]] W fun e w' => e = .returned (.bool true) ∧ Below W.heap.size W w' :=
    law_requests k ro ao bk tk ky hi vl lm (by omega) (by omega) (by omega) (by omega) (i64 _ wl) W hmax herr htab
  have h0k : DataW.Trod enc Tryd.prog W 0 (fun _ => true) true 27 (.agg #[.int .i64 k, .bool ro, .bool ao, .bool bk, .string tk, .string ky, .string hi, .string vl, .int .i64 lm]) d0 p0 := ⟨fuel, hf⟩
  have hlt : ∀ x ∈ p0, x.block < W.heap.size := fun x hx => by simpa using hW'.lt x (by simpa using hx)
  refine hwalk.mono fun e W' ⟨he, hb⟩ => ?_
  subst he
  exact ⟨_, rfl, post_of_below (pa := p0) (pv := []) hW' (fun _ _ _ => trodAll_cons_mk (shut_bool Tryd.underlying4 _) trodAll_mk0)
    (fun sp hsp => trodAll_mk1 (WideElems.Trod_stays laidOut readableOp opInTypes h0k (fun x hx => hb.same (hlt x hx)) (fun x hx => hsp x (by simpa using hx)))) (fun _ _ => rfl) (by simp)
    hb (ok_one (by kernel_rfl) rfl (okWide_bool_mk Tryd.underlying4 _))⟩

def zeroArg : Value := .agg #[.int .i64 0, .bool false, .bool false, .bool false, .string ⟨#[]⟩, .string ⟨#[]⟩, .string ⟨#[]⟩, .string ⟨#[]⟩, .int .i64 0]
def zeroData {H : Type} : DataW H := .agg [.lit (.int .i64 0), .lit (.bool false), .lit (.bool false), .lit (.bool false), .lit (.string []), .lit (.string []), .lit (.string []), .lit (.string []), .lit (.int .i64 0)]

noncomputable def laidWorld (os : Os) : World := World.laidAll Tryd.prog os Rows.gateRequestsUptoRow.laid
theorem laid_met (os : Os) : laidMet Tryd.prog Rows.gateRequestsUptoRow.laid ((laidWorld os).forCall (fun _ _ => 0) ⟨#[], #[zeroArg], []⟩).memory :=
  laidMet_laidAll _ (by kernel_rfl) (by kernel_rfl)
theorem reads (os : Os) {H : Type} (enc : TypeId × Value → H) : ∃ places, DataW.whole enc Tryd.prog ((laidWorld os).forCall (fun _ _ => 0) ⟨#[], #[zeroArg], []⟩).memory Tryd.f5.params.toList Rows.gateRequestsSpec.vars false #[zeroArg].toList 8 = some ([zeroData], [], places) :=
  ⟨[], by kernel_rfl⟩

theorem liftedUpto (os : Os) (started : os.Started) (H : Type) (enc : TypeId × Value → H) (F : Stop.Interp) :
    ReturnsInHanded {} Tryd.checked os 5 .any ((Rows.OpenSpec.upto Rows.gateRequestsSpec).preRow enc Tryd.prog Tryd.f5 Rows.gateRequestsUptoRow.domain false Rows.gateRequestsUptoRow.laid) (((Rows.OpenSpec.upto Rows.gateRequestsSpec).at F).post enc Tryd.prog Tryd.f5 false true false false) := by
  obtain ⟨places, hx⟩ := reads os enc
  refine returnsInHanded_of_row (C := Tryd.checked) (s := Rows.OpenSpec.upto Rows.gateRequestsSpec) lawReplies.own started (by kernel_rfl) Tryd.func5
    (witness_row_atRef (enc := enc) (C := Tryd.checked) false (laidWorld os) #[zeroArg] (World.laidAll_os _ _ _) (by kernel_rfl) (by kernel_rfl) (by kernel_rfl)
      (OpenSpec.preRow_of_cond 8 hx (by kernel_rfl) (fun k hk => by cases hk; kernel_rfl) (by kernel_rfl) (laid_met os))) ?_
  intro W base args ds gs before hval hW _ hcond _ hL hSh _
  exact contract H enc W base args ds gs before hval hW (hcond _ rfl) hL hSh

theorem saidUpto : Rows.GateRequestsUptoSaid :=
  OpenClaim.holds_of_cond 5 Tryd.f5 rfl rfl rfl rfl rfl rfl rfl ⟨rfl, rfl, rfl, rfl, rfl⟩ rfl rfl rfl rfl rfl (by kernel_rfl) Tryd.func5 (by kernel_rfl)
    (of_decide_eq_true (by kernel_rfl)) (by unfold Func.isWrapper; first | (rw [if_pos (by decide +kernel)]; kernel_rfl) | (rw [if_neg (by decide +kernel)]; exact ⟨rfl, rfl⟩))
    (fun os started H enc _ F => by rw [OpenClaim.pre_eq_preRow]; exact liftedUpto os started H enc F)

theorem plain (f : FuncId) (fn : Func) (hf : Tryd.pinned.checked.prog.funcNamed "tidemark/tidemarklaw21.GateRequests" = some f) (hfn : Tryd.pinned.checked.prog.funcs[f]? = some fn) :
    true = Tryd.pinned.checked.prog.looks [] ∧ ∀ (j : Nat) t, fn.params[j]? = some t → Tryd.pinned.checked.prog.wantsStandIn t = false := by
  obtain rfl : f = 5 := Option.some.inj ((show Tryd.prog.funcNamed "tidemark/tidemarklaw21.GateRequests" = some 5 by kernel_rfl).symm.trans hf) |>.symm
  obtain rfl : fn = Tryd.f5 := (Option.some.inj (Tryd.func5.symm.trans hfn)).symm
  refine ⟨by kernel_rfl, fun j t ht => ?_⟩
  rw [Tryd.params5] at ht
  obtain rfl : t = 27 := by simpa using Array.mem_of_getElem? ht
  exact (show Tryd.prog.wantsStandIn 27 = false by kernel_rfl)

/-- The second form's card of GateRequests. -/
theorem cardUpto : Rows.GateRequestsUptoCardSaid :=
  Claim7.holds_tied_plain_at .later [] _ _ _ _ saidUpto (fun _ h => by cases h) (by kernel_rfl) (fun _ h => by cases h) gateRequestsUpto_row_tie rfl ⟨rfl, rfl⟩ (by kernel_rfl) rfl plain (by kernel_rfl)
end Go.Proofs.YtconkncoohcdfaaDoor.lawRequests
