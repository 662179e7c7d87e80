/- SessionNews: a session just for a client's node of a valid configuration, and it has done nothing yet: the whole statement's card, for every node and every configuration. No condition. -/
import Derived.Test.YtconkncoohcdfaaDoorLawReplies
import Derived.Test.YtconkncoohcdfaaDoorNLaw
import Derived.SliceStrings
import Derived.SizedLaws
import Derived.Deep.DeepWitnessRowRef
namespace Go.Proofs.YtconkncoohcdfaaDoor.lawNews
open Go.ChangeShapes Go.WideShapes Go.ChangeAt Go.RowKit Go.Deep Go.Proofs.YtconkncoohcdfaaDoor Go.Proofs.YtconkncoohcdfaaDoor.lawReplies
set_option linter.unusedSimpArgs false
set_option linter.unusedVariables false
set_option maxRecDepth 100000

theorem cellsConf : Tryd.prog.cellsOf 41 = 6 := by kernel_rfl
theorem cellsNews : Tryd.prog.cellsOf 43 = 7 := by kernel_rfl
theorem cellsStrs : Tryd.prog.cellsOf 39 = 1 := by kernel_rfl
theorem bytesStr : Tryd.prog.bytesOf 9 = 16 := by kernel_rfl
theorem readableNews : Tryd.prog.readableRec 43 = true := by kernel_rfl
theorem newsInTypes : 43 < Tryd.prog.types.size := of_decide_eq_true (by kernel_rfl)

section
variable {H : Type} {enc : TypeId × Value → H} {w : World} {base : Nat} {sp : Nat → Bool} {held : Bool}

/-- the texts of a slice that is read -/
theorem open_strs {n : Nat} {v : Value} {x : DataW H × List MemPlace} (h : DataW.trod enc Tryd.prog w base sp held n 39 [v] = some x) :
    ∃ A fs cap, v = .slice A fs.length cap ∧ StrsIn A fs w ∧ (fs = [] ∨ ∃ m, fs.length ≤ m ∧ m * 16 ∈ DataW.weights Tryd.prog 39 x.1) := by
  rcases open_strings Tryd.underlying39 Tryd.underlying9 cells9 h with ⟨hcs, hx⟩ | ⟨a, len, cap, ss, hcs, hb, hl, hm, hz, hx, hcell, hws⟩
  · simp only [List.cons.injEq, and_true] at hcs
    exact ⟨none, [], 0, hcs, fun h0 => absurd h0 (by simp), .inl rfl⟩
  · simp only [List.cons.injEq, and_true] at hcs
    have hlm : len ≤ ss.length := by rw [hz]; split <;> omega
    have htl : (ss.take len).length = len := by simp; omega
    refine ⟨some a, ss.take len, cap, by rw [htl]; exact hcs, ?_, .inr ⟨ss.length, by omega, ?_⟩⟩
    · intro h0
      have hl0 : 0 < len := by omega
      have hp : a.spot = none := by
        have := hcell 0 (by omega)
        cases hs : a.spot with
        | none => rfl
        | some _ =>
          simp [World.cell?, Addr.add, hs] at this
          cases hh : w.heap[a.block]? with
          | none => simp [hh] at this
          | some o => cases o <;> simp [hh] at this
      obtain ⟨b, off, spot⟩ := a
      simp only at hp
      subst hp
      refine ⟨b, off, rfl, fun j hj => ?_⟩
      have hj' : j < ss.length := by omega
      have h1 := hcell j hj'
      rw [add_plain] at h1
      rw [h1, List.getElem_take, List.getD_eq_getElem?_getD, List.getElem?_eq_getElem hj']
      rfl
    · rw [hx]
      unfold DataW.weights
      rw [Tryd.underlying39]
      dsimp only
      rw [bytesStr]
      refine List.mem_cons.2 (.inl ?_)
      simp [strs]
      omega

theorem list6 {α : Type} (l : List α) (h : l.length = 6) : ∃ a0 a1 a2 a3 a4 a5, l = [a0, a1, a2, a3, a4, a5] := by
  match l, h with
  | [a0, a1, a2, a3, a4, a5], _ => exact ⟨a0, a1, a2, a3, a4, a5, rfl⟩

/-- a node and a configuration: seven cells -/
theorem open_news {n : Nat} {v0 v1 v2 v3 v4 v5 v6 : Value} {x : DataW H × List MemPlace} (h : DataW.trod enc Tryd.prog w base sp held n 43 [v0, v1, v2, v3, v4, v5, v6] = some x) :
    ∃ (node sh cl : Int) (A : Option Addr) (fs : List ByteArray) (cap : Nat) (ca pk wd : Int), v0 = .int .u32 node ∧ v1 = .int .i64 sh ∧ v2 = .int .i64 cl ∧ v3 = .slice A fs.length cap ∧ v4 = .int .i64 ca ∧ v5 = .int .i64 pk ∧ v6 = .int .u64 wd ∧
      (Lit.int .u32 node).wf = true ∧ (Lit.int .u64 wd).wf = true ∧ StrsIn A fs w ∧ (fs = [] ∨ ∃ m, fs.length ≤ m ∧ m * 16 ∈ DataW.weights Tryd.prog 43 x.1) := by
  obtain ⟨xs, m, _, hx, _, hl, hf⟩ := DataW.trod_struct Tryd.underlying43 h
  obtain ⟨y0, y1, rfl⟩ := list2 xs hl
  have g0 : DataW.trod enc Tryd.prog w base sp held m 22 [v0] = some y0 := field_at hf 0 rfl rfl rfl cells22
  have g1 : DataW.trod enc Tryd.prog w base sp held m 41 [v1, v2, v3, v4, v5, v6] = some y1 := field_at hf 1 rfl rfl rfl cellsConf
  obtain ⟨node, rfl, _, wn⟩ := cell_int Tryd.underlying22 g0
  obtain ⟨zs, m1, _, hz, _, hl1, hf1⟩ := DataW.trod_struct Tryd.underlying41 g1
  obtain ⟨z0, z1, z2, z3, z4, z5, rfl⟩ := list6 zs hl1
  have f0 : DataW.trod enc Tryd.prog w base sp held m1 3 [v1] = some z0 := field_at hf1 0 rfl rfl rfl cells3
  have f1 : DataW.trod enc Tryd.prog w base sp held m1 3 [v2] = some z1 := field_at hf1 1 rfl rfl rfl cells3
  have f2 : DataW.trod enc Tryd.prog w base sp held m1 39 [v3] = some z2 := field_at hf1 2 rfl rfl rfl cellsStrs
  have f3 : DataW.trod enc Tryd.prog w base sp held m1 3 [v4] = some z3 := field_at hf1 3 rfl rfl rfl cells3
  have f4 : DataW.trod enc Tryd.prog w base sp held m1 3 [v5] = some z4 := field_at hf1 4 rfl rfl rfl cells3
  have f5 : DataW.trod enc Tryd.prog w base sp held m1 29 [v6] = some z5 := field_at hf1 5 rfl rfl rfl cells29
  obtain ⟨sh, rfl, _, _⟩ := cell_int Tryd.underlying3 f0
  obtain ⟨cl, rfl, _, _⟩ := cell_int Tryd.underlying3 f1
  obtain ⟨A, fs, cap, rfl, hs, hw⟩ := open_strs f2
  obtain ⟨ca, rfl, _, _⟩ := cell_int Tryd.underlying3 f3
  obtain ⟨pk, rfl, _, _⟩ := cell_int Tryd.underlying3 f4
  obtain ⟨wd, rfl, _, ww⟩ := cell_int Tryd.underlying29 f5
  refine ⟨node, sh, cl, A, fs, cap, ca, pk, wd, rfl, rfl, rfl, rfl, rfl, rfl, rfl, wn, ww, hs, ?_⟩
  rcases hw with h0 | ⟨k, hk, hmem⟩
  · exact .inl h0
  · refine .inr ⟨k, hk, ?_⟩
    have e1 : k * 16 ∈ DataW.weights Tryd.prog 41 y1.1 := by
      rw [hz]
      unfold DataW.weights
      rw [Tryd.underlying41]
      exact DataW.weights_mem_each (j := 2) (t := 39) (d := z2.1) rfl rfl _ hmem
    rw [hx]
    unfold DataW.weights
    rw [Tryd.underlying43]
    exact DataW.weights_mem_each (j := 1) (t := 41) (d := y1.1) rfl rfl _ e1
end

def rnameList : List (List UInt8) := [[115, 104, 97, 114, 100, 115], [99, 108, 105, 101, 110, 116, 115], [99, 97, 112, 97, 99, 105, 116, 121], [112, 97, 114, 107], [119, 105, 110, 100, 111, 119]]
theorem rnames_datum : (Rows.laid_tidemark_route_names : DataW Unit) = .agg (rnameList.map fun p => .lit (.string p)) := rfl
theorem rnameCells_at : ∀ k, k < 5 → rnameCells[k]? = some (.string ⟨(rnameAt k).toArray⟩) := by
  intro k hk
  match k, hk with
  | 0, _ => rfl
  | 1, _ => rfl
  | 2, _ => rfl
  | 3, _ => rfl
  | 4, _ => rfl
  | m + 5, h' => exact absurd h' (by omega)

theorem laid_rnames {W : World} {l : List (String × DataW Unit)} (h : laidMet Tryd.prog l W) (hm : ("tidemark/route.names", Rows.laid_tidemark_route_names) ∈ l) : RNamesIn W := by
  obtain ⟨ps, hl, _⟩ := h
  obtain ⟨g, t, cs, fuel, p, hg, ht, hv, hd⟩ := laid_vars hl _ hm
  have hg0 : Tryd.prog.globalNamed "tidemark/route.names" = some 1 := by kernel_rfl
  obtain rfl := Option.some.inj (hg0.symm.trans hg)
  obtain rfl := Option.some.inj ((show (Tryd.prog.globals[1]?).map (·.type) = some 131 by kernel_rfl).symm.trans ht)
  obtain ⟨xs, m, _, ex, hcl, hxl, hel⟩ := DataW.trod_array Tryd.underlying131 hd
  have c5 : Tryd.prog.cellsOf 131 = 5 := by kernel_rfl
  rw [c5] at hcl
  have hcl' : cs.size = 5 := by simpa using hcl
  have e3 : (xs.map (·.1)) = rnameList.map fun p => .lit (.string p) := by
    have := (Prod.mk.inj ex).1
    rw [rnames_datum] at this
    exact (DataW.agg.inj this).symm
  have each : ∀ i, i < 5 → cs[i]? = some (.string ⟨(rnameAt i).toArray⟩) := by
    intro i hi
    have h1 := hel i hi
    rw [cells9, List.getElem?_eq_getElem (by omega)] at h1
    have hlen : ((cs.toList.drop (i * 1)).take 1).length = 1 := by simp; omega
    obtain ⟨v0, hvv⟩ : ∃ v0, (cs.toList.drop (i * 1)).take 1 = [v0] := by
      match hh : (cs.toList.drop (i * 1)).take 1, hlen with
      | [v0], _ => exact ⟨v0, rfl⟩
    rw [hvv] at h1
    obtain ⟨s, rfl, ds, _⟩ := cell_string Tryd.underlying9 h1
    have e4 : (xs.map (·.1))[i]? = (rnameList.map fun p => (.lit (.string p) : DataW Unit))[i]? := by rw [e3]
    have hnl : rnameList.length = 5 := rfl
    rw [List.getElem?_map, List.getElem?_map, List.getElem?_eq_getElem (by omega : i < xs.length), List.getElem?_eq_getElem (by omega : i < rnameList.length)] at e4
    simp only [Option.map_some, Option.some.injEq, ds, DataW.lit.injEq, Lit.string.injEq] at e4
    have k0 : cs[i]? = some (.string s) := by
      have := congrArg (·[0]?) hvv
      simpa [List.getElem?_take, List.getElem?_drop] using this
    rw [k0]
    have hw : rnameAt i = rnameList[i] := by
      show rnameList.getD i [] = _
      rw [List.getD_eq_getElem?_getD, List.getElem?_eq_getElem (by omega)]
      rfl
    have hs : s.data.toList = rnameAt i := e4.trans hw.symm
    rw [← hs]
  have hcs : cs = rnameCells := by
    apply Array.ext_getElem?
    intro j
    by_cases hj : j < 5
    · rw [each j hj, rnameCells_at j hj]
    · rw [Array.getElem?_eq_none (by omega), Array.getElem?_eq_none (by show 5 ≤ j; omega)]
  subst hcs
  unfold World.var? at hv
  rw [hg0] at hv
  simp only [Option.bind_some] at hv
  cases hh : W.heap[1]? with
  | none => simp [hh] at hv
  | some o =>
    cases o with
    | cells c t fr =>
      simp [hh] at hv
      subst hv
      exact ⟨t, fr, hh⟩
    | _ => simp [hh] at hv

theorem arr7 (cs : Array Value) (h : cs.size = 7) : ∃ v0 v1 v2 v3 v4 v5 v6, cs = #[v0, v1, v2, v3, v4, v5, v6] := by
  obtain ⟨l⟩ := cs
  match l, h with
  | [v0, v1, v2, v3, v4, v5, v6], _ => exact ⟨v0, v1, v2, v3, v4, v5, v6, rfl⟩

theorem contract (H : Type) (enc : TypeId × Value → H) (W : World) (base : Nat) (args : Array Value) (ds gs : List (DataW H)) (before : List MemPlace)
    (hval : ∀ (j : Nat) t v, Tryd.f4.params[j]? = some t → args[j]? = some v → Value.okWide Tryd.prog W .any base t v)
    (hW : DataW.Whole enc Tryd.prog Tryd.f4.params.toList Rows.sessionNewsSpec.vars false W args.toList ds gs before)
    (hsz : (DataW.weightsEach Tryd.prog (Tryd.f4.params.toList ++ (OpenSpec.ofChange Rows.sessionNewsSpec).bare.plain.varTypes Tryd.prog) (ds ++ gs)).all (· ≤ reachBytes) = true) (hL : laidMetH Tryd.prog Rows.sessionNewsRow.laid W) :
    Calls Tryd.prog 4 args W fun e W' => ∃ v, e = .returned v ∧ Rows.sessionNewsSpec.post enc Tryd.prog Tryd.f4 false true false false W args v W' := by
  rw [MakeChecks.laidMetH_plain _ _ _ (by kernel_rfl)] at hL
  have htab := laid_pow hL (List.mem_cons_of_mem _ (List.mem_cons_of_mem _ (List.mem_cons_self ..)))
  have hnm := laid_rnames hL (List.mem_cons_of_mem _ (List.mem_cons_of_mem _ (List.mem_cons_of_mem _ (List.mem_cons_self ..))))
  have hW' := hW
  obtain ⟨p, q, hA0, hV, rfl, hfz, hnd⟩ := hW
  have hA : DataW.TrodAll enc Tryd.prog W 0 (fun _ => true) true Tryd.f4.params.toList args.toList ds p := hA0
  rw [Tryd.params4] at hA hval hsz
  obtain ⟨v0, vs0, d0, ds0, p0, q0, hargs, rfl, rfl, h0, r0⟩ := trodAll_cons hA
  obtain ⟨rfl, rfl, rfl⟩ := trodAll_nil r0
  obtain rfl : args = #[v0] := by cases args; simp_all
  obtain ⟨rfl, rfl⟩ := trodVars_none hV
  simp only [List.append_nil] at hW'
  obtain ⟨cs, rfl, hsize⟩ := okWide_struct Tryd.underlying43 (hval 0 _ v0 rfl rfl)
  rw [cellsNews] at hsize
  obtain ⟨v0, v1, v2, v3, v4, v5, v6, rfl⟩ := arr7 cs hsize
  obtain ⟨fuel, hf⟩ := h0
  have hf1 : DataW.trod enc Tryd.prog W 0 (fun _ => true) true fuel 43 [v0, v1, v2, v3, v4, v5, v6] = some (d0, p0) := hf
  obtain ⟨node, sh, cl, A, fs, cap, ca, pk, wd, rfl, rfl, rfl, rfl, rfl, rfl, rfl, wn, ww, hs, hw⟩ := open_news (enc := enc) hf1
  have u32 : ∀ z : Int, (Lit.int .u32 z).wf = true → 0 ≤ z ∧ z < 4294967296 := fun z h => by simp only [Lit.wf, show IntKind.u32.min = 0 from rfl, show IntKind.u32.max = 4294967295 from rfl, Bool.and_eq_true, decide_eq_true_eq] at h; omega
  have u64 : ∀ z : Int, (Lit.int .u64 z).wf = true → 0 ≤ z ∧ z < 18446744073709551616 := fun z h => by simp only [Lit.wf, show IntKind.u64.min = 0 from rfl, show IntKind.u64.max = 18446744073709551615 from rfl, Bool.and_eq_true, decide_eq_true_eq] at h; omega
  have hn : fs.length * 16 ≤ 140737488351232 := by
    rcases hw with h0 | ⟨k, hk, hmem⟩
    · rw [h0]; simp
    · have h1 := List.all_eq_true.1 hsz _ (DataW.weights_mem_each (j := 0) (t := 43) (d := d0) rfl rfl _ hmem)
      have h2 : k * 16 ≤ reachBytes := by simpa using h1
      have h3 : reachBytes = 140737488351232 := rfl
      omega
  have hwalk : Calls Tryd.prog 4 #[.agg #[.int .u32 node, .int .i64 sh, .int .i64 cl, .slice A fs.length cap, .int .i64 ca, .int .i64 pk, .int .u64 wd]] W fun e w' => e = .returned (.bool true) ∧ Below W.heap.size W w' :=
    law_news node sh cl ca pk wd (u32 _ wn) (u64 _ ww) A fs cap hn W hs hnm htab
  have h0k : DataW.Trod enc Tryd.prog W 0 (fun _ => true) true 43 (.agg #[.int .u32 node, .int .i64 sh, .int .i64 cl, .slice A fs.length cap, .int .i64 ca, .int .i64 pk, .int .u64 wd]) d0 p0 := ⟨fuel, hf⟩
  have hlt : ∀ x ∈ p0, x.block < W.heap.size := fun x hx => by simpa using hW'.lt x (by simpa using hx)
  refine hwalk.mono fun e W' ⟨he, hb⟩ => ?_
  subst he
  exact ⟨_, rfl, post_of_below (pa := p0) (pv := []) hW' (fun _ _ _ => trodAll_cons_mk (shut_bool Tryd.underlying4 _) trodAll_mk0)
    (fun sp hsp => trodAll_mk1 (WideElems.Trod_stays laidOut readableNews newsInTypes h0k (fun x hx => hb.same (hlt x hx)) (fun x hx => hsp x (by simpa using hx)))) (fun _ _ => rfl) (by simp)
    hb (ok_one (by kernel_rfl) rfl (okWide_bool_mk Tryd.underlying4 _))⟩

def zeroArg : Value := .agg #[.int .u32 0, .int .i64 0, .int .i64 0, .slice none 0 0, .int .i64 0, .int .i64 0, .int .u64 0]
def zeroData {H : Type} : DataW H := .agg [.lit (.int .u32 0), .agg [.lit (.int .i64 0), .lit (.int .i64 0), .nil, .lit (.int .i64 0), .lit (.int .i64 0), .lit (.int .u64 0)]]
noncomputable def laidWorld (os : Os) : World := World.laidAll Tryd.prog os Rows.sessionNewsRow.laid
theorem laid_met (os : Os) : laidMet Tryd.prog Rows.sessionNewsRow.laid ((laidWorld os).forCall (fun _ _ => 0) ⟨#[], #[zeroArg], []⟩).memory :=
  laidMet_laidAll _ (by kernel_rfl) (by kernel_rfl)
theorem reads (os : Os) {H : Type} (enc : TypeId × Value → H) : ∃ places, DataW.whole enc Tryd.prog ((laidWorld os).forCall (fun _ _ => 0) ⟨#[], #[zeroArg], []⟩).memory Tryd.f4.params.toList Rows.sessionNewsSpec.vars false #[zeroArg].toList 8 = some ([zeroData], [], places) :=
  ⟨[], by kernel_rfl⟩

theorem lifted (os : Os) (started : os.Started) (H : Type) (enc : TypeId × Value → H) (F : Stop.Interp) :
    ReturnsInHanded {} Tryd.checked os 4 .any ((OpenSpec.ofChange Rows.sessionNewsSpec).preRow enc Tryd.prog Tryd.f4 Rows.sessionNewsRow.domain false Rows.sessionNewsRow.laid) (((OpenSpec.ofChange Rows.sessionNewsSpec).at F).post enc Tryd.prog Tryd.f4 false true false false) := by
  obtain ⟨places, hx⟩ := reads os enc
  refine returnsInHanded_of_row (C := Tryd.checked) (s := OpenSpec.ofChange Rows.sessionNewsSpec) lawReplies.own started (by kernel_rfl) Tryd.func4
    (witness_row_at (enc := enc) (C := Tryd.checked) false (laidWorld os) #[zeroArg] (World.laidAll_os _ _ _) (by kernel_rfl) (by kernel_rfl) (by kernel_rfl)
      (OpenSpec.preRow_of_cond 8 hx (by kernel_rfl) (fun k hk => by cases hk) (by kernel_rfl) (laid_met os))) ?_
  intro W base args ds gs before hval hW _ _ hsz hL _ _
  exact contract H enc W base args ds gs before hval hW hsz hL

theorem said : Rows.SessionNewsSaid :=
  OpenClaim.holds_of_cond 4 Tryd.f4 rfl rfl rfl rfl rfl rfl rfl ⟨rfl, rfl, rfl, rfl, rfl⟩ rfl rfl rfl rfl rfl (by kernel_rfl) Tryd.func4 (by kernel_rfl)
    (of_decide_eq_true (by kernel_rfl)) (by unfold Func.isWrapper; first | (rw [if_pos (by decide +kernel)]; kernel_rfl) | (rw [if_neg (by decide +kernel)]; exact ⟨rfl, rfl⟩))
    (fun os started H enc _ F => by rw [OpenClaim.pre_eq_preRow]; exact lifted os started H enc F)

theorem plain (f : FuncId) (fn : Func) (hf : Tryd.pinned.checked.prog.funcNamed "tidemark/tidemarklaw16.SessionNews" = some f) (hfn : Tryd.pinned.checked.prog.funcs[f]? = some fn) :
    true = Tryd.pinned.checked.prog.looks [] ∧ ∀ (j : Nat) t, fn.params[j]? = some t → Tryd.pinned.checked.prog.wantsStandIn t = false := by
  obtain rfl : f = 4 := Option.some.inj ((show Tryd.prog.funcNamed "tidemark/tidemarklaw16.SessionNews" = some 4 by kernel_rfl).symm.trans hf) |>.symm
  obtain rfl : fn = Tryd.f4 := (Option.some.inj (Tryd.func4.symm.trans hfn)).symm
  refine ⟨by kernel_rfl, fun j t ht => ?_⟩
  rw [Tryd.params4] at ht
  obtain rfl : t = 43 := by simpa using Array.mem_of_getElem? ht
  exact (show Tryd.prog.wantsStandIn 43 = false by kernel_rfl)

/-- The whole statement's card of SessionNews. -/
theorem card : Rows.SessionNewsCardSaid :=
  Claim7.holds_tied_plain_at .later [] _ _ _ _ said (fun _ h => by cases h) (by kernel_rfl) (fun _ h => by cases h) sessionNews_row_tie rfl ⟨rfl, rfl⟩ (by kernel_rfl) rfl plain (by kernel_rfl)
end Go.Proofs.YtconkncoohcdfaaDoor.lawNews
