/- What a row's list of variables gives: the table of powers of ten, the table of the statuses' names. -/
import Derived.Test.YtconkncoohcdfaaDoorOpen3
import Derived.Lib.LaidTab
namespace Go.Proofs.YtconkncoohcdfaaDoor
open Go.RowKit Go.ChangeShapes Go.WideShapes Go.Deep
set_option linter.unusedSimpArgs false
set_option linter.unusedVariables false
set_option maxRecDepth 100000

theorem laid_vars {W : World} : ∀ {l : List (String × DataW Unit)} {ps : List MemPlace}, DataW.LaidVars Tryd.prog W l ps → ∀ x ∈ l,
    ∃ g t cs fuel p, Tryd.prog.globalNamed x.1 = some g ∧ (Tryd.prog.globals[g]?).map (·.type) = some t ∧ W.var? Tryd.prog x.1 = some cs ∧ DataW.trod (fun _ => ()) Tryd.prog W 0 (fun _ => true) false fuel t cs.toList = some (x.2, p)
  | [], _, _, x, hx => by cases hx
  | (n, d) :: r, ps, h, x, hx => by
    obtain ⟨g, t, cs, fuel, p, q, h1, h2, h3, h4, h5, _⟩ := h
    rcases List.mem_cons.1 hx with e | e
    · subst e
      exact ⟨g, t, cs, fuel, p, h1, h2, h3, h4⟩
    · exact laid_vars h5 x e

theorem laid_pow {W : World} {l : List (String × DataW Unit)} (h : laidMet Tryd.prog l W) (hm : ("internal/strconv.uint64pow10", Rows.laid_internal_strconv_uint64pow10) ∈ l) : Pow W := by
  obtain ⟨ps, hl, _⟩ := h
  obtain ⟨g, t, cs, fuel, p, hg, ht, hv, hd⟩ := laid_vars hl _ hm
  obtain rfl := Option.some.inj ((show Tryd.prog.globalNamed "internal/strconv.uint64pow10" = some 2 by kernel_rfl).symm.trans hg)
  obtain rfl := Option.some.inj ((show (Tryd.prog.globals[2]?).map (·.type) = some 173 by kernel_rfl).symm.trans ht)
  unfold Pow Lib.TabIs
  rw [hv, ← Lib.cells_of_tab Tryd.underlying173 Tryd.underlying29 (by kernel_rfl) (by kernel_rfl) (zs := Lib.pow10Tab) hd]

theorem nameCells_at : ∀ k, k < 15 → nameCells[2 * k]? = some (.int .i64 (codeAt k)) ∧ nameCells[2 * k + 1]? = some (.string ⟨(wordAt k).toArray⟩) := by
  intro k hk
  match k, hk with
  | 0, _ => exact ⟨rfl, rfl⟩
  | 1, _ => exact ⟨rfl, rfl⟩
  | 2, _ => exact ⟨rfl, rfl⟩
  | 3, _ => exact ⟨rfl, rfl⟩
  | 4, _ => exact ⟨rfl, rfl⟩
  | 5, _ => exact ⟨rfl, rfl⟩
  | 6, _ => exact ⟨rfl, rfl⟩
  | 7, _ => exact ⟨rfl, rfl⟩
  | 8, _ => exact ⟨rfl, rfl⟩
  | 9, _ => exact ⟨rfl, rfl⟩
  | 10, _ => exact ⟨rfl, rfl⟩
  | 11, _ => exact ⟨rfl, rfl⟩
  | 12, _ => exact ⟨rfl, rfl⟩
  | 13, _ => exact ⟨rfl, rfl⟩
  | 14, _ => exact ⟨rfl, rfl⟩
  | m + 15, h' => exact absurd h' (by omega)

theorem names_datum : (Rows.laid_tidemark_gate_names : DataW Unit) = .agg (nameList.map fun p => .agg [.lit (.int .i64 p.1), .lit (.string p.2)]) := rfl

theorem laid_names {W : World} {l : List (String × DataW Unit)} (h : laidMet Tryd.prog l W) (hm : ("tidemark/gate.names", Rows.laid_tidemark_gate_names) ∈ l) : NamesIn W := by
  obtain ⟨ps, hl, _⟩ := h
  obtain ⟨g, t, cs, fuel, p, hg, ht, hv, hd⟩ := laid_vars hl _ hm
  have hg0 : Tryd.prog.globalNamed "tidemark/gate.names" = some 0 := by kernel_rfl
  obtain rfl := Option.some.inj (hg0.symm.trans hg)
  obtain rfl := Option.some.inj ((show (Tryd.prog.globals[0]?).map (·.type) = some 66 by kernel_rfl).symm.trans ht)
  obtain ⟨xs, m, _, ex, hcl, hxl, hel⟩ := DataW.trod_array Tryd.underlying66 hd
  have c2 : Tryd.prog.cellsOf 65 = 2 := by kernel_rfl
  have c30 : Tryd.prog.cellsOf 66 = 30 := by kernel_rfl
  rw [c30] at hcl
  have hcl' : cs.size = 30 := by simpa using hcl
  have e3 : (xs.map (·.1)) = nameList.map fun p => .agg [.lit (.int .i64 p.1), .lit (.string p.2)] := by
    have := (Prod.mk.inj ex).1
    rw [names_datum] at this
    exact (DataW.agg.inj this).symm
  have each : ∀ i, i < 15 → cs[2 * i]? = some (.int .i64 (codeAt i)) ∧ cs[2 * i + 1]? = some (.string ⟨(wordAt i).toArray⟩) := by
    intro i hi
    have h1 := hel i hi
    rw [c2, List.getElem?_eq_getElem (by omega)] at h1
    have hlen : ((cs.toList.drop (i * 2)).take 2).length = 2 := by simp; omega
    obtain ⟨v0, v1, hvv⟩ := list2 _ hlen
    rw [hvv] at h1
    obtain ⟨zs, m2, _, hz, _, hl2, hf⟩ := DataW.trod_struct Tryd.underlying65 h1
    obtain ⟨z0, z1, rfl⟩ := list2 zs hl2
    have f0 : DataW.trod (fun _ => ()) Tryd.prog W 0 (fun _ => true) false m2 28 [v0] = some z0 := field_at hf 0 rfl rfl rfl cells28
    have f1 : DataW.trod (fun _ => ()) Tryd.prog W 0 (fun _ => true) false m2 9 [v1] = some z1 := field_at hf 1 rfl rfl rfl cells9
    obtain ⟨n, rfl, dn, _⟩ := cell_int Tryd.underlying28 f0
    obtain ⟨s, rfl, ds, _⟩ := cell_string Tryd.underlying9 f1
    have e4 : (xs.map (·.1))[i]? = (nameList.map fun p => (.agg [.lit (.int .i64 p.1), .lit (.string p.2)] : DataW Unit))[i]? := by rw [e3]
    have hnl : nameList.length = 15 := rfl
    rw [List.getElem?_map, List.getElem?_map, List.getElem?_eq_getElem (by omega : i < xs.length), List.getElem?_eq_getElem (by omega : i < nameList.length), hz] at e4
    simp only [Option.map_some, Option.some.injEq, DataW.agg.injEq, List.map_cons, List.map_nil, List.cons.injEq, dn, ds, DataW.lit.injEq, Lit.int.injEq, Lit.string.injEq, and_true, true_and] at e4
    obtain ⟨en, es⟩ := e4
    have k0 : cs[2 * i]? = some (.int .i64 n) := by
      have := congrArg (·[0]?) hvv
      simpa [List.getElem?_take, List.getElem?_drop, Nat.mul_comm] using this
    have k1 : cs[2 * i + 1]? = some (.string s) := by
      have := congrArg (·[1]?) hvv
      simpa [List.getElem?_take, List.getElem?_drop, Nat.mul_comm] using this
    have hc0 : codeAt i = nameList[i].1 := by rw [codeAt, List.getD_eq_getElem?_getD, List.getElem?_eq_getElem (by omega)]; rfl
    refine ⟨by rw [k0, hc0, en]; rfl, ?_⟩
    rw [k1]
    have : s = ⟨(wordAt i).toArray⟩ := by
      have hw : wordAt i = nameList[i].2 := by rw [wordAt, List.getD_eq_getElem?_getD, List.getElem?_eq_getElem (by omega)]; rfl
      have hs : s.data.toList = wordAt i := es.trans hw.symm
      rw [← hs]
    rw [this]
  have hcs : cs = nameCells := by
    apply Array.ext_getElem?
    intro j
    by_cases hj : j < 30
    · have hjj : j / 2 < 15 := by omega
      have h1 := each (j / 2) hjj
      have h2 := nameCells_at (j / 2) hjj
      rcases Nat.mod_two_eq_zero_or_one j with h | h
      · have e : j = 2 * (j / 2) := by omega
        rw [e, h1.1, h2.1]
      · have e : j = 2 * (j / 2) + 1 := by omega
        rw [e, h1.2, h2.2]
    · rw [Array.getElem?_eq_none (by omega), Array.getElem?_eq_none (by show 30 ≤ j; omega)]
  subst hcs
  unfold World.var? at hv
  rw [hg0] at hv
  simp only [Option.bind_some] at hv
  cases hh : W.heap[0]? with
  | none => simp [hh] at hv
  | some o =>
    cases o with
    | cells c t fr =>
      simp [hh] at hv
      subst hv
      exact ⟨t, fr, hh⟩
    | _ => simp [hh] at hv
end Go.Proofs.YtconkncoohcdfaaDoor
