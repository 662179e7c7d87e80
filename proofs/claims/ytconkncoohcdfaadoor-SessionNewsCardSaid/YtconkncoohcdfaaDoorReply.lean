/- The names of the statuses: what gate.Reply answers to a status that is not OK. Where the package's table of names lies as the text lays it. -/
import Derived.Test.YtconkncoohcdfaaDoorText
import Derived.Test.YtconkncoohcdfaaDoorWord
namespace Go.Proofs.YtconkncoohcdfaaDoor
open Go.RowKit
set_option linter.unusedSimpArgs false
set_option linter.unusedVariables false
set_option maxRecDepth 100000

def nameList : List (Int × List UInt8) := [(1, [97, 114, 103]), (11, [101, 120, 104, 97, 117, 115, 116, 101, 100]), (40, [116, 111, 107, 101, 110]), (60, [102, 117, 108, 108]), (90, [111, 108, 100]), (100, [99, 111, 110, 102, 108, 105, 99, 116]), (140, [98, 117, 115, 121]), (141, [115, 116, 97, 108, 101]), (142, [109, 97, 110, 121]), (160, [111, 112, 101, 110]), (161, [110, 111, 110, 101]), (162, [119, 97, 105, 116]), (163, [114, 101, 97, 100, 111, 110, 108, 121]), (164, [97, 98, 111, 114, 116, 101, 100]), (210, [114, 101, 113, 117, 101, 115, 116])]
def nameCells : Array Value := #[.int .i64 1, .string ⟨#[97, 114, 103]⟩, .int .i64 11, .string ⟨#[101, 120, 104, 97, 117, 115, 116, 101, 100]⟩, .int .i64 40, .string ⟨#[116, 111, 107, 101, 110]⟩, .int .i64 60, .string ⟨#[102, 117, 108, 108]⟩, .int .i64 90, .string ⟨#[111, 108, 100]⟩, .int .i64 100, .string ⟨#[99, 111, 110, 102, 108, 105, 99, 116]⟩, .int .i64 140, .string ⟨#[98, 117, 115, 121]⟩, .int .i64 141, .string ⟨#[115, 116, 97, 108, 101]⟩, .int .i64 142, .string ⟨#[109, 97, 110, 121]⟩, .int .i64 160, .string ⟨#[111, 112, 101, 110]⟩, .int .i64 161, .string ⟨#[110, 111, 110, 101]⟩, .int .i64 162, .string ⟨#[119, 97, 105, 116]⟩, .int .i64 163, .string ⟨#[114, 101, 97, 100, 111, 110, 108, 121]⟩, .int .i64 164, .string ⟨#[97, 98, 111, 114, 116, 101, 100]⟩, .int .i64 210, .string ⟨#[114, 101, 113, 117, 101, 115, 116]⟩]
def nameOf (st : Int) : List UInt8 := match nameList.find? (fun p => p.1 == st) with
  | some p => p.2
  | none => Lib.itoa st
def codeAt (k : Nat) : Int := (nameList.getD k (0, [])).1
def wordAt (k : Nat) : List UInt8 := (nameList.getD k (0, [])).2
def namesV : Value := .agg nameCells

theorem nameOf_at (st : Int) (k : Nat) (hk : k < 15) (h0 : ∀ j, j < k → codeAt j ≠ st) (h : codeAt k = st) : nameOf st = wordAt k := by
  have hl : nameList.length = 15 := rfl
  have hf : nameList.find? (fun p => p.1 == st) = some (nameList.getD k (0, [])) := by
    rw [List.find?_eq_some_iff_getElem]
    refine ⟨by simpa [codeAt] using h, k, by rw [hl]; exact hk, by simp [List.getD_eq_getElem?_getD, hl, hk], fun j hj => ?_⟩
    have := h0 j hj
    simpa [codeAt, List.getD_eq_getElem?_getD, hl, show j < 15 by omega] using this
  rw [nameOf, hf]
  rfl
theorem nameOf_none (st : Int) (h0 : ∀ j, j < 15 → codeAt j ≠ st) : nameOf st = Lib.itoa st := by
  have hl : nameList.length = 15 := rfl
  have hf : nameList.find? (fun p => p.1 == st) = none := by
    rw [List.find?_eq_none]
    intro x hx
    obtain ⟨j, hj, rfl⟩ := List.mem_iff_getElem.1 hx
    have := h0 j (by rw [hl] at hj; exact hj)
    simpa [codeAt, List.getD_eq_getElem?_getD, hl, show j < 15 by rw [hl] at hj; exact hj] using this
  rw [nameOf, hf]

theorem index_name0 (W : World) : (Instr.index 66 namesV (.int .i64 ((0 : Nat) : Int))).run Tryd.prog W = .ok (.agg #[.int .i64 (codeAt 0), .string ⟨(wordAt 0).toArray⟩]) W := by kernel_rfl
theorem index_name1 (W : World) : (Instr.index 66 namesV (.int .i64 ((1 : Nat) : Int))).run Tryd.prog W = .ok (.agg #[.int .i64 (codeAt 1), .string ⟨(wordAt 1).toArray⟩]) W := by kernel_rfl
theorem index_name2 (W : World) : (Instr.index 66 namesV (.int .i64 ((2 : Nat) : Int))).run Tryd.prog W = .ok (.agg #[.int .i64 (codeAt 2), .string ⟨(wordAt 2).toArray⟩]) W := by kernel_rfl
theorem index_name3 (W : World) : (Instr.index 66 namesV (.int .i64 ((3 : Nat) : Int))).run Tryd.prog W = .ok (.agg #[.int .i64 (codeAt 3), .string ⟨(wordAt 3).toArray⟩]) W := by kernel_rfl
theorem index_name4 (W : World) : (Instr.index 66 namesV (.int .i64 ((4 : Nat) : Int))).run Tryd.prog W = .ok (.agg #[.int .i64 (codeAt 4), .string ⟨(wordAt 4).toArray⟩]) W := by kernel_rfl
theorem index_name5 (W : World) : (Instr.index 66 namesV (.int .i64 ((5 : Nat) : Int))).run Tryd.prog W = .ok (.agg #[.int .i64 (codeAt 5), .string ⟨(wordAt 5).toArray⟩]) W := by kernel_rfl
theorem index_name6 (W : World) : (Instr.index 66 namesV (.int .i64 ((6 : Nat) : Int))).run Tryd.prog W = .ok (.agg #[.int .i64 (codeAt 6), .string ⟨(wordAt 6).toArray⟩]) W := by kernel_rfl
theorem index_name7 (W : World) : (Instr.index 66 namesV (.int .i64 ((7 : Nat) : Int))).run Tryd.prog W = .ok (.agg #[.int .i64 (codeAt 7), .string ⟨(wordAt 7).toArray⟩]) W := by kernel_rfl
theorem index_name8 (W : World) : (Instr.index 66 namesV (.int .i64 ((8 : Nat) : Int))).run Tryd.prog W = .ok (.agg #[.int .i64 (codeAt 8), .string ⟨(wordAt 8).toArray⟩]) W := by kernel_rfl
theorem index_name9 (W : World) : (Instr.index 66 namesV (.int .i64 ((9 : Nat) : Int))).run Tryd.prog W = .ok (.agg #[.int .i64 (codeAt 9), .string ⟨(wordAt 9).toArray⟩]) W := by kernel_rfl
theorem index_name10 (W : World) : (Instr.index 66 namesV (.int .i64 ((10 : Nat) : Int))).run Tryd.prog W = .ok (.agg #[.int .i64 (codeAt 10), .string ⟨(wordAt 10).toArray⟩]) W := by kernel_rfl
theorem index_name11 (W : World) : (Instr.index 66 namesV (.int .i64 ((11 : Nat) : Int))).run Tryd.prog W = .ok (.agg #[.int .i64 (codeAt 11), .string ⟨(wordAt 11).toArray⟩]) W := by kernel_rfl
theorem index_name12 (W : World) : (Instr.index 66 namesV (.int .i64 ((12 : Nat) : Int))).run Tryd.prog W = .ok (.agg #[.int .i64 (codeAt 12), .string ⟨(wordAt 12).toArray⟩]) W := by kernel_rfl
theorem index_name13 (W : World) : (Instr.index 66 namesV (.int .i64 ((13 : Nat) : Int))).run Tryd.prog W = .ok (.agg #[.int .i64 (codeAt 13), .string ⟨(wordAt 13).toArray⟩]) W := by kernel_rfl
theorem index_name14 (W : World) : (Instr.index 66 namesV (.int .i64 ((14 : Nat) : Int))).run Tryd.prog W = .ok (.agg #[.int .i64 (codeAt 14), .string ⟨(wordAt 14).toArray⟩]) W := by kernel_rfl
theorem index_names : ∀ (k : Nat) (hk : k < 15) (W : World), (Instr.index 66 namesV (.int .i64 (k : Int))).run Tryd.prog W = .ok (.agg #[.int .i64 (codeAt k), .string ⟨(wordAt k).toArray⟩]) W := by
  intro k hk W
  match k, hk with
  | 0, _ => exact index_name0 W
  | 1, _ => exact index_name1 W
  | 2, _ => exact index_name2 W
  | 3, _ => exact index_name3 W
  | 4, _ => exact index_name4 W
  | 5, _ => exact index_name5 W
  | 6, _ => exact index_name6 W
  | 7, _ => exact index_name7 W
  | 8, _ => exact index_name8 W
  | 9, _ => exact index_name9 W
  | 10, _ => exact index_name10 W
  | 11, _ => exact index_name11 W
  | 12, _ => exact index_name12 W
  | 13, _ => exact index_name13 W
  | 14, _ => exact index_name14 W
  | m + 15, h' => exact absurd h' (by omega)

/-- the table of names lies in the world -/
def NamesIn (w : World) : Prop := ∃ t fr, w.heap[0]? = some (.cells nameCells t fr)
theorem NamesIn.below {w w' : World} (h : NamesIn w) (hb : Below w.heap.size w w') : NamesIn w' := by
  obtain ⟨t, fr, h⟩ := h
  have hlt : 0 < w.heap.size := by
    rcases Nat.lt_or_ge 0 w.heap.size with h' | h'
    · exact h'
    · simp [Array.getElem?_eq_none h'] at h
  exact ⟨t, fr, by rw [hb.block _ hlt]; exact h⟩

theorem itoa_len (n : Int) (h0 : -9223372036854775808 ≤ n) (h1 : n ≤ 9223372036854775807) : (Lib.itoa n).length ≤ 21 := by
  by_cases h : n < 0
  · obtain ⟨u, rfl⟩ : ∃ u : Nat, n = -(u : Int) := ⟨n.natAbs, by omega⟩
    rw [Lib.itoa_neg u (by omega)]
    have := dec_len u (by omega)
    simp
    omega
  · obtain ⟨u, rfl⟩ : ∃ u : Nat, n = u := ⟨n.toNat, by omega⟩
    rw [Lib.itoa_nonneg]
    have := dec_len u (by omega)
    omega

theorem itoa_calls (n : Int) (h0 : -9223372036854775808 ≤ n) (h1 : n ≤ 9223372036854775807) (w : World) (htab : Pow w) :
    Calls Tryd.prog 21 #[.int .i64 n] w fun e w' => e = .returned (.string ⟨(Lib.itoa n).toArray⟩) ∧ Below w.heap.size w w' :=
  (Tryd.strconv_Itoa n h0 h1 w htab).mono fun _ _ ⟨he, k, os, hw⟩ => ⟨he, by rw [hw]; exact Lib.below_grow _ w (Nat.le_refl _) k os⟩

theorem word_small : ∀ (n : Nat) (h : n < 15), (⟨(wordAt n).toArray⟩ : ByteArray).size ≤ 20 := by decide

def errL (st : Int) : List UInt8 := [101, 114, 114, 111, 114, 32] ++ nameOf st

set_option maxHeartbeats 2000000 in
theorem reply_err (cl tc ts k ro ao bk tk ky hi vl lm aw al an pv tok : Value) (st : Int) (hst : st ≠ 0) (h0 : -9223372036854775808 ≤ st) (h1 : st ≤ 9223372036854775807) (w : World) (htab : Pow w) (hnm : NamesIn w)
    (hcells : ∀ v ∈ [cl, tc, ts, k, ro, ao, bk, tk, ky, hi, vl, lm, aw, al, an, pv, tok], v.oneCell' = true) :
    Calls Tryd.prog 7 #[.agg #[cl, tc, ts, k, ro, ao, bk, tk, ky, hi, vl, lm, .int .i64 st, aw, al, an, pv, tok]] w fun e w' => e = .returned (.string ⟨(errL st).toArray⟩) ∧ Below w.heap.size w w' := by
  have hst' : (st != 0) = true := by simpa using hst
  obtain ⟨tn, fr, hn⟩ := hnm
  have hlt0 : 0 < w.heap.size := by
    rcases Nat.lt_or_ge 0 w.heap.size with h' | h'
    · exact h'
    · simp [Array.getElem?_eq_none h'] at hn
  have HN := Lib.hid hn
  clear hn
  have hlen := itoa_len st h0 h1
  go_enter Tryd.func7, Tryd.ntmps7
  go_wp2_with (refine wpList_load_row rfl _ _ rfl 0 rfl tn nameCells fr _ (by rw [Below.heap_alloc _ _ _ hlt0]; exact HN.out) Tryd.underlying66 rfl (by kernel_rfl) ?_)
  rw [show Value.agg nameCells = namesV from rfl]
  go_wp2_with fail
  go_loopw [12] (fun i W => ∃ n, n ≤ 15 ∧ i = .int .i64 (n : Nat) ∧ Hid (∀ j, j < n → codeAt j ≠ st) ∧ Below w.heap.size w W ∧ W.cell? ⟨w.heap.size, 12, none⟩ = some (.int .i64 st) ∧ w.heap.size < W.heap.size) (fun i _ => 15 - (intOf i).toNat)
  case atStart => exact ⟨0, by omega, rfl, Lib.hid (fun j hj => by omega), (Below.refl _ _).alloc (Nat.le_refl _) _, by simp, by simp⟩
  case round =>
    obtain ⟨n, hn, rfl, HJ, hb, hc, hz⟩ := hrel
    by_cases hlt : n < 15
    · have hix := index_names n hlt
      obtain ⟨c, hcd⟩ : ∃ c, c = codeAt n := ⟨_, rfl⟩
      obtain ⟨s, hsd⟩ : ∃ s : ByteArray, s = ⟨(wordAt n).toArray⟩ := ⟨_, rfl⟩
      rw [← hcd, ← hsd] at hix
      have HC := Lib.hid hcd
      have HS := Lib.hid hsd
      clear hcd hsd
      have hss : s.size ≤ 20 := by rw [HS.out]; exact word_small n hlt
      by_cases he : c = st
      · subst he
        have het : (c == c) = true := by simp
        go_wp2
        go_ret
        refine ⟨?_, hb.alloc (by omega) _⟩
        · rw [errL, nameOf_at c n hlt HJ.out HC.out.symm, HS.out]
          show Ending.returned (.string (⟨[101, 114, 114, 111, 114, 32].toArray⟩ ++ ⟨(wordAt n).toArray⟩)) = _
          rw [ByteArray.mk_append_mk]
      · have het : (c == st) = false := by simpa using he
        go_wp2
        go_roundw
        case rel =>
          refine ⟨n + 1, by omega, by go_num, Lib.hid (fun j hj => ?_), ?_, ?_, by simp; omega⟩
          · rcases Nat.lt_or_ge j n with h | h
            · exact HJ.out j h
            · obtain rfl : j = n := by omega
              rw [← HC.out]
              exact he
          · exact hb.alloc (by omega) _
          · first | (simp; done) | (rw [(Below.refl wr.heap.size wr |>.alloc (Nat.le_refl _) _).cell (by simpa using hz)]; exact hc)
        case measure => simp [intOf]; omega
    · obtain rfl : n = 15 := by omega
      go_wp2_with (go_at_call 21; refine (itoa_calls st h0 h1 _ (htab.below ?hbb)).mono ?_)
      case hbb => exact hb
      rintro e w1 ⟨rfl, hb1⟩
      go_wp2
      go_ret
      refine ⟨?_, hb.trans (hb1.mono (by omega))⟩
      rw [errL, nameOf_none st HJ.out]
      show Ending.returned (.string (⟨[101, 114, 114, 111, 114, 32].toArray⟩ ++ ⟨(Lib.itoa st).toArray⟩)) = _
      rw [ByteArray.mk_append_mk]
end Go.Proofs.YtconkncoohcdfaaDoor
