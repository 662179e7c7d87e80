/- What the law GateRequests computes: true, and what was there stays; where the operation's texts are at most a billion bytes each. -/
import Derived.Test.YtconkncoohcdfaaDoorReq5
namespace Go.Proofs.YtconkncoohcdfaaDoor
open Go.RowKit
set_option linter.unusedSimpArgs false
set_option linter.unusedVariables false
set_option maxRecDepth 100000
attribute [local go_sem ↓] Go.wp_at_zero Go.wp_at_succ
attribute [local go_sem high] ops_eqX

set_option maxHeartbeats 4000000 in
theorem law_requests (k : Int) (ro ao bk : Bool) (tk ky hi vl : ByteArray) (lm : Int) (h4 : tk.size ≤ 1000000000) (h5 : ky.size ≤ 1000000000) (h6 : hi.size ≤ 1000000000) (h7 : vl.size ≤ 1000000000)
    (hlm : -9223372036854775808 ≤ lm ∧ lm ≤ 9223372036854775807) (w : World) (hm : MaxIn w) (he : ErrsIn w) (htab : Pow w) :
    Calls Tryd.prog 5 #[.agg (opC k ro ao bk tk ky hi vl lm)] w fun e w' => e = .returned (.bool true) ∧ Below w.heap.size w w' := by
  have hq := fun W a b c => request_calls k ro ao bk tk ky hi vl lm h4 h5 h6 h7 hlm W a b c
  have hrq := fun W => rrequest_calls k ro ao bk tk ky hi vl lm h4 h5 h6 h7 hlm W
  obtain ⟨r, hr⟩ : ∃ r, r = requestP (opB k ro ao bk tk ky hi vl lm) := ⟨_, rfl⟩
  simp only [← hr] at hq hrq
  unfold opC at hq hrq ⊢
  have hpr := fun (s : ByteArray) W a b c => parse_calls s W a b c
  have hps : ∀ s, r = some s → parseP s = some (opB k ro ao bk tk ky hi vl lm) := fun s h => parse_spec.2 ⟨by rw [← hr]; exact h, by show lm < _; omega⟩
  have HQ := Lib.hid hq
  have HRQ := Lib.hid hrq
  have HPR := Lib.hid hpr
  have HPS := Lib.hid hps
  clear hq hrq hpr hps hr h4 h5 h6 h7 hlm
  have hcells : ∀ w1, Below (w.alloc (.cells #[.int .i64 k, .bool ro, .bool ao, .bool bk, .string tk, .string ky, .string hi, .string vl, .int .i64 lm] 27)).heap.size (w.alloc (.cells #[.int .i64 k, .bool ro, .bool ao, .bool bk, .string tk, .string ky, .string hi, .string vl, .int .i64 lm] 27)) w1 →
      Below w.heap.size w w1 ∧ w.heap.size < w1.heap.size ∧ w1.heap[w.heap.size]? = some (.cells #[.int .i64 k, .bool ro, .bool ao, .bool bk, .string tk, .string ky, .string hi, .string vl, .int .i64 lm] 27 (0, 0)) := by
    intro w1 hb1
    exact ⟨((Below.refl _ _).alloc (Nat.le_refl _) _).trans (hb1.mono (by simp)), Nat.lt_of_lt_of_le (by simp) hb1.size, (hb1.block w.heap.size (by simp)).trans (heap_alloc_new w _)⟩
  have HCL := Lib.hid hcells
  clear hcells
  have hB0 : Below w.heap.size w (w.alloc (.cells #[.int .i64 k, .bool ro, .bool ao, .bool bk, .string tk, .string ky, .string hi, .string vl, .int .i64 lm] 27)) := (Below.refl _ _).alloc (Nat.le_refl _) _
  cases r with
  | none =>
    go_enter Tryd.func5, Tryd.ntmps5
    go_wp2_with fail
    refine (HQ.out _ (hm.below hB0) (he.below hB0) (htab.below hB0)).mono ?_
    rintro e w1 ⟨rfl, hb1⟩
    obtain ⟨hbw, hz, g1⟩ := HCL.out w1 hb1
    simp only [reqV]
    go_wp2_with (refine wpList_load_row rfl _ _ rfl w.heap.size rfl 27 _ (0, 0) _ g1 Tryd.underlying27 rfl info_op ?_)
    refine (HRQ.out w1).mono ?_
    rintro e w2 ⟨rfl, hb2⟩
    simp only [reqV]
    go_wp2
    go_ret
    exact ⟨rfl, hbw.trans (hb2.mono hbw.size)⟩
  | some s =>
    go_enter Tryd.func5, Tryd.ntmps5
    go_wp2_with fail
    refine (HQ.out _ (hm.below hB0) (he.below hB0) (htab.below hB0)).mono ?_
    rintro e w1 ⟨rfl, hb1⟩
    obtain ⟨hbw, hz, g1⟩ := HCL.out w1 hb1
    simp only [reqV]
    obtain ⟨S, hS⟩ : ∃ S : ByteArray, S = ⟨s.toArray⟩ := ⟨_, rfl⟩
    rw [← hS]
    have HS := Lib.hid hS
    clear hS
    go_wp2_with (refine wpList_load_row rfl _ _ rfl w.heap.size rfl 27 _ (0, 0) _ g1 Tryd.underlying27 rfl info_op ?_)
    refine (HRQ.out w1).mono ?_
    rintro e w2 ⟨rfl, hb2⟩
    simp only [reqV]
    rw [← HS.out]
    have hbw2 := hbw.trans (hb2.mono hbw.size)
    have g2 := (hb2.block w.heap.size hz).trans g1
    have hz2 : w.heap.size < w2.heap.size := Nat.lt_of_lt_of_le hz hb2.size
    go_wp2_with fail
    refine (HPR.out S w2 (hm.below hbw2) (he.below hbw2) (htab.below hbw2)).mono ?_
    rintro e w3 ⟨rfl, hb3⟩
    have hbw3 := Lib.hid (hbw2.trans (hb3.mono hbw2.size))
    have g3 := (hb3.block w.heap.size hz2).trans g2
    have hz3 : w.heap.size < w3.heap.size := Nat.lt_of_lt_of_le hz2 hb3.size
    have g4 := fun x => (Below.heap_alloc w3 x w.heap.size hz3).trans g3
    have c0 := fun x => block_cell (g4 x) 0
    have c1 := fun x => block_cell (g4 x) 1
    have c2 := fun x => block_cell (g4 x) 2
    have c3 := fun x => block_cell (g4 x) 3
    have c4 := fun x => block_cell (g4 x) 4
    have c5 := fun x => block_cell (g4 x) 5
    have c6 := fun x => block_cell (g4 x) 6
    have c7 := fun x => block_cell (g4 x) 7
    have c8 := fun x => block_cell (g4 x) 8
    simp only [List.getElem?_toArray, List.getElem?_cons_zero, List.getElem?_cons_succ] at c0 c1 c2 c3 c4 c5 c6 c7 c8
    have hps2 : parseP S.data.toList = some (opB k ro ao bk tk ky hi vl lm) := HPS.out S.data.toList (by rw [HS.out])
    rw [hps2]
    clear g1 g2 g3 g4 hps2 hb1 hb2 hb3 hbw hbw2 hz hz2
    simp only [parseV, opL_opB, opC]
    go_wp2
    go_ret
    exact ⟨by simp, hbw3.out.alloc (by omega) _⟩
end Go.Proofs.YtconkncoohcdfaaDoor
