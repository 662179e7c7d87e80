/- What the document's Request answers; new blocks alone. -/
import Derived.Test.YtconkncoohcdfaaDoorReq3
namespace Go.Proofs.YtconkncoohcdfaaDoor
open Go.RowKit
set_option linter.unusedSimpArgs false
set_option linter.unusedVariables false
set_option maxRecDepth 100000
attribute [local go_sem ↓] Go.wp_at_zero Go.wp_at_succ

theorem ops_eqX (d : Nat) (w : World) (x0 y0 : Int) (x1 y1 : Bool) (x2 y2 : Bool) (x3 y3 : Bool) (x4 y4 : ByteArray) (x5 y5 : ByteArray) (x6 y6 : ByteArray) (x7 y7 : ByteArray) (x8 y8 : Int) :
    (Op.equalIn (d + 2) 27 (.agg #[.int .i64 x0, .bool x1, .bool x2, .bool x3, .string x4, .string x5, .string x6, .string x7, .int .i64 x8]) (.agg #[.int .i64 y0, .bool y1, .bool y2, .bool y3, .string y4, .string y5, .string y6, .string y7, .int .i64 y8])).run Tryd.prog w = .ok (decide (opB x0 x1 x2 x3 x4 x5 x6 x7 x8 = opB y0 y1 y2 y3 y4 y5 y6 y7 y8)) w :=
  ops_eq d w x0 y0 x1 y1 x2 y2 x3 y3 x4 y4 x5 y5 x6 y6 x7 y7 x8 y8
attribute [local go_sem high] ops_eqX

/-- what a Request returns -/
def reqV (r : Option (List UInt8)) : Value := match r with
  | some s => .tuple #[.string ⟨s.toArray⟩, .int .i64 0]
  | none => .tuple #[.string ⟨#[]⟩, .int .i64 210]

theorem lineP_len (k : Int) (ro ao bk : Bool) (tk ky hi vl : ByteArray) (lm : Int) (h4 : tk.size ≤ 1000000000) (h5 : ky.size ≤ 1000000000) (h6 : hi.size ≤ 1000000000) (h7 : vl.size ≤ 1000000000)
    (hlm : -9223372036854775808 ≤ lm ∧ lm ≤ 9223372036854775807) : (lineP (opB k ro ao bk tk ky hi vl lm)).length ≤ 140737488355328 := by
  have w4 := wordB_size tk
  have w5 := wordB_size ky
  have w6 := wordB_size hi
  have w7 := wordB_size vl
  have w8 := dec_len lm.toNat (by omega)
  unfold lineP opB
  simp only
  repeat' split
  all_goals
    simp only [List.length_append, List.length_cons, List.length_nil]
    try omega

set_option maxHeartbeats 4000000 in
theorem rrequest_calls (k : Int) (ro ao bk : Bool) (tk ky hi vl : ByteArray) (lm : Int) (h4 : tk.size ≤ 1000000000) (h5 : ky.size ≤ 1000000000) (h6 : hi.size ≤ 1000000000) (h7 : vl.size ≤ 1000000000)
    (hlm : -9223372036854775808 ≤ lm ∧ lm ≤ 9223372036854775807) (w : World) :
    Calls Tryd.prog 18 #[.agg (opC k ro ao bk tk ky hi vl lm)] w fun e w' => e = .returned (reqV (requestP (opB k ro ao bk tk ky hi vl lm))) ∧ Below w.heap.size w w' := by
  obtain ⟨o, ho⟩ : ∃ o, o = opB k ro ao bk tk ky hi vl lm := ⟨_, rfl⟩
  obtain ⟨k', ro', ao', bk', tk', ky', hi', vl', lm', hbc, hbo⟩ := bareC_op k ro ao bk tk ky hi vl lm
  have hll := lineP_len k ro ao bk tk ky hi vl lm h4 h5 h6 h7 hlm
  have hline := fun W => line_calls k ro ao bk tk ky hi vl lm h4 h5 h6 h7 hlm W
  have hbare := fun W => bare_calls k ro ao bk tk ky hi vl lm W
  simp only [hbc] at hbare
  unfold opC at hbare hline ⊢
  rw [← ho] at hll hline hbo ⊢
  obtain ⟨L, hL⟩ : ∃ L : ByteArray, L = ⟨(lineP o).toArray⟩ := ⟨_, rfl⟩
  simp only [← hL] at hline
  have HLS := Lib.hid (show L.size = (lineP o).length by rw [hL]; rfl)
  have hLb : L.size ≤ 140737488355328 := by rw [HLS.out]; exact hll
  have HL := Lib.hid hline
  have HB := Lib.hid hbare
  have HBC := Lib.hid hbc
  have HLE := Lib.hid hL
  have HO := Lib.hid ho
  have HBO := Lib.hid hbo
  clear hline hbare hbc hL ho hbo
  have hsplit : ∀ (E : Bool) (hE : decide (opB k ro ao bk tk ky hi vl lm = opB k' ro' ao' bk' tk' ky' hi' vl' lm') = E) (M : Bool) (hM : L.toList.isEmpty = M) (G : Bool) (hG : decide ((400 : Int) < (L.size : Int)) = G),
      Calls Tryd.prog 18 #[.agg #[.int .i64 k, .bool ro, .bool ao, .bool bk, .string tk, .string ky, .string hi, .string vl, .int .i64 lm]] w fun e w' => e = .returned (if !E || (M || G) then .tuple #[.string ⟨#[]⟩, .int .i64 210] else .tuple #[.string L, .int .i64 0]) ∧ Below w.heap.size w w' := by
    intro E hE M hM G hG
    have htail : ∀ w1, Below (w.alloc (.cells #[.int .i64 k, .bool ro, .bool ao, .bool bk, .string tk, .string ky, .string hi, .string vl, .int .i64 lm] 27)).heap.size (w.alloc (.cells #[.int .i64 k, .bool ro, .bool ao, .bool bk, .string tk, .string ky, .string hi, .string vl, .int .i64 lm] 27)) w1 →
        Below w.heap.size w w1 ∧ (∀ p, (aged w1 p).cell? ⟨w.heap.size, 0, none⟩ = some (.int .i64 k)) ∧ (∀ p, (aged w1 p).cell? ⟨w.heap.size, 1, none⟩ = some (.bool ro)) ∧ (∀ p, (aged w1 p).cell? ⟨w.heap.size, 2, none⟩ = some (.bool ao)) ∧ (∀ p, (aged w1 p).cell? ⟨w.heap.size, 3, none⟩ = some (.bool bk)) ∧ (∀ p, (aged w1 p).cell? ⟨w.heap.size, 4, none⟩ = some (.string tk)) ∧ (∀ p, (aged w1 p).cell? ⟨w.heap.size, 5, none⟩ = some (.string ky)) ∧ (∀ p, (aged w1 p).cell? ⟨w.heap.size, 6, none⟩ = some (.string hi)) ∧ (∀ p, (aged w1 p).cell? ⟨w.heap.size, 7, none⟩ = some (.string vl)) ∧ (∀ p, (aged w1 p).cell? ⟨w.heap.size, 8, none⟩ = some (.int .i64 lm)) := by
      intro w1 hb1
      refine ⟨((Below.refl _ _).alloc (Nat.le_refl _) _).trans (hb1.mono (by simp)), ?_, ?_, ?_, ?_, ?_, ?_, ?_, ?_, ?_⟩
      all_goals exact cell_aged (cell_of_below hb1 (by simp))
    cases E
    · go_enter Tryd.func18, Tryd.ntmps18
      go_wp2_with (go_at_call 39; refine (HL.out _).mono ?_; rintro e w1 ⟨rfl, hb1⟩)
      obtain ⟨hB, d0, d1, d2, d3, d4, d5, d6, d7, d8⟩ := htail w1 hb1
      clear hb1 htail
      refine wp_region_aged (by kernel_rfl) (by kernel_rfl) ?_
      repeat (go_big_quiet_step ((exact calls_aged (HB.out _))))
      refine wpQuiet_nil ?_
      rintro _ ⟨p, rfl⟩
      go_wp2
      go_ret2
      exact ⟨rfl, hB.trans ((aged_below w1 p).mono (by have := hB.size; omega))⟩
    cases M
    · cases G
      · go_enter Tryd.func18, Tryd.ntmps18
        go_wp2_with (go_at_call 39; refine (HL.out _).mono ?_; rintro e w1 ⟨rfl, hb1⟩)
        obtain ⟨hB, d0, d1, d2, d3, d4, d5, d6, d7, d8⟩ := htail w1 hb1
        clear hb1 htail
        refine wp_region_aged (by kernel_rfl) (by kernel_rfl) ?_
        repeat (go_big_quiet_step ((exact calls_aged (HB.out _))))
        refine wpQuiet_nil ?_
        rintro _ ⟨p, rfl⟩
        go_wp2
        go_ret2
        exact ⟨rfl, hB.trans ((aged_below w1 p).mono (by have := hB.size; omega))⟩
      · go_enter Tryd.func18, Tryd.ntmps18
        go_wp2_with (go_at_call 39; refine (HL.out _).mono ?_; rintro e w1 ⟨rfl, hb1⟩)
        obtain ⟨hB, d0, d1, d2, d3, d4, d5, d6, d7, d8⟩ := htail w1 hb1
        clear hb1 htail
        refine wp_region_aged (by kernel_rfl) (by kernel_rfl) ?_
        repeat (go_big_quiet_step ((exact calls_aged (HB.out _))))
        refine wpQuiet_nil ?_
        rintro _ ⟨p, rfl⟩
        go_wp2
        go_ret2
        exact ⟨rfl, hB.trans ((aged_below w1 p).mono (by have := hB.size; omega))⟩
    · go_enter Tryd.func18, Tryd.ntmps18
      go_wp2_with (go_at_call 39; refine (HL.out _).mono ?_; rintro e w1 ⟨rfl, hb1⟩)
      obtain ⟨hB, d0, d1, d2, d3, d4, d5, d6, d7, d8⟩ := htail w1 hb1
      clear hb1 htail
      refine wp_region_aged (by kernel_rfl) (by kernel_rfl) ?_
      repeat (go_big_quiet_step ((exact calls_aged (HB.out _))))
      refine wpQuiet_nil ?_
      rintro _ ⟨p, rfl⟩
      go_wp2
      go_ret2
      exact ⟨rfl, hB.trans ((aged_below w1 p).mono (by have := hB.size; omega))⟩
  have hd := hsplit _ rfl _ rfl _ rfl
  refine hd.mono ?_
  rintro e w' ⟨rfl, hb⟩
  refine ⟨?_, hb⟩
  congr 1
  unfold requestP
  have hO := HO.out
  have hBO := HBO.out
  have hLe : L.toList.isEmpty = decide (lineP o = []) := by
    rw [HLE.out, ByteArray.toList_eq]
    simp only [List.toList_toArray]
    cases lineP o <;> simp
  have hLg : decide ((400 : Int) < (L.size : Int)) = decide (big (lineP o).length) := by
    rw [HLS.out]
    unfold big
    exact decide_eq_decide.2 ⟨fun h => by omega, fun h => by omega⟩
  rw [← hO, hBO, hLe, hLg]
  by_cases c1 : o = bareP o
  · by_cases c2 : lineP o = []
    · rw [if_pos (by simp [c2]), if_pos (.inr (.inl c2))]
      rfl
    · by_cases c3 : big (lineP o).length
      · rw [if_pos (by simp [c3]), if_pos (.inr (.inr c3))]
        rfl
      · rw [if_neg (by simp [c2, c3, ← c1]), if_neg (fun h => h.elim (fun h => h c1) (fun h => h.elim c2 c3)), HLE.out]
        rfl
  · rw [if_pos (by simp [c1]), if_pos (.inl c1)]
    rfl
end Go.Proofs.YtconkncoohcdfaaDoor
