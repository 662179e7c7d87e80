/- What gate.written writes and what the document's line is, of any operation whose texts are at most a billion bytes each; new blocks alone. -/
import Derived.Test.YtconkncoohcdfaaDoorPlain2
namespace Go.Proofs.YtconkncoohcdfaaDoor
open Go.RowKit
set_option linter.unusedSimpArgs false
set_option linter.unusedVariables false
set_option maxRecDepth 100000
attribute [local go_sem ↓] Go.wp_at_zero Go.wp_at_succ

def opC (k : Int) (ro ao bk : Bool) (tk ky hi vl : ByteArray) (lm : Int) : Array Value := #[.int .i64 k, .bool ro, .bool ao, .bool bk, .string tk, .string ky, .string hi, .string vl, .int .i64 lm]
def opB (k : Int) (ro ao bk : Bool) (tk ky hi vl : ByteArray) (lm : Int) : OpP := ⟨k, ro, ao, bk, tk.data.toList, ky.data.toList, hi.data.toList, vl.data.toList, lm⟩

theorem wordB_size (s : ByteArray) : (wordB s.data.toList).length ≤ 3 * s.size + 1 := by
  have h := wordB_len s.data.toList
  simpa using h

set_option maxHeartbeats 2000000 in
theorem written_begin (ro ao bk : Bool) (tk ky hi vl : ByteArray) (lm : Int) (h4 : tk.size ≤ 1000000000) (w : World) :
    Calls Tryd.prog 38 #[.agg (opC 1 ro ao bk tk ky hi vl lm)] w fun e w' => e = .returned (.string ⟨(writtenP (opB 1 ro ao bk tk ky hi vl lm)).toArray⟩) ∧ Below w.heap.size w w' := by
  have l4 := wordB_size tk
  unfold opC
  cases ao
  · cases ro
    · go_enter Tryd.func38, Tryd.ntmps38
      go_wp2_with (go_at_call 24; refine (word_calls tk _ (by omega)).mono ?_; rintro e w1 ⟨rfl, hb1⟩)
      go_ret
      refine ⟨?_, ((Below.refl w.heap.size w).alloc (Nat.le_refl _) _).trans (hb1.mono (by simp))⟩
      show Ending.returned (.string ((⟨(vBegin ++ [32] ++ vRw ++ [32]).toArray⟩ : ByteArray) ++ ⟨(wordB tk.data.toList).toArray⟩)) = _
      rw [ByteArray.mk_append_mk]
      simp [writtenP, opB]
    · go_enter Tryd.func38, Tryd.ntmps38
      go_wp2_with (go_at_call 24; refine (word_calls tk _ (by omega)).mono ?_; rintro e w1 ⟨rfl, hb1⟩)
      go_ret
      refine ⟨?_, ((Below.refl w.heap.size w).alloc (Nat.le_refl _) _).trans (hb1.mono (by simp))⟩
      show Ending.returned (.string ((⟨(vBegin ++ [32] ++ vRo ++ [32]).toArray⟩ : ByteArray) ++ ⟨(wordB tk.data.toList).toArray⟩)) = _
      rw [ByteArray.mk_append_mk]
      simp [writtenP, opB]
  · go_enter Tryd.func38, Tryd.ntmps38
    go_wp2_with (go_at_call 24; refine (word_calls tk _ (by omega)).mono ?_; rintro e w1 ⟨rfl, hb1⟩)
    go_ret
    refine ⟨?_, ((Below.refl w.heap.size w).alloc (Nat.le_refl _) _).trans (hb1.mono (by simp))⟩
    show Ending.returned (.string ((⟨(vBegin ++ [32] ++ vAt ++ [32]).toArray⟩ : ByteArray) ++ ⟨(wordB tk.data.toList).toArray⟩)) = _
    rw [ByteArray.mk_append_mk]
    simp [writtenP, opB]

set_option maxHeartbeats 2000000 in
theorem written_get (ro ao bk : Bool) (tk ky hi vl : ByteArray) (lm : Int) (h5 : ky.size ≤ 1000000000) (w : World) :
    Calls Tryd.prog 38 #[.agg (opC 2 ro ao bk tk ky hi vl lm)] w fun e w' => e = .returned (.string ⟨(writtenP (opB 2 ro ao bk tk ky hi vl lm)).toArray⟩) ∧ Below w.heap.size w w' := by
  have l4 := wordB_size ky
  unfold opC
  go_enter Tryd.func38, Tryd.ntmps38
  go_wp2_with (go_at_call 24; refine (word_calls ky _ (by omega)).mono ?_; rintro e w1 ⟨rfl, hb1⟩)
  go_ret
  refine ⟨?_, ((Below.refl w.heap.size w).alloc (Nat.le_refl _) _).trans (hb1.mono (by simp))⟩
  show Ending.returned (.string ((⟨(vGet ++ [32]).toArray⟩ : ByteArray) ++ ⟨(wordB ky.data.toList).toArray⟩)) = _
  rw [ByteArray.mk_append_mk]
  simp [writtenP, opB]

set_option maxHeartbeats 2000000 in
theorem written_del (ro ao bk : Bool) (tk ky hi vl : ByteArray) (lm : Int) (h5 : ky.size ≤ 1000000000) (w : World) :
    Calls Tryd.prog 38 #[.agg (opC 5 ro ao bk tk ky hi vl lm)] w fun e w' => e = .returned (.string ⟨(writtenP (opB 5 ro ao bk tk ky hi vl lm)).toArray⟩) ∧ Below w.heap.size w w' := by
  have l4 := wordB_size ky
  unfold opC
  go_enter Tryd.func38, Tryd.ntmps38
  go_wp2_with (go_at_call 24; refine (word_calls ky _ (by omega)).mono ?_; rintro e w1 ⟨rfl, hb1⟩)
  go_ret
  refine ⟨?_, ((Below.refl w.heap.size w).alloc (Nat.le_refl _) _).trans (hb1.mono (by simp))⟩
  show Ending.returned (.string ((⟨(vDel ++ [32]).toArray⟩ : ByteArray) ++ ⟨(wordB ky.data.toList).toArray⟩)) = _
  rw [ByteArray.mk_append_mk]
  simp [writtenP, opB]

set_option maxHeartbeats 2000000 in
theorem written_put (ro ao bk : Bool) (tk ky hi vl : ByteArray) (lm : Int) (h5 : ky.size ≤ 1000000000) (h7 : vl.size ≤ 1000000000) (w : World) :
    Calls Tryd.prog 38 #[.agg (opC 4 ro ao bk tk ky hi vl lm)] w fun e w' => e = .returned (.string ⟨(writtenP (opB 4 ro ao bk tk ky hi vl lm)).toArray⟩) ∧ Below w.heap.size w w' := by
  have l4 := wordB_size ky
  have l5 := wordB_size vl
  have n4 : 3 * ky.size ≤ 140737488355328 := by omega
  have n5 : 3 * vl.size ≤ 140737488355328 := by omega
  unfold opC
  go_enter Tryd.func38, Tryd.ntmps38
  go_wp2
  obtain ⟨W, hW⟩ : ∃ W, W = w.alloc (.cells #[.int .i64 4, .bool ro, .bool ao, .bool bk, .string tk, .string ky, .string hi, .string vl, .int .i64 lm] 27) := ⟨_, rfl⟩
  have d5 := cell_aged (show W.cell? ⟨w.heap.size, 5, none⟩ = some (.string ky) by rw [hW]; simp)
  have d7 := cell_aged (show W.cell? ⟨w.heap.size, 7, none⟩ = some (.string vl) by rw [hW]; simp)
  have hB : Below w.heap.size w W := by rw [hW]; exact (Below.refl _ _).alloc (Nat.le_refl _) _
  rw [← hW]
  clear hW
  refine wp_region_aged (by kernel_rfl) (by kernel_rfl) ?_
  repeat (go_big_quiet_step ((exact calls_aged (word_calls _ _ (by first | exact n4 | exact n5)))))
  refine wpQuiet_nil ?_
  rintro _ ⟨p, rfl⟩
  go_wp2
  go_ret
  refine ⟨?_, hB.trans ((aged_below W p).mono (by have := hB.size; omega))⟩
  have e : writtenP (opB 4 ro ao bk tk ky hi vl lm) = (vPut ++ [32]) ++ wordB ky.data.toList ++ [32] ++ wordB vl.data.toList := by simp [writtenP, opB]
  rw [e]
  simp only [← ByteArray.mk_append_mk]
  rfl

set_option maxHeartbeats 2000000 in
theorem written_scan (ro ao bk : Bool) (tk ky hi vl : ByteArray) (lm : Int) (h5 : ky.size ≤ 1000000000) (h6 : hi.size ≤ 1000000000) (hlm : -9223372036854775808 ≤ lm ∧ lm ≤ 9223372036854775807) (w : World) (htab : Pow w) :
    Calls Tryd.prog 38 #[.agg (opC 3 ro ao bk tk ky hi vl lm)] w fun e w' => e = .returned (.string ⟨(writtenP (opB 3 ro ao bk tk ky hi vl lm)).toArray⟩) ∧ Below w.heap.size w w' := by
  have l4 := wordB_size ky
  have l5 := wordB_size hi
  have l6 := itoa_len lm hlm.1 hlm.2
  have n4 : 3 * ky.size ≤ 140737488355328 := by omega
  have n5 : 3 * hi.size ≤ 140737488355328 := by omega
  unfold opC
  cases bk
  all_goals
    go_enter Tryd.func38, Tryd.ntmps38
    go_wp2
  · obtain ⟨W, hW⟩ : ∃ W, W = w.alloc (.cells #[.int .i64 3, .bool ro, .bool ao, .bool false, .string tk, .string ky, .string hi, .string vl, .int .i64 lm] 27) := ⟨_, rfl⟩
    have d5 := cell_aged (show W.cell? ⟨w.heap.size, 5, none⟩ = some (.string ky) by rw [hW]; simp)
    have d6 := cell_aged (show W.cell? ⟨w.heap.size, 6, none⟩ = some (.string hi) by rw [hW]; simp)
    have d8 := cell_aged (show W.cell? ⟨w.heap.size, 8, none⟩ = some (.int .i64 lm) by rw [hW]; simp)
    have hB : Below w.heap.size w W := by rw [hW]; exact (Below.refl _ _).alloc (Nat.le_refl _) _
    have hPw : Pow W := htab.below hB
    rw [← hW]
    clear hW
    refine wp_region_aged (by kernel_rfl) (by kernel_rfl) ?_
    repeat (go_big_quiet_step ((first
      | exact calls_aged (word_calls _ _ (by first | exact n4 | exact n5))
      | exact calls_aged (itoa_calls lm hlm.1 hlm.2 _ (hPw.below (aged_below _ _))))))
    refine wpQuiet_nil ?_
    rintro _ ⟨p, rfl⟩
    go_wp2
    go_ret
    refine ⟨?_, hB.trans ((aged_below W p).mono (by have := hB.size; omega))⟩
    have e : writtenP (opB 3 ro ao false tk ky hi vl lm) = (vScan ++ [32]) ++ wordB ky.data.toList ++ [32] ++ wordB hi.data.toList ++ [32] ++ Lib.itoa lm := by simp [writtenP, opB]
    rw [e]
    simp only [← ByteArray.mk_append_mk]
    rfl
  · obtain ⟨W, hW⟩ : ∃ W, W = w.alloc (.cells #[.int .i64 3, .bool ro, .bool ao, .bool true, .string tk, .string ky, .string hi, .string vl, .int .i64 lm] 27) := ⟨_, rfl⟩
    have d5 := cell_aged (show W.cell? ⟨w.heap.size, 5, none⟩ = some (.string ky) by rw [hW]; simp)
    have d6 := cell_aged (show W.cell? ⟨w.heap.size, 6, none⟩ = some (.string hi) by rw [hW]; simp)
    have d8 := cell_aged (show W.cell? ⟨w.heap.size, 8, none⟩ = some (.int .i64 lm) by rw [hW]; simp)
    have hB : Below w.heap.size w W := by rw [hW]; exact (Below.refl _ _).alloc (Nat.le_refl _) _
    have hPw : Pow W := htab.below hB
    rw [← hW]
    clear hW
    refine wp_region_aged (by kernel_rfl) (by kernel_rfl) ?_
    repeat (go_big_quiet_step ((first
      | exact calls_aged (word_calls _ _ (by first | exact n4 | exact n5))
      | exact calls_aged (itoa_calls lm hlm.1 hlm.2 _ (hPw.below (aged_below _ _))))))
    refine wpQuiet_nil ?_
    rintro _ ⟨p, rfl⟩
    go_wp2
    go_ret
    refine ⟨?_, hB.trans ((aged_below W p).mono (by have := hB.size; omega))⟩
    have e : writtenP (opB 3 ro ao true tk ky hi vl lm) = (vRscan ++ [32]) ++ wordB ky.data.toList ++ [32] ++ wordB hi.data.toList ++ [32] ++ Lib.itoa lm := by simp [writtenP, opB]
    rw [e]
    simp only [← ByteArray.mk_append_mk]
    rfl

set_option maxHeartbeats 2000000 in
theorem written_other (k : Int) (ro ao bk : Bool) (tk ky hi vl : ByteArray) (lm : Int) (h1 : k ≠ 1) (h2 : k ≠ 2) (h3 : k ≠ 3) (h4 : k ≠ 4) (h5 : k ≠ 5) (w : World) :
    Calls Tryd.prog 38 #[.agg (opC k ro ao bk tk ky hi vl lm)] w fun e w' => e = .returned (.string ⟨(writtenP (opB k ro ao bk tk ky hi vl lm)).toArray⟩) ∧ Below w.heap.size w w' := by
  have k1 : (k == 1) = false := by simpa using h1
  have k2 : (k == 2) = false := by simpa using h2
  have k3 : (k == 3) = false := by simpa using h3
  have k4 : (k == 4) = false := by simpa using h4
  have k5 : (k == 5) = false := by simpa using h5
  by_cases h6 : k = 6
  · subst h6
    unfold opC
    go_enter Tryd.func38, Tryd.ntmps38
    go_wp2
    go_ret
    exact ⟨rfl, (Below.refl _ _).alloc (Nat.le_refl _) _⟩
  have k6 : (k == 6) = false := by simpa using h6
  by_cases h7 : k = 7
  · subst h7
    unfold opC
    go_enter Tryd.func38, Tryd.ntmps38
    go_wp2
    go_ret
    exact ⟨rfl, (Below.refl _ _).alloc (Nat.le_refl _) _⟩
  have k7 : (k == 7) = false := by simpa using h7
  have hw : writtenP (opB k ro ao bk tk ky hi vl lm) = [] := by simp [writtenP, opB, h1, h2, h3, h4, h5, h6, h7]
  rw [hw]
  unfold opC
  go_enter Tryd.func38, Tryd.ntmps38
  go_wp2
  go_ret
  exact ⟨rfl, (Below.refl _ _).alloc (Nat.le_refl _) _⟩

/-- gate.written -/
theorem written_calls (k : Int) (ro ao bk : Bool) (tk ky hi vl : ByteArray) (lm : Int) (h4 : tk.size ≤ 1000000000) (h5 : ky.size ≤ 1000000000) (h6 : hi.size ≤ 1000000000) (h7 : vl.size ≤ 1000000000)
    (hlm : -9223372036854775808 ≤ lm ∧ lm ≤ 9223372036854775807) (w : World) (htab : Pow w) :
    Calls Tryd.prog 38 #[.agg (opC k ro ao bk tk ky hi vl lm)] w fun e w' => e = .returned (.string ⟨(writtenP (opB k ro ao bk tk ky hi vl lm)).toArray⟩) ∧ Below w.heap.size w w' := by
  by_cases k1 : k = 1
  · subst k1; exact written_begin ro ao bk tk ky hi vl lm h4 w
  by_cases k2 : k = 2
  · subst k2; exact written_get ro ao bk tk ky hi vl lm h5 w
  by_cases k3 : k = 3
  · subst k3; exact written_scan ro ao bk tk ky hi vl lm h5 h6 hlm w htab
  by_cases k4 : k = 4
  · subst k4; exact written_put ro ao bk tk ky hi vl lm h5 h7 w
  by_cases k5 : k = 5
  · subst k5; exact written_del ro ao bk tk ky hi vl lm h5 w
  exact written_other k ro ao bk tk ky hi vl lm k1 k2 k3 k4 k5 w
end Go.Proofs.YtconkncoohcdfaaDoor
