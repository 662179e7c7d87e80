/- What the gate's reader makes of a line's fields: all of it in one word. -/
import Derived.Test.YtconkncoohcdfaaDoorRd2
namespace Go.Proofs.YtconkncoohcdfaaDoor
open Go.RowKit
set_option linter.unusedSimpArgs false
set_option linter.unusedVariables false
set_option maxRecDepth 100000
set_option maxHeartbeats 4000000

/-- (*fields).read, of any fields, none marked so far: what readP says. -/
theorem fread_calls (f b : Nat) (fs : List ByteArray) (hne : fs ≠ []) (hsz : ∀ s ∈ fs, s.size ≤ 1000000000) (hle : fs.length ≤ 1000000000) (hap : Apart f) :
    ∃ k ro ao bk tk ky hi vl lm ok bad', readP (fs.map (·.data.toList)) = (if ok = true ∧ bad' = false then some (opB k ro ao bk tk ky hi vl lm) else none) ∧
    ∀ w, Fs f b fs false w → ErrsIn w → Pow w → Calls Tryd.prog 42 #[.pointer (some ⟨f, 0, none⟩)] w fun e w' => e = .returned (.tuple #[.agg (opC k ro ao bk tk ky hi vl lm), .bool ok]) ∧ Fs f b fs bad' w' ∧ Only (fun k => k = f) w w' := by
  obtain ⟨s0, rest, rfl⟩ := List.exists_cons_of_ne_nil hne
  have hz0 := hsz s0 (by simp)
  have none_case : (∀ w, Fs f b (s0 :: rest) false w → Calls Tryd.prog 42 #[.pointer (some ⟨f, 0, none⟩)] w fun e w' => e = .returned (.tuple #[.agg zeroOp, .bool false]) ∧ Fs f b (s0 :: rest) false w' ∧ Only (fun k => k = f) w w') → readP ((s0 :: rest).map (·.data.toList)) = none →
      ∃ k ro ao bk tk ky hi vl lm ok bad', readP ((s0 :: rest).map (·.data.toList)) = (if ok = true ∧ bad' = false then some (opB k ro ao bk tk ky hi vl lm) else none) ∧
      ∀ w, Fs f b (s0 :: rest) false w → ErrsIn w → Pow w → Calls Tryd.prog 42 #[.pointer (some ⟨f, 0, none⟩)] w fun e w' => e = .returned (.tuple #[.agg (opC k ro ao bk tk ky hi vl lm), .bool ok]) ∧ Fs f b (s0 :: rest) bad' w' ∧ Only (fun k => k = f) w w' :=
    fun hcall hr => ⟨0, false, false, false, ⟨#[]⟩, ⟨#[]⟩, ⟨#[]⟩, ⟨#[]⟩, 0, false, false, by rw [hr]; rfl, fun w h _ _ => hcall w h⟩
  by_cases hB : s0.data.toList = vBegin
  · by_cases hn : (s0 :: rest).length = 3
    · match rest, hn, hsz with
      | [m, t], _, hsz =>
        obtain ⟨ro, ao, T, ok, bad', hr, hc⟩ := fread_begin f b s0 m t (hsz t (by simp)) hB
        exact ⟨1, ro, ao, false, T, ⟨#[]⟩, ⟨#[]⟩, ⟨#[]⟩, 0, ok, bad', hr, fun w h _ _ => hc w h⟩
    · refine none_case (fun w h => fnone_Begin f b s0 rest _ rfl hle hB hn w h) ?_
      unfold readP
      simp only [List.map_cons, fld, List.getD_cons_zero, hB, List.length_cons, List.length_map] at hn ⊢
      simp [hn]
  by_cases hRS : s0.data.toList = vRscan
  · by_cases hn : (s0 :: rest).length = 4
    · match rest, hn, hsz with
      | [s1, s2, s3], _, hsz =>
        refine ⟨3, false, false, true, ⟨#[]⟩, _, _, ⟨#[]⟩, _, true, _, ?_, fun w h he hp => fread_rscan f b s0 s1 s2 s3 (hsz s1 (by simp)) (hsz s2 (by simp)) (hsz s3 (by simp)) hRS w h he hp hap⟩
        simp only [List.map_cons, List.map_nil, hRS]
        cases h1 : unwordP s1.data.toList <;> cases h2 : unwordP s2.data.toList <;> cases h3 : numP s3.data.toList <;> simp [readP, fld, h1, h2, h3, opB]
    · refine none_case (fun w h => fnone_Rscan f b s0 rest _ rfl hle hRS hn w h) ?_
      unfold readP
      simp only [List.map_cons, fld, List.getD_cons_zero, hRS, List.length_cons, List.length_map] at hn ⊢
      simp [hn]
  by_cases hSC : s0.data.toList = vScan
  · by_cases hn : (s0 :: rest).length = 4
    · match rest, hn, hsz with
      | [s1, s2, s3], _, hsz =>
        refine ⟨3, false, false, false, ⟨#[]⟩, _, _, ⟨#[]⟩, _, true, _, ?_, fun w h he hp => fread_scan f b s0 s1 s2 s3 (hsz s1 (by simp)) (hsz s2 (by simp)) (hsz s3 (by simp)) hSC w h he hp hap⟩
        simp only [List.map_cons, List.map_nil, hSC]
        cases h1 : unwordP s1.data.toList <;> cases h2 : unwordP s2.data.toList <;> cases h3 : numP s3.data.toList <;> simp [readP, fld, h1, h2, h3, opB]
    · refine none_case (fun w h => fnone_Scan f b s0 rest _ rfl hle hSC hn w h) ?_
      unfold readP
      simp only [List.map_cons, fld, List.getD_cons_zero, hSC, List.length_cons, List.length_map] at hn ⊢
      simp [hn]
  by_cases hG : s0.data.toList = vGet
  · by_cases hn : (s0 :: rest).length = 2
    · match rest, hn, hsz with
      | [s1], _, hsz =>
        refine ⟨2, false, false, false, ⟨#[]⟩, _, ⟨#[]⟩, ⟨#[]⟩, 0, true, _, ?_, fun w h _ _ => fread_get f b s0 s1 (hsz s1 (by simp)) hG w h⟩
        simp only [List.map_cons, List.map_nil, hG]
        cases h1 : unwordP s1.data.toList <;> simp [readP, fld, h1, opB]
    · refine none_case (fun w h => fnone_Get f b s0 rest _ rfl hle hG hn w h) ?_
      unfold readP
      simp only [List.map_cons, fld, List.getD_cons_zero, hG, List.length_cons, List.length_map] at hn ⊢
      simp [hn]
  by_cases hP : s0.data.toList = vPut
  · by_cases hn : (s0 :: rest).length = 3
    · match rest, hn, hsz with
      | [s1, s2], _, hsz =>
        refine ⟨4, false, false, false, ⟨#[]⟩, _, ⟨#[]⟩, _, 0, true, _, ?_, fun w h _ _ => fread_put f b s0 s1 s2 (hsz s1 (by simp)) (hsz s2 (by simp)) hP w h⟩
        simp only [List.map_cons, List.map_nil, hP]
        cases h1 : unwordP s1.data.toList <;> cases h2 : unwordP s2.data.toList <;> simp [readP, fld, h1, h2, opB]
    · refine none_case (fun w h => fnone_Put f b s0 rest _ rfl hle hP hn w h) ?_
      unfold readP
      simp only [List.map_cons, fld, List.getD_cons_zero, hP, List.length_cons, List.length_map] at hn ⊢
      simp [hn]
  by_cases hD : s0.data.toList = vDel
  · by_cases hn : (s0 :: rest).length = 2
    · match rest, hn, hsz with
      | [s1], _, hsz =>
        refine ⟨5, false, false, false, ⟨#[]⟩, _, ⟨#[]⟩, ⟨#[]⟩, 0, true, _, ?_, fun w h _ _ => fread_del f b s0 s1 (hsz s1 (by simp)) hD w h⟩
        simp only [List.map_cons, List.map_nil, hD]
        cases h1 : unwordP s1.data.toList <;> simp [readP, fld, h1, opB]
    · refine none_case (fun w h => fnone_Del f b s0 rest _ rfl hle hD hn w h) ?_
      unfold readP
      simp only [List.map_cons, fld, List.getD_cons_zero, hD, List.length_cons, List.length_map] at hn ⊢
      simp [hn]
  by_cases hC : s0.data.toList = vCommit
  · by_cases hn : (s0 :: rest).length = 1
    · match rest, hn, hsz with
      | [], _, hsz =>
        refine ⟨6, false, false, false, ⟨#[]⟩, ⟨#[]⟩, ⟨#[]⟩, ⟨#[]⟩, 0, true, false, ?_, fun w h _ _ => fread_commit f b s0 hC w h⟩
        simp [readP, fld, hC, opB]
    · refine none_case (fun w h => fnone_Commit f b s0 rest _ rfl hle hC hn w h) ?_
      unfold readP
      simp only [List.map_cons, fld, List.getD_cons_zero, hC, List.length_cons, List.length_map] at hn ⊢
      simp at hn
      simp [hn]
  by_cases hA : s0.data.toList = vAbort
  · by_cases hn : (s0 :: rest).length = 1
    · match rest, hn, hsz with
      | [], _, hsz =>
        refine ⟨7, false, false, false, ⟨#[]⟩, ⟨#[]⟩, ⟨#[]⟩, ⟨#[]⟩, 0, true, false, ?_, fun w h _ _ => fread_abort f b s0 hA w h⟩
        simp [readP, fld, hA, opB]
    · refine none_case (fun w h => fnone_Abort f b s0 rest _ rfl hle hA hn w h) ?_
      unfold readP
      simp only [List.map_cons, fld, List.getD_cons_zero, hA, List.length_cons, List.length_map] at hn ⊢
      simp at hn
      simp [hn]
  refine none_case (fun w h => fnone_any f b s0 rest _ rfl hle hB hRS hSC hG hP hD hC hA w h) ?_
  unfold readP
  simp only [List.map_cons, fld, List.getD_cons_zero]
  simp [hB, hRS, hSC, hG, hP, hD, hC, hA]
end Go.Proofs.YtconkncoohcdfaaDoor
