/- What the document guesses of a line's fields: all of it in one word. -/
import Derived.Test.YtconkncoohcdfaaDoorGs5
namespace Go.Proofs.YtconkncoohcdfaaDoor
open Go.RowKit
set_option linter.unusedSimpArgs false
set_option linter.unusedVariables false
set_option maxRecDepth 100000

theorem guess_calls (b : Nat) (fs : List ByteArray) (cap : Nat) (hpos : 0 < fs.length) (hsz : ∀ s ∈ fs, s.size ≤ 1000000000) (hfl : fs.length ≤ 1000000000) (w : World) (h : Fl b fs w) :
    Calls Tryd.prog 43 #[.slice (some ⟨b, 0, none⟩) fs.length cap] w fun e w' => e = .returned (.agg (opL (guessP (texts fs)))) ∧ Below w.heap.size w w' := by
  have t0 := texts_fld fs 0 hpos
  have tl := texts_len fs
  by_cases hB : fs[0].data.toList = vBegin
  · rw [hB] at t0
    by_cases hn : 1 < fs.length
    · have t1 := texts_fld fs 1 hn
      by_cases hA : fs[1].data.toList = vAt
      · rw [hA] at t1
        have e : guessP (texts fs) = ⟨1, true, true, false, unr (texts fs) 2, [], [], [], 0⟩ := by simp [guessP, t0, t1, tl, hn]
        rw [e]
        exact guess_begin_at b fs cap hpos hsz hfl hB hn hA w h
      by_cases hR : fs[1].data.toList = vRo
      · rw [hR] at t1
        have e : guessP (texts fs) = ⟨1, true, false, false, unr (texts fs) 2, [], [], [], 0⟩ := by simp [guessP, t0, t1, tl, hn]
        rw [e]
        exact guess_begin_ro b fs cap hpos hsz hfl hB hn hR w h
      · have e : guessP (texts fs) = ⟨1, false, false, false, unr (texts fs) 2, [], [], [], 0⟩ := by simp [guessP, t0, t1, tl, hn, hA, hR]
        rw [e]
        exact guess_begin_rest b fs cap hpos hsz hfl hB hn ⟨hA, hR⟩ w h
    · have e : guessP (texts fs) = ⟨1, false, false, false, unr (texts fs) 2, [], [], [], 0⟩ := by simp [guessP, t0, tl, hn]
      rw [e]
      exact guess_begin_short b fs cap hpos hsz hfl hB (by omega) w h
  by_cases hG : fs[0].data.toList = vGet
  · rw [hG] at t0
    have e : guessP (texts fs) = ⟨2, false, false, false, [], unr (texts fs) 1, [], [], 0⟩ := by simp [guessP, t0]
    rw [e]
    exact guess_get b fs cap hpos hsz hfl hG w h
  by_cases hD : fs[0].data.toList = vDel
  · rw [hD] at t0
    have e : guessP (texts fs) = ⟨5, false, false, false, [], unr (texts fs) 1, [], [], 0⟩ := by simp [guessP, t0]
    rw [e]
    exact guess_del b fs cap hpos hsz hfl hD w h
  by_cases hP : fs[0].data.toList = vPut
  · rw [hP] at t0
    have e : guessP (texts fs) = ⟨4, false, false, false, [], unr (texts fs) 1, [], unr (texts fs) 2, 0⟩ := by simp [guessP, t0]
    rw [e]
    exact guess_put b fs cap hpos hsz hfl hP w h
  by_cases hS : fs[0].data.toList = vScan
  · rw [hS] at t0
    have e : guessP (texts fs) = ⟨3, false, false, false, [], unr (texts fs) 1, unr (texts fs) 2, [], numR (texts fs)⟩ := by simp [guessP, t0]
    rw [e]
    exact guess_scan b fs cap hpos hsz hfl hS w h
  by_cases hR : fs[0].data.toList = vRscan
  · rw [hR] at t0
    have e : guessP (texts fs) = ⟨3, false, false, true, [], unr (texts fs) 1, unr (texts fs) 2, [], numR (texts fs)⟩ := by simp [guessP, t0]
    rw [e]
    exact guess_rscan b fs cap hpos hsz hfl hR w h
  by_cases hC : fs[0].data.toList = vCommit
  · rw [hC] at t0
    have e : guessP (texts fs) = ⟨6, false, false, false, [], [], [], [], 0⟩ := by simp [guessP, t0]
    rw [e]
    exact guess_commit b fs cap hpos hsz hfl hC w h
  by_cases hA : fs[0].data.toList = vAbort
  · rw [hA] at t0
    have e : guessP (texts fs) = ⟨7, false, false, false, [], [], [], [], 0⟩ := by simp [guessP, t0]
    rw [e]
    exact guess_abort b fs cap hpos hsz hfl hA w h
  have e : guessP (texts fs) = ⟨0, false, false, false, [], [], [], [], 0⟩ := by simp [guessP, t0, hB, hG, hD, hP, hS, hR, hC, hA]
  rw [e]
  exact guess_none b fs cap hpos hsz hfl ⟨hB, hG, hD, hP, hS, hR, hC, hA⟩ w h
end Go.Proofs.YtconkncoohcdfaaDoor
