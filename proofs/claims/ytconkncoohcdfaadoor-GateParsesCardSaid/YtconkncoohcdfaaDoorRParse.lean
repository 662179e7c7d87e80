/- What the document's Parse answers to any line: the operation that writes it, or the refusal. -/
import Derived.Test.YtconkncoohcdfaaDoorRGuess
namespace Go.Proofs.YtconkncoohcdfaaDoor
open Go.RowKit
set_option linter.unusedSimpArgs false
set_option linter.unusedVariables false
set_option maxRecDepth 100000
attribute [local go_sem ↓] Go.wp_at_zero Go.wp_at_succ

set_option maxHeartbeats 2000000 in
theorem rparse_long (s : ByteArray) (w : World) (hs : (400 : Int) < (s.size : Int)) :
    Calls Tryd.prog 20 #[.string s] w fun e w' => e = .returned (parseV none) ∧ Below w.heap.size w w' := by
  go_enter Tryd.func20, Tryd.ntmps20
  go_wp2
  (try simp only [Exit.inBlock, Exit.then])
  refine bodyPost_ret (results_row_tmp rfl _ _ w.heap.size 27 zeroOp (0, 0) _ rfl (heap_alloc_new w _) Tryd.underlying27 rfl info_op) rfl ?_
  exact ⟨rfl, (Below.refl _ _).alloc (Nat.le_refl _) _⟩

/-- the guessed operation, part by part -/
theorem guess_parts (g : Nat) (fs : List ByteArray) (cap : Nat) (hpos : 0 < fs.length) (hsz : ∀ s ∈ fs, s.size ≤ 1000000000) (hfl : fs.length ≤ 1000000000) :
    ∃ k ro ao bk tk ky hi vl lm, guessP (texts fs) = opB k ro ao bk tk ky hi vl lm ∧ tk.size ≤ 1000000000 ∧ ky.size ≤ 1000000000 ∧ hi.size ≤ 1000000000 ∧ vl.size ≤ 1000000000 ∧ (-9223372036854775808 ≤ lm ∧ lm ≤ 9223372036854775807) ∧
      (∀ w, Fl g fs w → Calls Tryd.prog 43 #[.slice (some ⟨g, 0, none⟩) fs.length cap] w fun e w' => e = .returned (.agg (opC k ro ao bk tk ky hi vl lm)) ∧ Below w.heap.size w w') := by
  obtain ⟨o, ho⟩ : ∃ o, o = guessP (texts fs) := ⟨_, rfl⟩
  have hs : ∀ x ∈ texts fs, x.length ≤ 1000000000 := by
    intro x hx
    obtain ⟨y, hy, rfl⟩ := List.mem_map.1 hx
    simpa using hsz y hy
  have hsm := guessP_small hs
  rw [← ho] at hsm
  obtain ⟨a1, a2, a3, a4, a5, a6⟩ := hsm
  refine ⟨o.k, o.ro, o.ao, o.bk, ⟨o.tk.toArray⟩, ⟨o.ky.toArray⟩, ⟨o.hi.toArray⟩, ⟨o.vl.toArray⟩, o.lm, ho.symm, by simpa [ByteArray.size] using a1, by simpa [ByteArray.size] using a2, by simpa [ByteArray.size] using a3, by simpa [ByteArray.size] using a4, ⟨a5, a6⟩, fun w h => ?_⟩
  have hg := guess_calls g fs cap hpos hsz hfl w h
  rw [← ho] at hg
  exact hg

open Classical in
/-- the document's Parse of a line that is short enough -/
noncomputable def parseQ (s : List UInt8) : Option OpP := if requestP (guessP (splitSp s)) = some s then some (guessP (splitSp s)) else none

set_option maxHeartbeats 4000000 in
theorem rparse_short (s : ByteArray) (w : World) (hs : (s.size : Int) ≤ 400) :
    Calls Tryd.prog 20 #[.string s] w fun e w' => e = .returned (parseV (parseQ s.data.toList)) ∧ Below w.heap.size w w' := by
  have hB0 : Below w.heap.size w (w.alloc (.cells zeroOp 27)) := (Below.refl _ _).alloc (Nat.le_refl _) _
  have hsm := splitSp_small s.data.toList
  have hss : s.data.toList.length = s.size := by simp
  rw [hss] at hsm
  have hfc := rfields_calls s (w.alloc (.cells zeroOp 27)) (by omega)
  unfold zeroOp at hfc
  have HC := Lib.hid hfc
  have HSM := Lib.hid hsm
  clear hfc hsm hss
  go_enter Tryd.func20, Tryd.ntmps20
  go_wp2_with fail
  refine HC.out.mono ?_
  rintro e w1 ⟨g, cap, fs, rfl, htx, hFl, hb1⟩
  clear HC
  have hsm := HSM.out
  rw [← htx] at hsm
  have hszs : ∀ x ∈ fs, x.size ≤ 1000000000 := fun x hx => by
    have := hsm.1 x.data.toList (List.mem_map_of_mem hx)
    have e : x.data.toList.length = x.size := by simp
    omega
  have hfl : fs.length ≤ 1000000000 := by have := hsm.2; rw [texts_len] at this; omega
  have hpos : 0 < fs.length := by
    rcases Nat.eq_zero_or_pos fs.length with h | h
    · have : fs = [] := List.eq_nil_of_length_eq_zero h
      rw [this] at htx
      exact absurd htx.symm (splitSp_ne _)
    · exact h
  obtain ⟨k, ro, ao, bk, tk, ky, hi, vl, lm, hop, l4, l5, l6, l7, hlm, hgc⟩ := guess_parts g fs cap hpos hszs hfl
  rw [htx] at hop
  have HTX := Lib.hid htx
  have HOP := Lib.hid hop
  have HG := Lib.hid (hgc w1 hFl)
  have hB0' : Below w.heap.size w w1 := hB0.trans (hb1.mono hB0.size)
  have R1 := Lib.hid ((hb1.block w.heap.size (by simp)).trans (heap_alloc_new w _))
  have HB1 := Lib.hid hB0'
  have hreq := fun W => rrequest_calls k ro ao bk tk ky hi vl lm l4 l5 l6 l7 hlm W
  have z1 : w.heap.size < w1.heap.size := (Array.getElem?_eq_some_iff.1 R1.out).1
  clear hgc hsm hszs hfl hpos htx hop hFl hb1 hB0 hB0' l4 l5 l6 l7 hlm HSM
  obtain ⟨r, hr⟩ : ∃ r, r = requestP (opB k ro ao bk tk ky hi vl lm) := ⟨_, rfl⟩
  simp only [← hr] at hreq
  have HR := Lib.hid hr
  have HRQ := Lib.hid hreq
  clear hreq hr
  go_wp2_with fail
  refine HG.out.mono ?_
  rintro e w2 ⟨rfl, hb2⟩
  clear HG
  have hBw2 : Below w.heap.size w w2 := HB1.out.trans (hb2.mono HB1.out.size)
  have R2 := Lib.hid ((hb2.block w.heap.size z1).trans R1.out)
  have z2 : w.heap.size < w2.heap.size := Nat.lt_of_lt_of_le z1 hb2.size
  have HB2 := Lib.hid hBw2
  clear hb2 hBw2
  have hst1 := storeCells_row (P := Tryd.prog) (w2.alloc (.cells zeroOp 27)) w2.heap.size 27 zeroOp (opC k ro ao bk tk ky hi vl lm) (heap_alloc_new w2 _) rfl (by simp [opC, Value.oneCell'])
  obtain ⟨w3, h3⟩ : ∃ w3, w3 = (w2.alloc (.cells zeroOp 27)).setRow w2.heap.size (opC k ro ao bk tk ky hi vl lm) := ⟨_, rfl⟩
  have hO3 : Only (fun k => w2.heap.size ≤ k) w2 w3 := by rw [h3]; exact Only.setRow ((Only.refl _ _).alloc _) (.inl (Nat.le_refl _)) _
  have T3 := Lib.hid (show w3.heap[w2.heap.size]? = some (.cells (opC k ro ao bk tk ky hi vl lm) 27 (0, 0)) by rw [h3]; exact row_block (heap_alloc_new w2 _))
  have R3 := Lib.hid ((hO3.block w.heap.size (by omega) (by omega)).trans R2.out)
  have HB3 := Lib.hid (HB2.out.trans (hO3.below (B := w.heap.size) (fun k hk => by omega) (by omega)))
  have z3 : w2.heap.size < w3.heap.size := by rw [h3]; simp [World.setRow]
  rw [← h3] at hst1
  unfold zeroOp at hst1
  clear h3 hO3 R1 HB1
  go_wp2_with ((refine wpList_load_row rfl _ _ rfl w2.heap.size rfl 27 (opC k ro ao bk tk ky hi vl lm) (0, 0) _ T3.out Tryd.underlying27 rfl info_op ?_))
  refine (HRQ.out w3).mono ?_
  rintro e w4 ⟨rfl, hb4⟩
  have z4 : w2.heap.size < w4.heap.size := Nat.lt_of_lt_of_le z3 hb4.size
  have T4 := Lib.hid ((hb4.block w2.heap.size z3).trans T3.out)
  have R4 := Lib.hid ((hb4.block w.heap.size (by omega)).trans R3.out)
  have HB4 := Lib.hid (HB3.out.trans (hb4.mono HB3.out.size))
  clear hb4 T3 R3 HB3 hst1 R2 HB2 HRQ
  have q0 : w4.cell? ⟨w.heap.size, 0, none⟩ = some (.int .i64 0) := block_cell R4.out 0
  have f0 := block_frozen R4.out 0
  have e0 := set_same R4.out 0 (.int .i64 0) rfl
  have q1 : w4.cell? ⟨w.heap.size, 1, none⟩ = some (.bool false) := block_cell R4.out 1
  have f1 := block_frozen R4.out 1
  have e1 := set_same R4.out 1 (.bool false) rfl
  have q2 : w4.cell? ⟨w.heap.size, 2, none⟩ = some (.bool false) := block_cell R4.out 2
  have f2 := block_frozen R4.out 2
  have e2 := set_same R4.out 2 (.bool false) rfl
  have q3 : w4.cell? ⟨w.heap.size, 3, none⟩ = some (.bool false) := block_cell R4.out 3
  have f3 := block_frozen R4.out 3
  have e3 := set_same R4.out 3 (.bool false) rfl
  have q4 : w4.cell? ⟨w.heap.size, 4, none⟩ = some (.string ⟨#[]⟩) := block_cell R4.out 4
  have f4 := block_frozen R4.out 4
  have e4 := set_same R4.out 4 (.string ⟨#[]⟩) rfl
  have q5 : w4.cell? ⟨w.heap.size, 5, none⟩ = some (.string ⟨#[]⟩) := block_cell R4.out 5
  have f5 := block_frozen R4.out 5
  have e5 := set_same R4.out 5 (.string ⟨#[]⟩) rfl
  have q6 : w4.cell? ⟨w.heap.size, 6, none⟩ = some (.string ⟨#[]⟩) := block_cell R4.out 6
  have f6 := block_frozen R4.out 6
  have e6 := set_same R4.out 6 (.string ⟨#[]⟩) rfl
  have q7 : w4.cell? ⟨w.heap.size, 7, none⟩ = some (.string ⟨#[]⟩) := block_cell R4.out 7
  have f7 := block_frozen R4.out 7
  have e7 := set_same R4.out 7 (.string ⟨#[]⟩) rfl
  have q8 : w4.cell? ⟨w.heap.size, 8, none⟩ = some (.int .i64 0) := block_cell R4.out 8
  have f8 := block_frozen R4.out 8
  have e8 := set_same R4.out 8 (.int .i64 0) rfl
  cases r with
  | none =>
    simp only [reqV]
    go_wp2
    (try simp only [Exit.inBlock, Exit.then])
    refine bodyPost_ret (results_row_tmp rfl _ _ w.heap.size 27 zeroOp (0, 0) _ rfl R4.out Tryd.underlying27 rfl info_op) rfl ?_
    exact ⟨by rw [parseQ, HOP.out, ← HR.out]; rfl, HB4.out⟩
  | some l =>
    obtain ⟨L, hL⟩ : ∃ L : ByteArray, L = ⟨l.toArray⟩ := ⟨_, rfl⟩
    have hl : l = L.data.toList := by rw [hL]
    simp only [reqV, ← hL]
    subst hl
    clear hL
    by_cases hE : L = s
    · subst hE
      clear q0 q1 q2 q3 q4 q5 q6 q7 q8 f0 f1 f2 f3 f4 f5 f6 f7 f8 e0 e1 e2 e3 e4 e5 e6 e7 e8
      have hst2 := storeCells_row (P := Tryd.prog) w4 w.heap.size 27 zeroOp (opC k ro ao bk tk ky hi vl lm) R4.out rfl (by simp [opC, Value.oneCell'])
      go_wp2_with ((refine wpList_load_row rfl _ _ rfl w2.heap.size rfl 27 (opC k ro ao bk tk ky hi vl lm) (0, 0) _ T4.out Tryd.underlying27 rfl info_op ?_))
      (try simp only [Exit.inBlock, Exit.then])
      refine bodyPost_ret (results_row_tmp rfl _ _ w.heap.size 27 (opC k ro ao bk tk ky hi vl lm) (0, 0) _ rfl (row_block R4.out) Tryd.underlying27 rfl info_op) rfl ?_
      refine ⟨?_, (Only.setRow (F := fun k => w.heap.size ≤ k) (Only.of_below HB4.out) (.inl (Nat.le_refl _)) _).below (fun k hk => hk) (Nat.le_refl _)⟩
      rw [parseQ, HOP.out, if_pos HR.out.symm]
      rfl
    · have hx : L.toList ≠ s.toList := fun h => hE (by rw [ByteArray.toList_eq, ByteArray.toList_eq] at h; exact congrArg ByteArray.mk (Array.toList_inj.1 h))
      have hne : (L.toList == s.toList) = false := beq_eq_false_iff_ne.2 hx
      have hne' : (L.toList != s.toList) = true := by simp [bne, hne]
      clear hx
      have HE := Lib.hid hE
      clear hE
      go_wp2
      (try simp only [Exit.inBlock, Exit.then])
      refine bodyPost_ret (results_row_tmp rfl _ _ w.heap.size 27 zeroOp (0, 0) _ rfl R4.out Tryd.underlying27 rfl info_op) rfl ?_
      refine ⟨?_, HB4.out⟩
      rw [parseQ, HOP.out, if_neg (fun h => HE.out ?_)]
      · rfl
      · have h2 := Option.some.inj (HR.out.trans h)
        exact congrArg ByteArray.mk (Array.toList_inj.1 h2)

/-- the document's Parse -/
theorem rparse_calls (s : ByteArray) (w : World) :
    Calls Tryd.prog 20 #[.string s] w fun e w' => e = .returned (parseV (parseP s.data.toList)) ∧ Below w.heap.size w w' := by
  have hl : s.data.toList.length = s.size := by simp
  rw [← parseR_eq]
  unfold parseR
  by_cases h : big s.data.toList.length
  · rw [if_pos h]
    exact rparse_long s w (by unfold big at h; rw [hl] at h; omega)
  · rw [if_neg h]
    exact rparse_short s w (by unfold big at h; rw [hl] at h; omega)
end Go.Proofs.YtconkncoohcdfaaDoor
