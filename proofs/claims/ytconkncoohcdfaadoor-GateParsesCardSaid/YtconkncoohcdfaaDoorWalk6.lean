/- What the law GateParses computes: true, and what was there stays; for a line of any length. -/
import Derived.Test.YtconkncoohcdfaaDoorRParse
namespace Go.Proofs.YtconkncoohcdfaaDoor
open Go.RowKit
set_option linter.unusedSimpArgs false
set_option linter.unusedVariables false
set_option maxRecDepth 100000
attribute [local go_sem ↓] Go.wp_at_zero Go.wp_at_succ
attribute [local go_sem high] ops_eqX

/-- what is read of a line that is not refused -/
theorem parse_parts {s : ByteArray} {o : OpP} (h : parseP s.data.toList = some o) :
    ∃ k ro ao bk tk ky hi vl lm, o = opB k ro ao bk tk ky hi vl lm ∧ tk.size ≤ 1000000000 ∧ ky.size ≤ 1000000000 ∧ hi.size ≤ 1000000000 ∧ vl.size ≤ 1000000000 ∧ (-9223372036854775808 ≤ lm ∧ lm ≤ 9223372036854775807) := by
  rw [← parseR_eq] at h
  unfold parseR at h
  split at h
  · cases h
  · rename_i hb
    split at h
    · have h := Option.some.inj h
      have hn := splitSp_small s.data.toList
      have hs : ∀ x ∈ splitSp s.data.toList, x.length ≤ 1000000000 := fun x hx => by
        have := hn.1 x hx
        unfold big at hb
        omega
      have hsm := guessP_small hs
      rw [h] at hsm
      obtain ⟨a1, a2, a3, a4, a5, a6⟩ := hsm
      exact ⟨o.k, o.ro, o.ao, o.bk, ⟨o.tk.toArray⟩, ⟨o.ky.toArray⟩, ⟨o.hi.toArray⟩, ⟨o.vl.toArray⟩, o.lm, rfl, by simpa [ByteArray.size] using a1, by simpa [ByteArray.size] using a2, by simpa [ByteArray.size] using a3, by simpa [ByteArray.size] using a4, ⟨a5, a6⟩⟩
    · cases h

set_option maxHeartbeats 4000000 in
theorem law_parses (s : ByteArray) (w : World) (hm : MaxIn w) (he : ErrsIn w) (htab : Pow w) :
    Calls Tryd.prog 6 #[.string s] w fun e w' => e = .returned (.bool true) ∧ Below w.heap.size w w' := by
  have hp := parse_calls s w hm he htab
  have hr := fun W => rparse_calls s W
  obtain ⟨r, hr0⟩ : ∃ r, r = parseP s.data.toList := ⟨_, rfl⟩
  rw [← hr0] at hp
  simp only [← hr0] at hr
  have HP := Lib.hid hp
  have HR := Lib.hid hr
  have H0 := Lib.hid hr0
  clear hp hr hr0
  cases r with
  | none =>
    simp only [parseV, zeroOp] at HP HR
    go_enter Tryd.func6, Tryd.ntmps6
    go_wp2_with fail
    refine HP.out.mono ?_
    rintro e w1 ⟨rfl, hb1⟩
    go_wp2_with fail
    refine (HR.out _).mono ?_
    rintro e w2 ⟨rfl, hb2⟩
    have hb0 : Below w.heap.size w (w1.alloc (.cells zeroOp 27)) := hb1.alloc hb1.size _
    have HB := Lib.hid (hb0.trans (hb2.mono hb0.size))
    have z1 : w.heap.size ≤ w1.heap.size := hb1.size
    have z2 : w1.heap.size < w2.heap.size := by have := hb2.size; simp at this; omega
    have g2 := (hb2.block w1.heap.size (by simp)).trans (heap_alloc_new w1 _)
    have g4 := fun x => (Below.heap_alloc w2 x w1.heap.size z2).trans g2
    have c0 := fun x => block_cell (g4 x) 0
    have c1 := fun x => block_cell (g4 x) 1
    have c2 := fun x => block_cell (g4 x) 2
    have c3 := fun x => block_cell (g4 x) 3
    have c4 := fun x => block_cell (g4 x) 4
    have c5 := fun x => block_cell (g4 x) 5
    have c6 := fun x => block_cell (g4 x) 6
    have c7 := fun x => block_cell (g4 x) 7
    have c8 := fun x => block_cell (g4 x) 8
    simp only [List.getElem?_toArray, List.getElem?_cons_zero, List.getElem?_cons_succ] at c0 c1 c2 c3 c4 c5 c6 c7 c8
    clear g2 g4 hb1 hb2 hb0 HP HR
    go_wp2
    go_ret
    exact ⟨rfl, HB.out.alloc (by omega) _⟩
  | some o =>
    obtain ⟨k, ro, ao, bk, tk, ky, hi, vl, lm, ho, l4, l5, l6, l7, hlm⟩ := parse_parts H0.out.symm
    have hq := fun W a b c => request_calls k ro ao bk tk ky hi vl lm l4 l5 l6 l7 hlm W a b c
    have hq0 : requestP (opB k ro ao bk tk ky hi vl lm) = some s.data.toList := by rw [← ho]; exact (parse_spec.1 H0.out.symm).1
    simp only [hq0, reqV] at hq
    have hss : (⟨s.data.toList.toArray⟩ : ByteArray) = s := by simp
    rw [hss] at hq
    subst ho
    simp only [parseV, opL_opB] at HP HR
    unfold opC at HP HR hq
    have HQ := Lib.hid hq
    clear hq hq0 l4 l5 l6 l7 hlm H0 hss
    go_enter Tryd.func6, Tryd.ntmps6
    go_wp2_with fail
    refine HP.out.mono ?_
    rintro e w1 ⟨rfl, hb1⟩
    go_wp2_with fail
    refine (HR.out _).mono ?_
    rintro e w2 ⟨rfl, hb2⟩
    have hb0 : Below w.heap.size w (w1.alloc (.cells #[.int .i64 k, .bool ro, .bool ao, .bool bk, .string tk, .string ky, .string hi, .string vl, .int .i64 lm] 27)) := hb1.alloc hb1.size _
    have hbb := hb0.trans (hb2.mono hb0.size)
    have HB := Lib.hid hbb
    have z1 : w.heap.size ≤ w1.heap.size := hb1.size
    have z2 : w1.heap.size < w2.heap.size := by have := hb2.size; simp at this; omega
    have g2 := (hb2.block w1.heap.size (by simp)).trans (heap_alloc_new w1 _)
    have g4 := fun x => (Below.heap_alloc w2 x w1.heap.size z2).trans g2
    have c0 := fun x => block_cell (g4 x) 0
    have c1 := fun x => block_cell (g4 x) 1
    have c2 := fun x => block_cell (g4 x) 2
    have c3 := fun x => block_cell (g4 x) 3
    have c4 := fun x => block_cell (g4 x) 4
    have c5 := fun x => block_cell (g4 x) 5
    have c6 := fun x => block_cell (g4 x) 6
    have c7 := fun x => block_cell (g4 x) 7
    have c8 := fun x => block_cell (g4 x) 8
    simp only [List.getElem?_toArray, List.getElem?_cons_zero, List.getElem?_cons_succ] at c0 c1 c2 c3 c4 c5 c6 c7 c8
    have hb3 : Below w.heap.size w (w2.alloc (.cells #[.int .i64 k, .bool ro, .bool ao, .bool bk, .string tk, .string ky, .string hi, .string vl, .int .i64 lm] 27)) := hbb.alloc (by omega) _
    have HB3 := Lib.hid hb3
    have HM := Lib.hid (hm.below hb3)
    have HE := Lib.hid (he.below hb3)
    have HT := Lib.hid (htab.below hb3)
    clear g2 g4 hb1 hb2 hb0 HP HR hbb hb3 hm he htab
    go_wp2_with fail
    refine (HQ.out _ HM.out HE.out HT.out).mono ?_
    rintro e w3 ⟨rfl, hb4⟩
    have HB4 := Lib.hid (HB3.out.trans (hb4.mono HB3.out.size))
    clear HQ HM HE HT hb4
    go_wp2
    go_ret
    exact ⟨by simp, HB4.out⟩
end Go.Proofs.YtconkncoohcdfaaDoor
