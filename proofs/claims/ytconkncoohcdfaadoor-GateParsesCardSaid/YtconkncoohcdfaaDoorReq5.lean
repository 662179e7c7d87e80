/- What gate.Parse and gate.Request answer: as parseP and requestP say; new blocks alone. -/
import Derived.Test.YtconkncoohcdfaaDoorPrs
namespace Go.Proofs.YtconkncoohcdfaaDoor
open Go.RowKit
set_option linter.unusedSimpArgs false
set_option linter.unusedVariables false
set_option maxRecDepth 100000
attribute [local go_sem ↓] Go.wp_at_zero Go.wp_at_succ
attribute [local go_sem high] ops_eqX

/-- gate.Parse -/
theorem parse_calls (s : ByteArray) (w : World) (hm : MaxIn w) (he : ErrsIn w) (htab : Pow w) :
    Calls Tryd.prog 19 #[.string s] w fun e w' => e = .returned (parseV (parseP s.data.toList)) ∧ Below w.heap.size w w' := by
  have hl : s.data.toList.length = s.size := by simp
  unfold parseP
  by_cases h : big s.data.toList.length
  · rw [if_pos h]
    exact parse_long s w (by unfold big at h; rw [hl] at h; omega)
  · rw [if_neg h]
    exact parse_short s w (by unfold big at h; rw [hl] at h; omega) hm he htab

set_option maxHeartbeats 4000000 in
theorem request_calls (k : Int) (ro ao bk : Bool) (tk ky hi vl : ByteArray) (lm : Int) (h4 : tk.size ≤ 1000000000) (h5 : ky.size ≤ 1000000000) (h6 : hi.size ≤ 1000000000) (h7 : vl.size ≤ 1000000000)
    (hlm : -9223372036854775808 ≤ lm ∧ lm ≤ 9223372036854775807) (w : World) (hm : MaxIn w) (he : ErrsIn w) (htab : Pow w) :
    Calls Tryd.prog 17 #[.agg (opC k ro ao bk tk ky hi vl lm)] w fun e w' => e = .returned (reqV (requestP (opB k ro ao bk tk ky hi vl lm))) ∧ Below w.heap.size w w' := by
  obtain ⟨o, ho⟩ : ∃ o, o = opB k ro ao bk tk ky hi vl lm := ⟨_, rfl⟩
  have hlo : o.lm < 9223372036854775808 := by rw [ho]; show lm < _; omega
  have hwr := fun W hp => written_calls k ro ao bk tk ky hi vl lm h4 h5 h6 h7 hlm W hp
  unfold opC at hwr ⊢
  rw [← ho] at hwr ⊢
  obtain ⟨L, hL⟩ : ∃ L : ByteArray, L = ⟨(writtenP o).toArray⟩ := ⟨_, rfl⟩
  simp only [← hL] at hwr
  have hLd : L.data.toList = writtenP o := by rw [hL]
  have hpr := fun W hm he hp => parse_calls L W hm he hp
  obtain ⟨r, hr⟩ : ∃ r, r = parseP L.data.toList := ⟨_, rfl⟩
  simp only [← hr] at hpr
  have hreq : requestP o = if L.toList.isEmpty = true ∨ (400 : Int) < (L.size : Int) then none else if r = some o then some L.data.toList else none := by
    rw [← requestG_eq o hlo, hr, hLd]
    have e1 : L.toList.isEmpty = true ↔ writtenP o = [] := by rw [ByteArray.toList_eq, hLd]; simp
    have e2 : (400 : Int) < (L.size : Int) ↔ big (writtenP o).length := by
      have : L.size = (writtenP o).length := by rw [← hLd]; simp
      rw [this]
      unfold big
      omega
    unfold requestG
    by_cases c : writtenP o = [] ∨ big (writtenP o).length
    · rw [if_pos c, if_pos (show L.toList.isEmpty = true ∨ (400 : Int) < (L.size : Int) from c.elim (fun h => .inl (e1.2 h)) (fun h => .inr (e2.2 h)))]
    · rw [if_neg c, if_neg (show ¬ (L.toList.isEmpty = true ∨ (400 : Int) < (L.size : Int)) from fun h => c (h.elim (fun h => .inl (e1.1 h)) (fun h => .inr (e2.1 h))))]
  have HREQ := Lib.hid hreq
  have HWR := Lib.hid hwr
  have HPR := Lib.hid hpr
  have HO := Lib.hid ho
  clear hwr hpr hreq hL hLd hr hlo h4 h5 h6 h7 hlm
  have fin : ∀ (M : Bool) (hM : L.toList.isEmpty = M) (G : Bool) (hG : decide ((400 : Int) < (L.size : Int)) = G),
      Calls Tryd.prog 17 #[.agg #[.int .i64 k, .bool ro, .bool ao, .bool bk, .string tk, .string ky, .string hi, .string vl, .int .i64 lm]] w fun e w' => e = .returned (if M || G then .tuple #[.string ⟨#[]⟩, .int .i64 210] else if r = some o then .tuple #[.string L, .int .i64 0] else .tuple #[.string ⟨#[]⟩, .int .i64 210]) ∧ Below w.heap.size w w' := by
    intro M hM G hG
    cases M
    · cases G
      · cases r with
        | none =>
          clear ho
          go_enter Tryd.func17, Tryd.ntmps17
          go_wp2_with fail
          refine (HWR.out _ (htab.below ((Below.refl _ _).alloc (Nat.le_refl _) _))).mono ?_
          rintro e w1 ⟨rfl, hb1⟩
          have hbw : Below w.heap.size w w1 := ((Below.refl w.heap.size w).alloc (Nat.le_refl _) _).trans (hb1.mono (by simp))
          go_wp2_with fail
          refine (HPR.out w1 (hm.below hbw) (he.below hbw) (htab.below hbw)).mono ?_
          rintro e w2 ⟨rfl, hb2⟩
          simp only [parseV, zeroOp]
          have hz : w.heap.size ≤ w1.heap.size := hbw.size
          have hz2 : w1.heap.size ≤ w2.heap.size := hb2.size
          go_wp2
          go_ret2
          exact ⟨rfl, (hbw.trans (hb2.mono hz)).alloc (by omega) _⟩
        | some o' =>
          go_enter Tryd.func17, Tryd.ntmps17
          go_wp2_with fail
          refine (HWR.out _ (htab.below ((Below.refl _ _).alloc (Nat.le_refl _) _))).mono ?_
          rintro e w1 ⟨rfl, hb1⟩
          have hbw : Below w.heap.size w w1 := ((Below.refl w.heap.size w).alloc (Nat.le_refl _) _).trans (hb1.mono (by simp))
          have g0 := (hb1.block w.heap.size (by simp)).trans (heap_alloc_new w _)
          go_wp2_with fail
          refine (HPR.out w1 (hm.below hbw) (he.below hbw) (htab.below hbw)).mono ?_
          rintro e w2 ⟨rfl, hb2⟩
          have hz : w.heap.size < w1.heap.size := (Array.getElem?_eq_some_iff.1 g0).1
          have g2 := (hb2.block w.heap.size hz).trans g0
          have hz2 : w1.heap.size ≤ w2.heap.size := hb2.size
          have hBB := Lib.hid (hbw.trans (hb2.mono hbw.size))
          have g3 := fun x => (Below.heap_alloc w2 x w.heap.size (by omega)).trans g2
          have c0 := fun x => block_cell (g3 x) 0
          have c1 := fun x => block_cell (g3 x) 1
          have c2 := fun x => block_cell (g3 x) 2
          have c3 := fun x => block_cell (g3 x) 3
          have c4 := fun x => block_cell (g3 x) 4
          have c5 := fun x => block_cell (g3 x) 5
          have c6 := fun x => block_cell (g3 x) 6
          have c7 := fun x => block_cell (g3 x) 7
          have c8 := fun x => block_cell (g3 x) 8
          simp only [List.getElem?_toArray, List.getElem?_cons_zero, List.getElem?_cons_succ] at c0 c1 c2 c3 c4 c5 c6 c7 c8
          have hzz : w.heap.size < w2.heap.size := by omega
          have hopb : opB o'.k o'.ro o'.ao o'.bk ⟨o'.tk.toArray⟩ ⟨o'.ky.toArray⟩ ⟨o'.hi.toArray⟩ ⟨o'.vl.toArray⟩ o'.lm = o' := rfl
          by_cases hE : o' = o
          · have hD : decide (opB o'.k o'.ro o'.ao o'.bk ⟨o'.tk.toArray⟩ ⟨o'.ky.toArray⟩ ⟨o'.hi.toArray⟩ ⟨o'.vl.toArray⟩ o'.lm = opB k ro ao bk tk ky hi vl lm) = true := by rw [hopb, ← HO.out]; exact decide_eq_true hE
            have HE := Lib.hid hE
            clear g0 g2 g3 hb1 hb2 hbw hz hz2 ho hE hopb
            simp only [parseV, opL, opC]
            go_wp2
            go_ret2
            refine ⟨?_, hBB.out.alloc (by omega) _⟩
            first
              | rfl
              | (rw [if_pos (by rw [HE.out])]; rfl)
          · have hD : decide (opB o'.k o'.ro o'.ao o'.bk ⟨o'.tk.toArray⟩ ⟨o'.ky.toArray⟩ ⟨o'.hi.toArray⟩ ⟨o'.vl.toArray⟩ o'.lm = opB k ro ao bk tk ky hi vl lm) = false := by rw [hopb, ← HO.out]; exact decide_eq_false hE
            have HE := Lib.hid hE
            clear g0 g2 g3 hb1 hb2 hbw hz hz2 ho hE hopb
            simp only [parseV, opL, opC]
            go_wp2
            go_ret2
            refine ⟨?_, hBB.out.alloc (by omega) _⟩
            first
              | rfl
              | (rw [if_neg (fun h => HE.out (Option.some.inj h))]; rfl)
      · go_enter Tryd.func17, Tryd.ntmps17
        go_wp2_with fail
        refine (HWR.out _ (htab.below ((Below.refl _ _).alloc (Nat.le_refl _) _))).mono ?_
        rintro e w1 ⟨rfl, hb1⟩
        have hbw : Below w.heap.size w w1 := ((Below.refl w.heap.size w).alloc (Nat.le_refl _) _).trans (hb1.mono (by simp))
        go_wp2
        go_ret2
        exact ⟨rfl, hbw⟩
    · go_enter Tryd.func17, Tryd.ntmps17
      go_wp2_with fail
      refine (HWR.out _ (htab.below ((Below.refl _ _).alloc (Nat.le_refl _) _))).mono ?_
      rintro e w1 ⟨rfl, hb1⟩
      have hbw : Below w.heap.size w w1 := ((Below.refl w.heap.size w).alloc (Nat.le_refl _) _).trans (hb1.mono (by simp))
      go_wp2
      go_ret2
      exact ⟨rfl, hbw⟩
  have hf := fin _ rfl _ rfl
  refine hf.mono ?_
  rintro e w' ⟨rfl, hb⟩
  refine ⟨?_, hb⟩
  rw [HREQ.out]
  by_cases c : L.toList.isEmpty = true ∨ (400 : Int) < (L.size : Int)
  · rw [if_pos c, if_pos (by simpa using c)]
    rfl
  · rw [if_neg c, if_neg (by simpa using c)]
    by_cases hro : r = some o
    · rw [if_pos hro, if_pos hro]
      rfl
    · rw [if_neg hro, if_neg hro]
      rfl
end Go.Proofs.YtconkncoohcdfaaDoor
