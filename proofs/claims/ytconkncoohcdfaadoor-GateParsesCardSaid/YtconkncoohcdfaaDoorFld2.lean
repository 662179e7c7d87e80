/- What the gate's reader of a line's fields does with a field that should be a number. -/
import Derived.Test.YtconkncoohcdfaaDoorFld
namespace Go.Proofs.YtconkncoohcdfaaDoor
open Go.RowKit Go.Lib Go.Shelf
set_option linter.unusedSimpArgs false
set_option linter.unusedVariables false
set_option maxRecDepth 100000
attribute [local go_sem ↓] Go.wp_at_zero Go.wp_at_succ

def valA (acc : Nat) (l : List UInt8) : Nat := l.foldl (fun v c => v * 10 + (c.toNat - 48)) acc
theorem valA_ge : ∀ (l : List UInt8) (acc : Nat), acc ≤ valA acc l
  | [], acc => Nat.le_refl _
  | c :: r, acc => by
    have := valA_ge r (acc * 10 + (c.toNat - 48))
    simp only [valA, List.foldl_cons] at this ⊢
    omega
theorem parseM_step (M acc : Nat) (c : UInt8) (r : List UInt8) (h1 : 48 ≤ c.toNat ∧ c.toNat ≤ 57) (h2 : ¬ 1844674407370955162 ≤ acc) (h3 : ¬ M < acc * 10 + (c.toNat - 48)) :
    Lib.parseUintM M acc (c :: r) = Lib.parseUintM M (acc * 10 + (c.toNat - 48)) r := by
  conv => lhs; unfold Lib.parseUintM
  simp only [h1, h2, h3, and_self, if_true, if_false]
theorem parseM_digits (M : Nat) (hM : (M : Int) = 18446744073709551615) (l : List UInt8) : ∀ (acc : Nat), (∀ c ∈ l, 48 ≤ c.toNat ∧ c.toNat ≤ 57) → (valA acc l : Int) < 18446744073709551616 → Lib.parseUintM M acc l = .ok (valA acc l) := by
  induction l with
  | nil => intro acc _ _; rfl
  | cons c r ih =>
    intro acc hd hv
    have hc := hd c (List.mem_cons_self ..)
    have hge := valA_ge r (acc * 10 + (c.toNat - 48))
    have hvv : valA acc (c :: r) = valA (acc * 10 + (c.toNat - 48)) r := rfl
    rw [hvv] at hv ⊢
    rw [parseM_step M acc c r hc (by omega) (by omega)]
    exact ih _ (fun d h => hd d (List.mem_cons_of_mem _ h)) hv
theorem numP_parse {l : List UInt8} {n : Nat} (h : numP l = some n) : Lib.parseUintB 64 l = .ok n := by
  have hl := numP_dec h
  have hf := numP_fits h
  have hv : valA 0 l = n := by rw [← hl]; exact valD_dec n
  unfold Lib.parseUintB
  rw [if_neg (by rw [← hl]; exact dec_ne n)]
  have := parseM_digits (2 ^ 64 - 1) (by decide) l 0 (by rw [← hl]; exact dec_digit n) (by rw [hv]; omega)
  rw [this, hv]

/-- the library's two errors lie in the world -/
def ErrsIn (w : World) : Prop := (∃ ev, w.cell? ⟨8, 0, none⟩ = some ev ∧ (ev = .nilIface ∨ ∃ te pe, ev = .iface te pe)) ∧ (∃ ev, w.cell? ⟨9, 0, none⟩ = some ev ∧ (ev = .nilIface ∨ ∃ te pe, ev = .iface te pe))
theorem ErrsIn.below {w w' : World} (h : ErrsIn w) (hb : Below w.heap.size w w') : ErrsIn w' := by
  obtain ⟨⟨e1, h1, k1⟩, ⟨e2, h2, k2⟩⟩ := h
  exact ⟨⟨e1, cell_of_below hb h1, k1⟩, ⟨e2, cell_of_below hb h2, k2⟩⟩

theorem parseUint_calls (s : ByteArray) (hs : s.size ≤ 1000000000) (w : World) (he : ErrsIn w) :
    Calls Tryd.prog 87 #[.string s, .int .i64 10, .int .i64 64] w fun e w' => Below w.heap.size w w' ∧
      ((∃ u : Nat, Lib.parseUintB 64 s.data.toList = .ok u ∧ (u : Int) < 18446744073709551616 ∧ e = .returned (.tuple #[.int .u64 u, .nilIface])) ∨ ((∀ u, Lib.parseUintB 64 s.data.toList ≠ .ok u) ∧ ∃ (v : Int) (N : Nat), e = .returned (.tuple #[.int .u64 v, .iface 201 (.pointer (some ⟨N, 0, none⟩))]))) := by
  obtain ⟨⟨e1, h1, k1⟩, ⟨e2, h2, k2⟩⟩ := he
  cases hp : Lib.parseUintB 64 s.data.toList with
  | ok u =>
    refine (Tryd.strconv_ParseUint_10_at64_ok s (by omega) u hp w).mono ?_
    rintro e w' ⟨rfl, hw⟩
    have hu : u < 18446744073709551616 := by rw [Lib.parseUintB_64] at hp; exact Lib.parseMag_lt hp
    refine ⟨?_, .inl ⟨u, rfl, by omega, rfl⟩⟩
    rcases hw with rfl | rfl
    · exact Below.refl _ _
    · exact Lib.bytesWorld_below _ _ _
  | range =>
    refine (Tryd.strconv_ParseUint_10_at64_range s (by omega) hp e2 w h2 k2).mono ?_
    rintro e w' ⟨N, rfl, _, _, hb⟩
    exact ⟨hb, .inr ⟨(fun u h => by cases h), _, N, rfl⟩⟩
  | _ =>
    refine (Any.strconv_ParseUint_10_at64_syntax Tryd.laysPu14 s (by omega) hp e1 w h1 k1).mono ?_
    rintro e w' ⟨N, rfl, _, _, hb⟩
    exact ⟨hb, .inr ⟨(fun u h => by cases h), _, N, rfl⟩⟩

set_option maxHeartbeats 4000000 in
theorem fnumber_calls (f b : Nat) (fs : List ByteArray) (bad : Bool) (i : Nat) (hi : i < fs.length) (hsz : fs[i].size ≤ 1000000000) (hfl : fs.length ≤ 1000000000) (w : World) (h : Fs f b fs bad w) (he : ErrsIn w) (htab : Pow w) :
    Calls Tryd.prog 67 #[.pointer (some ⟨f, 0, none⟩), .int .i64 i] w fun e w' => e = .returned (.int .i64 (((numP fs[i].data.toList).getD 0 : Nat) : Int)) ∧ Fs f b fs (bad || (numP fs[i].data.toList).isNone) w' ∧ Only (fun k => k = f) w w' := by
  have c0 := h.c0
  have c1 := h.c1
  have ci := h.list i hi
  have hii : (i : Int) < (fs.length : Int) := by omega
  have hni : (fs.length : Int) ≤ 1000000000 := by omega
  obtain ⟨s, hs⟩ : ∃ s, s = fs[i] := ⟨_, rfl⟩
  rw [← hs] at ci hsz ⊢
  obtain ⟨r, hr⟩ : ∃ r, r = numP s.data.toList := ⟨_, rfl⟩
  rw [← hr]
  have HR := Lib.hid hr
  have HS := Lib.hid hs
  have HH := Lib.hid h
  clear h hs hr
  go_enter Tryd.func67, Tryd.ntmps67
  go_wp2_with fail
  refine (parseUint_calls s hsz _ he).mono ?_
  rintro e w1 ⟨hb1, hcase⟩
  have h1 := HH.out.kept hb1
  have e1 := h1.c1
  have e2 := h1.live
  have e0 := cell_aged h1.c0
  have ei := cell_aged (h1.list i hi)
  rw [← HS.out] at ei
  have hPw := htab.below hb1
  have H1 := Lib.hid h1
  clear h1 c0 c1 ci
  rcases hcase with ⟨u, hu, hul, rfl⟩ | ⟨hno, v, N, rfl⟩
  · by_cases hbig : (9223372036854775807 : Int) < (u : Int)
    · have hnum : r = none := by
        cases r with
        | none => rfl
        | some n =>
          have h2 := numP_parse HR.out.symm
          rw [hu] at h2
          have h3 := numP_fits HR.out.symm
          injection h2 with h2
          omega
      subst hnum
      clear hu
      have hbT : ((9223372036854775807 : Int) < (u : Int)) = True := eq_true hbig
      clear hbig
      go_wp2_with fail
      refine wp_region_aged (by kernel_rfl) (by kernel_rfl) ?_
      repeat (go_big_quiet_step (fail))
      refine wpQuiet_nil ?_
      rintro _ ⟨p, rfl⟩
      have h3 := H1.out.kept (aged_below w1 p)
      have k1 := h3.c1
      have k2 := h3.live
      have H3 := Lib.hid h3
      clear h3
      go_wp2
      go_ret
      refine ⟨rfl, ?_, ?_⟩
      · rw [show (bad || (none : Option Nat).isNone) = true by simp]
        exact H3.out.mark true
      · exact Only.setCell (F := fun k => k = f) (Only.of_below (hb1.trans ((aged_below w1 p).mono hb1.size))) (p := ⟨f, 1, none⟩) (.inl rfl) _
    · have hul2 : (u : Int) < 9223372036854775808 := by omega
      have hbF : decide ((9223372036854775807 : Int) < (u : Int)) = false := decide_eq_false hbig
      have hdl := dec_len u (by omega)
      obtain ⟨D, hD⟩ : ∃ D : ByteArray, D = ⟨(Lib.decDigits u).toArray⟩ := ⟨_, rfl⟩
      have hfm := fun W (h : Pow W) => formatUint_calls u (by omega) W h
      simp only [← hD] at hfm
      have HD := Lib.hid hD
      have HFM := Lib.hid hfm
      clear hfm
      by_cases hEq : Lib.decDigits u = s.data.toList
      · have hnum : r = some u := by rw [HR.out]; exact numP_of hul2 hEq
        subst hnum
        have hne : (D.toList == s.toList) = true := by rw [hD, ByteArray.toList_eq, ByteArray.toList_eq]; simp [hEq]
        have HUL := Lib.hid hul2
        clear hu hbig hEq hD hul2
        go_wp2_with fail
        refine wp_region_aged (by kernel_rfl) (by kernel_rfl) ?_
        repeat (go_big_quiet_step ((exact calls_aged (HFM.out _ (hPw.below (aged_below _ _))))))
        refine wpQuiet_nil ?_
        rintro _ ⟨p, rfl⟩
        have h3 := H1.out.kept (aged_below w1 p)
        have H3 := Lib.hid h3
        clear h3
        have hw : IntKind.i64.wrap (u : Int) = (u : Int) := Go.IntWalk.i64_in _ ⟨by omega, by have := HUL.out; omega⟩
        clear hbF hul
        go_wp2
        go_ret
        refine ⟨rfl, ?_, ?_⟩
        · rw [show (bad || (some u).isNone) = bad by simp]
          exact H3.out
        · exact Only.of_below (hb1.trans ((aged_below w1 p).mono hb1.size))
      · have hnum : r = none := by
          cases r with
          | none => rfl
          | some n =>
            have h2 := numP_parse HR.out.symm
            rw [hu] at h2
            injection h2 with h2
            exact absurd (by rw [h2]; exact numP_dec HR.out.symm) hEq
        subst hnum
        have hne : (D.toList == s.toList) = false := by rw [hD, ByteArray.toList_eq, ByteArray.toList_eq]; simpa using hEq
        have HUL := Lib.hid hul2
        clear hu hbig hEq hD hul2
        go_wp2_with fail
        refine wp_region_aged (by kernel_rfl) (by kernel_rfl) ?_
        repeat (go_big_quiet_step ((exact calls_aged (HFM.out _ (hPw.below (aged_below _ _))))))
        refine wpQuiet_nil ?_
        rintro _ ⟨p, rfl⟩
        have h3 := H1.out.kept (aged_below w1 p)
        have k1 := h3.c1
        have k2 := h3.live
        have H3 := Lib.hid h3
        clear h3
        go_wp2
        go_ret
        refine ⟨rfl, ?_, ?_⟩
        · rw [show (bad || (none : Option Nat).isNone) = true by simp]
          exact H3.out.mark true
        · exact Only.setCell (F := fun k => k = f) (Only.of_below (hb1.trans ((aged_below w1 p).mono hb1.size))) (p := ⟨f, 1, none⟩) (.inl rfl) _
  · have hnum : r = none := by
      cases r with
      | none => rfl
      | some n => exact absurd (numP_parse HR.out.symm) (hno n)
    subst hnum
    clear hno
    go_wp2_with fail
    refine wp_region_aged (by kernel_rfl) (by kernel_rfl) ?_
    repeat (go_big_quiet_step (fail))
    refine wpQuiet_nil ?_
    rintro _ ⟨p, rfl⟩
    have h3 := H1.out.kept (aged_below w1 p)
    have k1 := h3.c1
    have k2 := h3.live
    have H3 := Lib.hid h3
    clear h3
    go_wp2
    go_ret
    refine ⟨rfl, ?_, ?_⟩
    · rw [show (bad || (none : Option Nat).isNone) = true by simp]
      exact H3.out.mark true
    · exact Only.setCell (F := fun k => k = f) (Only.of_below (hb1.trans ((aged_below w1 p).mono hb1.size))) (p := ⟨f, 1, none⟩) (.inl rfl) _
end Go.Proofs.YtconkncoohcdfaaDoor
