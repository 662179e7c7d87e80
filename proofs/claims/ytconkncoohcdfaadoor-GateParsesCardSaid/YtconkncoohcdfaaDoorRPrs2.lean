/- What the document's reader makes of single fields. -/
import Derived.Test.YtconkncoohcdfaaDoorRPrs
namespace Go.Proofs.YtconkncoohcdfaaDoor
open Go.RowKit
set_option linter.unusedSimpArgs false
set_option linter.unusedVariables false
set_option maxRecDepth 100000
attribute [local go_sem ↓] Go.wp_at_zero Go.wp_at_succ

/-- the fields lie in block b -/
def Fl (b : Nat) (fs : List ByteArray) (w : World) : Prop := ∀ (j : Nat) (h : j < fs.length), w.cell? ⟨b, j, none⟩ = some (.string fs[j])
theorem Fl.below {b : Nat} {fs : List ByteArray} {w w' : World} (h : Fl b fs w) (hb : Below w.heap.size w w') : Fl b fs w' := fun j hj => cell_of_below hb (h j hj)

def texts (fs : List ByteArray) : List (List UInt8) := fs.map (·.data.toList)
theorem texts_len (fs : List ByteArray) : (texts fs).length = fs.length := by simp [texts]
theorem texts_fld (fs : List ByteArray) (i : Nat) (h : i < fs.length) : fld (texts fs) i = fs[i].data.toList := by
  simp [texts, fld, List.getD_eq_getElem?_getD, h]

set_option maxHeartbeats 2000000 in
theorem runr_calls (b : Nat) (fs : List ByteArray) (cap i : Nat) (hsz : ∀ s ∈ fs, s.size ≤ 1000000000) (hfl : fs.length ≤ 1000000000) (hii : i ≤ 1000000000) (w : World) (h : Fl b fs w) :
    Calls Tryd.prog 68 #[.slice (some ⟨b, 0, none⟩) fs.length cap, .int .i64 i] w fun e w' => e = .returned (.string ⟨(unr (texts fs) i).toArray⟩) ∧ Below w.heap.size w w' := by
  have hni : (fs.length : Int) ≤ 1000000000 := by omega
  unfold unr
  rw [texts_len]
  by_cases hlt : i < fs.length
  · rw [if_pos hlt, texts_fld fs i hlt]
    have ci := h i hlt
    have hz := hsz _ (List.getElem_mem hlt)
    obtain ⟨s, hs⟩ : ∃ s, s = fs[i] := ⟨_, rfl⟩
    rw [← hs] at ci hz ⊢
    have hc := fun W => runword_calls s W hz
    obtain ⟨r, hr⟩ : ∃ r, r = unwordP s.data.toList := ⟨_, rfl⟩
    rw [← hr] at hc ⊢
    have HC := Lib.hid hc
    clear hc hs hr h hsz
    have hge : ((fs.length : Int) ≤ (i : Int)) = False := eq_false (by omega)
    cases r
    all_goals
      go_enter Tryd.func68, Tryd.ntmps68
      go_wp2_with fail
      refine (HC.out _).mono ?_
      rintro e w1 ⟨rfl, hb1⟩
      simp only [unV]
      go_wp2
      go_ret
      exact ⟨rfl, hb1⟩
  · rw [if_neg hlt]
    have hge : ((fs.length : Int) ≤ (i : Int)) = True := eq_true (by omega)
    clear h hsz
    go_enter Tryd.func68, Tryd.ntmps68
    go_wp2
    go_ret
    exact ⟨rfl, Below.refl _ _⟩

set_option maxHeartbeats 2000000 in
theorem rnumber_calls (b : Nat) (fs : List ByteArray) (cap : Nat) (hsz : ∀ s ∈ fs, s.size ≤ 1000000000) (hfl : fs.length ≤ 1000000000) (w : World) (h : Fl b fs w) :
    Calls Tryd.prog 69 #[.slice (some ⟨b, 0, none⟩) fs.length cap] w fun e w' => e = .returned (.int .i64 (numR (texts fs))) ∧ Below w.heap.size w w' := by
  have hni : (fs.length : Int) ≤ 1000000000 := by omega
  unfold numR
  rw [texts_len]
  by_cases hlt : 3 < fs.length
  · rw [if_pos hlt, texts_fld fs 3 hlt]
    have ci := h 3 hlt
    have hz := hsz _ (List.getElem_mem hlt)
    obtain ⟨s, hs⟩ : ∃ s, s = fs[3] := ⟨_, rfl⟩
    rw [← hs] at ci hz ⊢
    have hge : (3 : Int) < (fs.length : Int) := by omega
    clear hs h hsz
    go_enter Tryd.func69, Tryd.ntmps69
    go_wp2_with fail
    go_loopw [3, 4] (fun v i W => ∃ (k : Nat), k ≤ s.size ∧ i = .int .i64 k ∧ v = .int .u64 (numW (s.data.toList.take k)) ∧ Below w.heap.size w W ∧ W.cell? ⟨b, 3, none⟩ = some (.string s)) (fun _ i _ => s.size - (intOf i).toNat)
    case atStart => exact ⟨0, Nat.zero_le _, rfl, rfl, Below.refl _ _, ci⟩
    case round =>
      obtain ⟨k, hk, rfl, rfl, hbr, ci⟩ := hrel
      have hrange := numW_range (s.data.toList.take k)
      obtain ⟨V, hV⟩ : ∃ V, V = numW (s.data.toList.take k) := ⟨_, rfl⟩
      rw [← hV] at hrange ⊢
      have HV := Lib.hid hV
      clear hV
      by_cases hks : k < s.size
      · have hc256 : (s[k].toNat : Int) < 256 := by have := s[k].toNat_lt; omega
        go_wp2
        have hw : IntKind.u64.wrap (IntKind.u64.wrap (IntKind.u64.wrap (V * 10) + (s[k].toNat : Int)) - 48) = (V * 10 + (s[k].toNat : Int) - 48) % 18446744073709551616 := by
          have e : ∀ z : Int, IntKind.u64.wrap z = z % 18446744073709551616 := fun z => by simp [IntKind.wrap, IntKind.signed, IntKind.bits]
          rw [e, e, e]
          omega
        go_roundw
        case rel =>
          refine ⟨k + 1, by omega, by go_num, ?_, hbr, ci⟩
          have ht : s.data.toList.take (k + 1) = s.data.toList.take k ++ [s[k]] := by
            rw [List.take_succ_eq_append_getElem (by simpa using hks)]
            rfl
          rw [hw, ht, numW_snoc, ← HV.out]
        case measure => simp [intOf]; omega
      · obtain rfl : k = s.size := by omega
        have hall : s.data.toList.take s.size = s.data.toList := List.take_of_length_le (by simp)
        rw [hall] at HV
        go_wp2
        go_ret
        have hsg : wrap64 V = sgn V := by
          unfold wrap64 sgn
          split <;> omega
        refine ⟨?_, hbr⟩
        rw [← HV.out]
        show Ending.returned (Value.int .i64 (wrap64 V)) = _
        rw [hsg]
  · rw [if_neg hlt]
    have hge : ((3 : Int) < (fs.length : Int)) = False := eq_false (by omega)
    clear h hsz
    go_enter Tryd.func69, Tryd.ntmps69
    go_wp2
    go_ret
    exact ⟨rfl, Below.refl _ _⟩
end Go.Proofs.YtconkncoohcdfaaDoor
