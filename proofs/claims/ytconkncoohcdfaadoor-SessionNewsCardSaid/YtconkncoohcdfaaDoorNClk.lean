/- The clocks that a session begins with: the program's, cell by cell; the document's, that there is one. -/
import Derived.Test.YtconkncoohcdfaaDoorNRText
namespace Go.Proofs.YtconkncoohcdfaaDoor
open Go.RowKit
set_option linter.unusedSimpArgs false
set_option linter.unusedVariables false
set_option maxRecDepth 100000
attribute [local go_sem ↓] Go.wp_at_zero Go.wp_at_succ

/-- a clock's seven cells: window, ceiling, node, reading, the last stamp -/
def clkC (win ceil node rd lw ll ln : Int) : Array Value := #[.int .u64 win, .int .u64 ceil, .int .u32 node, .int .u64 rd, .int .u64 lw, .int .u32 ll, .int .u32 ln]

set_option maxHeartbeats 1000000 in
theorem creopen_calls (node win ceil : Int) (w : World) :
    Calls Tryd.prog 54 #[.int .u32 node, .int .u64 win, .int .u64 ceil] w fun e w' => e = .returned (.pointer (some ⟨w.heap.size, 0, none⟩)) ∧ w.alloc (.cells (clkC win ceil node 0 ceil 0 0) 159) = w' := by
  go_enter Tryd.func54, Tryd.ntmps54
  go_wp2
  go_ret
  exact ⟨rfl, rfl⟩
theorem cnew_calls (node : Int) (w : World) :
    Calls Tryd.prog 32 #[.int .u32 node, .int .u64 0] w fun e w' => e = .returned (.pointer (some ⟨w.heap.size, 0, none⟩)) ∧ w.alloc (.cells (clkC 0 0 node 0 0 0 0) 159) = w' := by
  have h := creopen_calls node 0 0 w
  have H := Lib.hid h
  clear h
  go_enter Tryd.func32, Tryd.ntmps32
  go_wp2_with fail
  refine H.out.mono ?_
  rintro e w1 ⟨rfl, rfl⟩
  go_wp2
  go_ret
  exact ⟨rfl, rfl⟩

/-- it returns a pointer that is not nil -/
def SomePtr (e : Ending) : Prop := ∃ c : Addr, e = .returned (.pointer (some c))
theorem info_u64 : (Tryd.prog.info? 29).map (fun i => (i.zero, i.size, i.bytes)) = some (some (.int .u64 0), 1, 8) := by kernel_rfl
theorem info_stamp : (Tryd.prog.info? 31).map (fun i => (i.zero, i.size, i.bytes)) = some (some (.agg #[.int .u64 0, .int .u32 0, .int .u32 0]), 3, 16) := by kernel_rfl

set_option maxHeartbeats 2000000 in
theorem rreopen_calls (node win ceil : Int) (w : World) :
    Calls Tryd.prog 56 #[.int .u32 node, .int .u64 win, .int .u64 ceil] w fun e w' => SomePtr e ∧ Below w.heap.size w w' := by
  go_enter Tryd.func56, Tryd.ntmps56
  go_wp2
  go_ret
  refine ⟨⟨_, rfl⟩, ?_⟩
  repeat (first | exact Below.refl _ _ | refine Below.drew ?_ | refine Below.alloc ?_ (by simp <;> omega) _)
theorem rcnew_calls (node : Int) (w : World) :
    Calls Tryd.prog 34 #[.int .u32 node, .int .u64 0] w fun e w' => SomePtr e ∧ Below w.heap.size w w' := by
  have h := rreopen_calls node 0 0 w
  have H := Lib.hid h
  clear h
  go_enter Tryd.func34, Tryd.ntmps34
  go_wp2_with fail
  refine H.out.mono ?_
  rintro e w1 ⟨⟨c, rfl⟩, hb⟩
  go_wp2
  go_ret
  exact ⟨⟨_, rfl⟩, hb⟩

/-- slices.Clone of a list of texts -/
theorem clone_calls (A : Option Addr) (fs : List ByteArray) (cap : Nat) (hz : A = none → cap = 0) (hn : fs.length * 16 ≤ 140737488355328) (w : World) (hs : StrsIn A fs w) :
    Calls Tryd.prog 31 #[.slice A fs.length cap] w fun e w' => (∃ A' cap', e = .returned (.slice A' fs.length cap') ∧ StrsIn A' fs w' ∧ ∀ a, A' = some a → w.heap.size ≤ a.block) ∧ Below w.heap.size w w' := by
  cases A with
  | none =>
    have h0 : fs = [] := by
      rcases Nat.eq_zero_or_pos fs.length with h | h
      · exact List.eq_nil_of_length_eq_zero h
      · obtain ⟨b, off, e, _⟩ := hs h
        cases e
    subst h0
    refine (Tryd.slices_Clone_string_nil 0 cap w).mono ?_
    rintro e w' ⟨rfl, rfl⟩
    exact ⟨⟨none, 0, rfl, fun h => absurd h (by simp), fun a e => by cases e⟩, Below.refl _ _⟩
  | some a =>
    rcases Nat.eq_zero_or_pos fs.length with h | h
    · have h0 : fs = [] := List.eq_nil_of_length_eq_zero h
      subst h0
      refine (Tryd.slices_Clone_string_zero a cap w).mono ?_
      rintro e w' ⟨v', rfl, hown, hne, hb⟩
      rcases hown.2 with ⟨rfl, _⟩ | ⟨g, cap', cur, rfl, hg, _⟩
      · exact absurd rfl hne
      · exact ⟨⟨_, _, rfl, fun h => absurd h (by simp), fun a e => by cases e; exact hg⟩, hb⟩
    · obtain ⟨b, off, e, hc⟩ := hs h
      cases e
      refine (Tryd.slices_Clone_string b off fs.length cap fs w (Nat.le_refl _) hn (fun j hj => by rw [hc j hj, List.getD_eq_getElem?_getD, List.getElem?_eq_getElem hj]; rfl)).mono ?_
      rintro e w' ⟨v', rfl, hown, hne, hb⟩
      rcases hown.2 with ⟨rfl, _⟩ | ⟨g, cap', cur, rfl, hg, _⟩
      · exact absurd rfl hne
      · refine ⟨⟨_, _, rfl, fun _ => ⟨g, 0, rfl, fun j hj => ?_⟩, fun a e => by cases e; exact hg⟩, hb⟩
        have := hown.cells (g := g) rfl j (.string fs[j]) (by simp [hj])
        by_cases hj0 : j = 0
        · subst hj0
          simpa [Addr.add] using this
        · simpa [Addr.add, hj0] using this
end Go.Proofs.YtconkncoohcdfaaDoor
