/- What the gate's reader of a line's fields does: a field read as a word, as a number; it turns its own two cells alone, and new blocks. -/
import Derived.Test.YtconkncoohcdfaaDoorUnw
namespace Go.Proofs.YtconkncoohcdfaaDoor
open Go.RowKit
set_option linter.unusedSimpArgs false
set_option linter.unusedVariables false
set_option maxRecDepth 100000
attribute [local go_sem ↓] Go.wp_at_zero Go.wp_at_succ

/-- the reader at block f, its fields in block b -/
structure Fs (f b : Nat) (fs : List ByteArray) (bad : Bool) (w : World) : Prop where
  c0 : w.cell? ⟨f, 0, none⟩ = some (.slice (some ⟨b, 0, none⟩) fs.length fs.length)
  c1 : w.cell? ⟨f, 1, none⟩ = some (.bool bad)
  list : ∀ (j : Nat) (h : j < fs.length), w.cell? ⟨b, j, none⟩ = some (.string fs[j])
  ne : f ≠ b
  live : w.frozen? ⟨f, 1, none⟩ = false
theorem Fs.kept {f b : Nat} {fs : List ByteArray} {bad : Bool} {w w' : World} (h : Fs f b fs bad w) (hb : Below w.heap.size w w') : Fs f b fs bad w' :=
  ⟨cell_of_below hb h.c0, cell_of_below hb h.c1, fun j hj => cell_of_below hb (h.list j hj), h.ne, by rw [hb.frozen (World.block_lt_of_cell? w _ h.c1)]; exact h.live⟩

/-- the reader's mark set -/
theorem Fs.mark {f b : Nat} {fs : List ByteArray} {bad : Bool} {w : World} (h : Fs f b fs bad w) (x : Bool) : Fs f b fs x (w.setCell ⟨f, 1, none⟩ (.bool x)) := by
  have hlt := World.block_lt_of_cell? w _ h.c1
  refine ⟨?_, ?_, fun j hj => ?_, h.ne, ?_⟩
  · rw [World.cell?_setCell_other _ _ _ _ (by simp)]; exact h.c0
  · exact World.cell?_setCell_same _ _ _ (by rw [h.c1])
  · rw [World.cell?_setCell_other _ _ _ _ (by intro e; have := congrArg Addr.block e; exact h.ne (by simpa using this))]; exact h.list j hj
  · rw [World.frozen?_setCell]; exact h.live

set_option maxHeartbeats 2000000 in
theorem fword_calls (f b : Nat) (fs : List ByteArray) (bad : Bool) (i : Nat) (hi : i < fs.length) (hsz : fs[i].size ≤ 1000000000) (hfl : fs.length ≤ 1000000000) (w : World) (h : Fs f b fs bad w) :
    Calls Tryd.prog 66 #[.pointer (some ⟨f, 0, none⟩), .int .i64 i] w fun e w' => e = .returned (.string ⟨((unwordP fs[i].data.toList).getD []).toArray⟩) ∧ Fs f b fs (bad || (unwordP fs[i].data.toList).isNone) w' ∧ Only (fun k => k = f) w w' := by
  have c0 := h.c0
  have c1 := h.c1
  have ci := h.list i hi
  have hii : (i : Int) < (fs.length : Int) := by omega
  have hni : (fs.length : Int) ≤ 1000000000 := by omega
  obtain ⟨s, hs⟩ : ∃ s, s = fs[i] := ⟨_, rfl⟩
  obtain ⟨r, hr⟩ : ∃ r, r = unwordP s.data.toList := ⟨_, rfl⟩
  rw [← hs] at ci hsz ⊢
  have hcall := fun W => unword_calls s W hsz
  rw [← hr] at hcall ⊢
  clear hs hr
  have HC := Lib.hid hcall
  have HH := Lib.hid h
  clear hcall h
  cases r with
  | none =>
    cases bad
    all_goals
      go_enter Tryd.func66, Tryd.ntmps66
      go_wp2_with fail
      refine (HC.out _).mono ?_
      rintro e w1 ⟨rfl, hb1⟩
      simp only [unV]
      have h1 := HH.out.kept hb1
      have e1 := h1.c1
      have e2 := h1.live
      have H1 := Lib.hid h1
      clear h1 c0 c1 ci
      go_wp2
      go_ret
      exact ⟨rfl, H1.out.mark _, Only.setCell (F := fun k => k = f) (Only.of_below hb1) (p := ⟨f, 1, none⟩) (.inl rfl) _⟩
  | some t =>
    cases bad
    all_goals
      go_enter Tryd.func66, Tryd.ntmps66
      go_wp2_with fail
      refine (HC.out _).mono ?_
      rintro e w1 ⟨rfl, hb1⟩
      simp only [unV]
      have h1 := HH.out.kept hb1
      have e1 := h1.c1
      have e2 := h1.live
      have H1 := Lib.hid h1
      clear h1 c0 c1 ci
      go_wp2
      go_ret
      exact ⟨rfl, H1.out.mark _, Only.setCell (F := fun k => k = f) (Only.of_below hb1) (p := ⟨f, 1, none⟩) (.inl rfl) _⟩
end Go.Proofs.YtconkncoohcdfaaDoor
