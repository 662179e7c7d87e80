/- What the document's Reply computes: the same lines as gate.Reply's. -/
import Derived.Test.YtconkncoohcdfaaDoorRef12
namespace Go.Proofs.YtconkncoohcdfaaDoor
open Go.RowKit
set_option linter.unusedSimpArgs false
set_option linter.unusedVariables false
set_option maxRecDepth 100000

theorem rblank_calls (s : ByteArray) (w : World) (hs : 3 * s.size ≤ 140737488355328) :
    Calls Tryd.prog 29 #[.string s] w fun e w' => e = .returned (.string ⟨(32 :: wordB s.data.toList).toArray⟩) ∧ Below w.heap.size w w' := by
  have l4 := wordB_len s.data.toList
  have l5 : s.data.toList.length = s.size := by simp
  rw [l5] at l4
  clear l5
  go_enter Tryd.func29, Tryd.ntmps29
  go_wp2_with (go_at_call 52; refine (rword_calls s _ hs).mono ?_; rintro e w' ⟨rfl, hb⟩)
  go_ret
  refine ⟨?_, hb⟩
  show Ending.returned (.string (⟨[32].toArray⟩ ++ ⟨(wordB s.data.toList).toArray⟩)) = _
  rw [ByteArray.mk_append_mk]
  rfl

def codeCells : Array Value := #[.int .i64 1, .int .i64 11, .int .i64 40, .int .i64 60, .int .i64 90, .int .i64 100, .int .i64 140, .int .i64 141, .int .i64 142, .int .i64 160, .int .i64 161, .int .i64 162, .int .i64 163, .int .i64 164, .int .i64 210]
def wordCells : Array Value := #[.string ⟨#[97, 114, 103]⟩, .string ⟨#[101, 120, 104, 97, 117, 115, 116, 101, 100]⟩, .string ⟨#[116, 111, 107, 101, 110]⟩, .string ⟨#[102, 117, 108, 108]⟩, .string ⟨#[111, 108, 100]⟩, .string ⟨#[99, 111, 110, 102, 108, 105, 99, 116]⟩, .string ⟨#[98, 117, 115, 121]⟩, .string ⟨#[115, 116, 97, 108, 101]⟩, .string ⟨#[109, 97, 110, 121]⟩, .string ⟨#[111, 112, 101, 110]⟩, .string ⟨#[110, 111, 110, 101]⟩, .string ⟨#[119, 97, 105, 116]⟩, .string ⟨#[114, 101, 97, 100, 111, 110, 108, 121]⟩, .string ⟨#[97, 98, 111, 114, 116, 101, 100]⟩, .string ⟨#[114, 101, 113, 117, 101, 115, 116]⟩]
theorem codeCells_at (k : Nat) (hk : k < 15) : codeCells[k]? = some (.int .i64 (codeAt k)) := by
  match k, hk with
  | 0, _ => rfl | 1, _ => rfl | 2, _ => rfl | 3, _ => rfl | 4, _ => rfl | 5, _ => rfl | 6, _ => rfl | 7, _ => rfl
  | 8, _ => rfl | 9, _ => rfl | 10, _ => rfl | 11, _ => rfl | 12, _ => rfl | 13, _ => rfl | 14, _ => rfl | m + 15, h' => exact absurd h' (by omega)
theorem wordCells_at (k : Nat) (hk : k < 15) : wordCells[k]? = some (.string ⟨(wordAt k).toArray⟩) := by
  match k, hk with
  | 0, _ => rfl | 1, _ => rfl | 2, _ => rfl | 3, _ => rfl | 4, _ => rfl | 5, _ => rfl | 6, _ => rfl | 7, _ => rfl
  | 8, _ => rfl | 9, _ => rfl | 10, _ => rfl | 11, _ => rfl | 12, _ => rfl | 13, _ => rfl | 14, _ => rfl | m + 15, h' => exact absurd h' (by omega)

/-- the two tables of names in the call's own blocks -/
def NameRows (w W : World) : Prop := Below w.heap.size w W ∧ w.heap.size + 2 ≤ W.heap.size ∧ ∀ j, j < 15 → W.cell? ⟨w.heap.size, j, none⟩ = some (.int .i64 (codeAt j)) ∧ W.cell? ⟨w.heap.size + 1, j, none⟩ = some (.string ⟨(wordAt j).toArray⟩)
theorem NameRows.start (w : World) (t u : TypeId) : NameRows w ((w.alloc (.cells codeCells t)).alloc (.cells wordCells u)) := by
  refine ⟨((Below.refl _ _).alloc (Nat.le_refl _) _).alloc (by simp) _, by simp, fun j hj => ⟨?_, ?_⟩⟩
  · have := codeCells_at j hj
    rw [Below.cell ((Below.refl (w.alloc (.cells codeCells t)).heap.size (w.alloc (.cells codeCells t))).alloc (Nat.le_refl _) _) (by simp)]
    simpa using this
  · have := wordCells_at j hj
    have h := heap_alloc_new (w.alloc (.cells codeCells t)) (.cells wordCells u)
    rw [show (w.alloc (.cells codeCells t)).heap.size = w.heap.size + 1 by simp] at h
    simp only [World.cell?]
    rw [h]
    simpa using this

set_option maxHeartbeats 1000000 in
theorem rname_calls (st : Int) (h0 : -9223372036854775808 ≤ st) (h1 : st ≤ 9223372036854775807) (w : World) (htab : Pow w) :
    Calls Tryd.prog 26 #[.int .i64 st] w fun e w' => e = .returned (.string ⟨(nameOf st).toArray⟩) ∧ Below w.heap.size w w' := by
  go_enter Tryd.func26, Tryd.ntmps26
  go_wp2_with fail
  have HS := Lib.hid (NameRows.start w 127 128)
  go_loopw [5] (fun i W => ∃ n, n ≤ 15 ∧ i = .int .i64 (n : Nat) ∧ Hid (∀ j, j < n → codeAt j ≠ st) ∧ NameRows w W) (fun i _ => 15 - (intOf i).toNat)
  case atStart => exact ⟨0, by omega, rfl, Lib.hid (fun j hj => by omega), HS.out⟩
  case round =>
    obtain ⟨n, hn, rfl, HJ, hb, hz, hc⟩ := hrel
    have HC := Lib.hid hc
    clear hc
    by_cases hlt : n < 15
    · obtain ⟨hcc, hcw⟩ := HC.out n hlt
      obtain ⟨c, hcd⟩ : ∃ c, c = codeAt n := ⟨_, rfl⟩
      obtain ⟨s, hsd⟩ : ∃ s : ByteArray, s = ⟨(wordAt n).toArray⟩ := ⟨_, rfl⟩
      rw [← hcd] at hcc
      rw [← hsd] at hcw
      have HCD := Lib.hid hcd
      have HS := Lib.hid hsd
      clear hcd hsd
      by_cases he : c = st
      · subst he
        go_wp2
        go_ret
        refine ⟨?_, hb⟩
        rw [nameOf_at c n hlt HJ.out HCD.out.symm, ← HS.out]
        rfl
      · have het : (c == st) = false := by simpa using he
        go_wp2
        go_roundw
        case rel =>
          refine ⟨n + 1, by omega, by go_num, Lib.hid (fun j hj => ?_), hb, hz, HC.out⟩
          rcases Nat.lt_or_ge j n with h | h
          · exact HJ.out j h
          · obtain rfl : j = n := by omega
            rw [← HCD.out]
            exact he
        case measure => simp [intOf]; omega
    · obtain rfl : n = 15 := by omega
      go_wp2_with (go_at_call 21; refine (itoa_calls st h0 h1 _ (htab.below hb)).mono ?_; rintro e w1 ⟨rfl, hb1⟩)
      go_ret
      refine ⟨?_, hb.trans (hb1.mono (by omega))⟩
      rw [nameOf_none st HJ.out]
      rfl
end Go.Proofs.YtconkncoohcdfaaDoor
