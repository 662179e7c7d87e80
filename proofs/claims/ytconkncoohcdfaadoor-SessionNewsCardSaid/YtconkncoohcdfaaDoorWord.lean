/- What route.Word computes: a text as a word, for every text of at most 2^45 bytes; new blocks alone. -/
import Derived.Test.YtconkncoohcdfaaDoorBase
import Derived.Test.YtconkncoohcdfaaDoorBld
namespace Go.Proofs.YtconkncoohcdfaaDoor
open Go.RowKit

def itselfB (c : UInt8) : Bool := decide (32 < c.toNat) && decide (c.toNat < 127) && decide (c.toNat ≠ 37)
def hexD (n : Nat) : UInt8 := if n < 10 then UInt8.ofNat (48 + n) else UInt8.ofNat (87 + n)
def escB (c : UInt8) : List UInt8 := if itselfB c then [c] else [37, hexD (c.toNat / 16), hexD (c.toNat % 16)]
def wordL (l : List UInt8) : List UInt8 := l.flatMap escB
def wordB (l : List UInt8) : List UInt8 := if l = [] then [37] else wordL l

theorem escB_len (c : UInt8) : (escB c).length ≤ 3 := by unfold escB; split <;> simp
theorem wordL_len (l : List UInt8) : (wordL l).length ≤ 3 * l.length := by
  induction l with
  | nil => simp [wordL]
  | cons c l ih => have := escB_len c; simp only [wordL, List.flatMap_cons, List.length_append, List.length_cons] at *; omega

set_option linter.unusedSimpArgs false
set_option linter.unusedVariables false
set_option maxRecDepth 100000
theorem itself_calls (c : UInt8) (w : World) :
    Calls Tryd.prog 47 #[.int .u8 (c.toNat : Int)] w fun e w' => e = .returned (.bool (itselfB c)) ∧ w' = w := by
  have hc := c.toNat_lt
  by_cases h1 : 32 < c.toNat
  · by_cases h2 : c.toNat < 127
    · by_cases h3 : c.toNat = 37
      all_goals
        go_enter Tryd.func47, Tryd.ntmps47
        go_wp2
        go_ret
        exact ⟨by simp [itselfB, h1, h2, h3] <;> omega, rfl⟩
    · go_enter Tryd.func47, Tryd.ntmps47
      go_wp2
      go_ret
      exact ⟨by simp [itselfB, h1, h2], rfl⟩
  · go_enter Tryd.func47, Tryd.ntmps47
    go_wp2
    go_ret
    exact ⟨by simp [itselfB, h1], rfl⟩

theorem word_empty (s : ByteArray) (w : World) (h0 : s.data.toList = []) :
    Calls Tryd.prog 24 #[.string s] w fun e w' => e = .returned (.string ⟨(wordB s.data.toList).toArray⟩) ∧ Below w.heap.size w w' := by
  obtain rfl : s = ⟨#[]⟩ := by
    obtain ⟨⟨l⟩⟩ := s
    simp at h0
    subst h0
    rfl
  go_enter Tryd.func24, Tryd.ntmps24
  go_wp2
  go_ret
  exact ⟨rfl, Below.refl _ _⟩


/-- Where a word's loop stands: the builder N holds the word of the first k bytes. -/
def WordAt (s : ByteArray) (w : World) (k : Nat) (W : World) : Prop :=
  ∃ v, Bld W w.heap.size v (wordL (s.data.toList.take k)) ∧ (∀ j, j < s.size → W.cell? ⟨w.heap.size + 1, j, none⟩ = some (.int .u8 (s.data.toList.getD j 0).toNat)) ∧
    w.heap.size + 2 ≤ W.heap.size ∧ Below w.heap.size w W ∧ (∀ g, v.ownBlock = some g → w.heap.size + 2 ≤ g)

theorem WordAt.step {s : ByteArray} {w W W' : World} {v v' : Value} {l' : List UInt8}
    (hc : ∀ j, j < s.size → W.cell? ⟨w.heap.size + 1, j, none⟩ = some (.int .u8 (s.data.toList.getD j 0).toNat))
    (hz : w.heap.size + 2 ≤ W.heap.size) (hb : Below w.heap.size w W) (hg : ∀ g, v.ownBlock = some g → w.heap.size + 2 ≤ g)
    (hB : Bld W' w.heap.size v' l') (hO : Only (fun k => k = w.heap.size ∨ v.ownBlock = some k) W W') (hv : v'.ownBlock = v.ownBlock ∨ ∃ g, v'.ownBlock = some g ∧ W.heap.size ≤ g) :
    (∀ j, j < s.size → W'.cell? ⟨w.heap.size + 1, j, none⟩ = some (.int .u8 (s.data.toList.getD j 0).toNat)) ∧
    w.heap.size + 2 ≤ W'.heap.size ∧ Below w.heap.size w W' ∧ (∀ g, v'.ownBlock = some g → w.heap.size + 2 ≤ g) := by
  refine ⟨fun j hj => ?_, Nat.le_trans hz hO.size, ?_, fun g h => ?_⟩
  · rw [hO.cell (p := ⟨w.heap.size + 1, j, none⟩) (by simp; omega) (fun e => e.elim (fun e => by simp at e) (fun e => by have := hg _ e; simp at this))]
    exact hc j hj
  · exact hb.trans (hO.below (fun k hk => hk.elim (fun hk => by omega) (fun hk => by have := hg _ hk; omega)) (by omega))
  · rcases hv with e | ⟨g', e, h'⟩
    · exact hg g (by rw [← e]; exact h)
    · rw [e] at h; simp at h; omega

theorem hexAt : ∀ (n : Nat) (h : n < (⟨#[48, 49, 50, 51, 52, 53, 54, 55, 56, 57, 97, 98, 99, 100, 101, 102]⟩ : ByteArray).size), (((⟨#[48, 49, 50, 51, 52, 53, 54, 55, 56, 57, 97, 98, 99, 100, 101, 102]⟩ : ByteArray)[n]'h).toNat : Int) = ((hexD n).toNat : Int) := by
  intro n h
  have h16 : n < 16 := h
  match n, h16 with
  | 0, _ => exact rfl | 1, _ => exact rfl | 2, _ => exact rfl | 3, _ => exact rfl | 4, _ => exact rfl | 5, _ => exact rfl | 6, _ => exact rfl | 7, _ => exact rfl
  | 8, _ => exact rfl | 9, _ => exact rfl | 10, _ => exact rfl | 11, _ => exact rfl | 12, _ => exact rfl | 13, _ => exact rfl | 14, _ => exact rfl | 15, _ => exact rfl | m + 16, h' => exact absurd h' (by omega)

theorem wordL_snoc (l : List UInt8) (k : Nat) (h : k < l.length) : wordL (l.take (k + 1)) = wordL (l.take k) ++ escB (l.getD k 0) := by
  unfold wordL
  rw [List.take_succ_eq_append_getElem h, List.flatMap_append, List.getD_eq_getElem?_getD, List.getElem?_eq_getElem h]
  simp

set_option maxHeartbeats 1000000 in
theorem word_full (s : ByteArray) (w : World) (hs : 3 * s.size ≤ 140737488355328) (h0 : s.data.toList ≠ []) :
    Calls Tryd.prog 24 #[.string s] w fun e w' => e = .returned (.string ⟨(wordB s.data.toList).toArray⟩) ∧ Below w.heap.size w w' := by
  have h0' : s.toList.isEmpty = false := by rw [ByteArray.toList_eq]; simpa using h0
  have hcv := fun W => Lib.run_convert_string_bytes (P := Tryd.prog) W 9 116 5 s Tryd.underlying9 Tryd.underlying116 Tryd.underlying5
  have hstart : WordAt s w 0 (Lib.bytesWorld (w.alloc (.cells #[.pointer none, .slice none 0 0] 118)) 5 s) := by
    have hsz : (w.alloc (.cells #[.pointer none, .slice none 0 0] 118)).heap.size = w.heap.size + 1 := by simp
    refine ⟨.slice none 0 0, ?_, fun j hj => ?_, by rw [Lib.bytesWorld_size]; omega, ?_, by simp [Value.ownBlock]⟩
    · exact (Bld.fresh w).kept (F := fun _ => False) (Only.of_below (Lib.bytesWorld_below _ _ _)) (fun h => h) (fun _ _ h => h)
    · rw [← hsz, Lib.bytesWorld_cell _ _ _ _ hj]
    · exact ((Below.refl _ _).alloc (Nat.le_refl _) _).trans ((Lib.bytesWorld_below _ _ _).mono (by omega))
  have HS := Lib.hid hstart
  clear hstart
  go_enter Tryd.func24, Tryd.ntmps24
  go_wp2_with fail
  go_loopw [11] (fun i W => ∃ k, k ≤ s.size ∧ i = .int .i64 k ∧ WordAt s w k W) (fun i _ => s.size - (intOf i).toNat)
  case atStart => exact ⟨0, Nat.zero_le _, rfl, HS.out⟩
  case round =>
    obtain ⟨k, hk, rfl, v, hB, hc, hz, hb, hg⟩ := hrel
    by_cases hlt : k < s.size
    · obtain ⟨c, hcd⟩ : ∃ c, c = s.data.toList.getD k 0 := ⟨_, rfl⟩
      have hck : wr.cell? ⟨w.heap.size + 1, k, none⟩ = some (.int .u8 (c.toNat : Int)) := by rw [hcd]; exact hc k hlt
      have HCD := Lib.hid hcd
      clear hcd
      have hc255 : c.toNat < 256 := c.toNat_lt
      have hl1 := wordL_len (s.data.toList.take k)
      have hl2 : (s.data.toList.take k).length ≤ k := List.length_take_le _ _
      have HC := Lib.hid hc
      clear hc
      by_cases hit : itselfB c = true
      · go_wp2_with (first | (go_at_call 47; refine (itself_calls _ _).mono ?_; rintro e w' ⟨rfl, rfl⟩) | (go_at_call 48; refine (writeByte_any _ w.heap.size v _ _ rfl _ hB (by omega)).mono ?_; rintro e w' ⟨rfl, v', hB', hO', hv'⟩))
        go_roundw
        case rel =>
          obtain ⟨g1, g2, g3, g4⟩ := WordAt.step HC.out hz hb hg hB' hO' hv'
          refine ⟨k + 1, by omega, by go_num, v', ?_, g1, g2, g3, g4⟩
          rw [wordL_snoc _ _ (by simpa using hlt), ← HCD.out, escB, if_pos hit]
          exact hB'
        case measure => simp [intOf]; omega
      · have hit' : itselfB c = false := by simpa using hit
        clear hit
        go_wp2_with fail
        refine (itself_calls _ _).mono ?_
        rintro e w' ⟨rfl, rfl⟩
        go_wp2_with fail
        refine (writeByte_any 37 w.heap.size v _ _ rfl _ hB (by omega)).mono ?_
        rintro e w1 ⟨rfl, v1, hB1, hO1, hv1⟩
        obtain ⟨g1, g2, g3, g4⟩ := WordAt.step HC.out hz hb hg hB1 hO1 hv1
        have G1 := Lib.hid g1
        clear g1
        go_wp2_with fail
        refine (writeByte_any (hexD (c.toNat / 16)) w.heap.size v1 _ _ (hexAt _ _) _ hB1 (by simp; omega)).mono ?_
        rintro e w2 ⟨rfl, v2, hB2, hO2, hv2⟩
        obtain ⟨k1, k2, k3, k4⟩ := WordAt.step G1.out g2 g3 g4 hB2 hO2 hv2
        have K1 := Lib.hid k1
        clear k1
        go_wp2_with fail
        refine (writeByte_any (hexD (c.toNat % 16)) w.heap.size v2 _ _ (hexAt _ _) _ hB2 (by simp; omega)).mono ?_
        rintro e w3 ⟨rfl, v3, hB3, hO3, hv3⟩
        obtain ⟨m1, m2, m3, m4⟩ := WordAt.step K1.out k2 k3 k4 hB3 hO3 hv3
        have M1 := Lib.hid m1
        clear m1
        go_wp2_with fail
        go_roundw
        case rel =>
          refine ⟨k + 1, by omega, by go_num, v3, ?_, M1.out, m2, m3, m4⟩
          rw [wordL_snoc _ _ (by simpa using hlt), ← HCD.out, escB, if_neg (by rw [hit']; decide)]
          simpa using hB3
        case measure => simp [intOf]; omega
    · obtain rfl : k = s.size := by omega
      have hB' : Lib.IsBuilder 118 5 w.heap.size w.heap.size (Lib.byteCells (wordL s.data.toList)) wr := by
        have hall : s.data.toList.take s.size = s.data.toList := List.take_of_length_le (by simp)
        rw [hall] at hB
        exact hB.isAt _ (Nat.le_refl _) (fun g e => by have := hg g e; omega)
      have HC := Lib.hid hc
      clear hc
      go_wp2_with fail
      refine (builderString w.heap.size w.heap.size (wordL s.data.toList) _ hB' (by omega)).mono ?_
      rintro e w1 ⟨rfl, hb1⟩
      go_wp2
      go_ret
      refine ⟨?_, hb.trans hb1⟩
      rw [wordB, if_neg h0]
      rfl

/-- The word of any text of at most 2^45 bytes. -/
theorem word_calls (s : ByteArray) (w : World) (hs : 3 * s.size ≤ 140737488355328) :
    Calls Tryd.prog 24 #[.string s] w fun e w' => e = .returned (.string ⟨(wordB s.data.toList).toArray⟩) ∧ Below w.heap.size w w' := by
  by_cases h0 : s.data.toList = []
  · exact word_empty s w h0
  · exact word_full s w hs h0
end Go.Proofs.YtconkncoohcdfaaDoor
