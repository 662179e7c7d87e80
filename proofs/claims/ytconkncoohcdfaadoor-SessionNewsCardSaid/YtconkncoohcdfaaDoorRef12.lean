/- What the document's Word computes: a text as a word, for every text of at most 2^45 bytes; new blocks alone. -/
import Derived.Test.YtconkncoohcdfaaDoorRef1
import Derived.Test.YtconkncoohcdfaaDoorScan
namespace Go.Proofs.YtconkncoohcdfaaDoor
open Go.RowKit
set_option linter.unusedSimpArgs false
set_option linter.unusedVariables false
set_option maxRecDepth 100000
attribute [local go_sem ↓] Go.wp_at_zero Go.wp_at_succ

theorem plain_calls (c : UInt8) (w : World) :
    Calls Tryd.prog 77 #[.int .u8 (c.toNat : Int)] w fun e w' => e = .returned (.bool (itselfB c)) ∧ w' = w := by
  have hc := c.toNat_lt
  by_cases h1 : 32 < c.toNat
  · by_cases h2 : c.toNat < 127
    · by_cases h3 : c.toNat = 37
      all_goals
        have h1' : (33 : Int) ≤ (c.toNat : Int) := by omega
        have h2' : (c.toNat : Int) ≤ 126 := by omega
        go_enter Tryd.func77, Tryd.ntmps77
        go_wp2
        go_ret
        exact ⟨by simp [itselfB, h1, h2, h3] <;> omega, rfl⟩
    · have h1' : (33 : Int) ≤ (c.toNat : Int) := by omega
      have h2' : ¬ (c.toNat : Int) ≤ 126 := by omega
      go_enter Tryd.func77, Tryd.ntmps77
      go_wp2
      go_ret
      exact ⟨by simp [itselfB, h1, h2], rfl⟩
  · have h1' : ¬ (33 : Int) ≤ (c.toNat : Int) := by omega
    go_enter Tryd.func77, Tryd.ntmps77
    go_wp2
    go_ret
    exact ⟨by simp [itselfB, h1], rfl⟩

theorem hexD_num (n : Nat) (h : n < 16) : ((hexD n).toNat : Int) = if n < 10 then 48 + (n : Int) else 87 + (n : Int) := by
  unfold hexD
  split
  · rw [UInt8.toNat_ofNat']; omega
  · rw [UInt8.toNat_ofNat']; omega

theorem hex_calls (n : Nat) (h : n < 16) (w : World) :
    Calls Tryd.prog 78 #[.int .u8 n] w fun e w' => e = .returned (.int .u8 ((hexD n).toNat : Int)) ∧ w' = w := by
  have hn0 := Lib.hid (hexD_num n h)
  by_cases h1 : n < 10
  · have h1' : (n : Int) < 10 := by omega
    go_enter Tryd.func78, Tryd.ntmps78
    go_wp2
    go_ret
    have hn := hn0.out
    exact ⟨by rw [hn, if_pos h1]; rfl, rfl⟩
  · have h1' : ¬ (n : Int) < 10 := by omega
    have h2' : (n : Int) < 16 := by omega
    go_enter Tryd.func78, Tryd.ntmps78
    go_wp2
    go_ret
    refine ⟨?_, rfl⟩
    have hn := hn0.out
    rw [if_neg h1] at hn
    rw [hn]
    show Ending.returned (Value.int .u8 (97 + (n : Int) - 10)) = _
    rw [show 97 + (n : Int) - 10 = 87 + (n : Int) by omega]

theorem hex_calls' (x : Int) (n : Nat) (hx : x = n) (h : n < 16) (w : World) :
    Calls Tryd.prog 78 #[.int .u8 x] w fun e w' => e = .returned (.int .u8 ((hexD n).toNat : Int)) ∧ w' = w := by
  subst hx
  exact hex_calls n h w

theorem Tryd.infoByte : (Tryd.prog.info? 5).map (fun i => (i.zero, i.size, i.bytes)) = some (some (.int .u8 0), 1, 1) := by kernel_rfl

def byteV (c : UInt8) : Value := .int .u8 (c.toNat : Int)

/-- The row of bytes so far, of the call's own from block B on; below B the world is W0. -/
def ByteRow (B : Nat) (W0 : World) (v : Value) (l : List UInt8) (w' : World) : Prop :=
  w'.ownsRow B 5 1 v l.length (l.map byteV) ∧ Below B W0 w' ∧ B ≤ w'.heap.size

theorem ByteRow.below {B : Nat} {W0 w1 w2 : World} {v : Value} {l : List UInt8} (h : ByteRow B W0 v l w1) (hb : Below w1.heap.size w1 w2) : ByteRow B W0 v l w2 :=
  ⟨ownsRow_same h.1 (fun k hk => hb.block k (ownsRow_lt h.1 hk)), h.2.1.trans (hb.mono h.2.2), Nat.le_trans h.2.2 hb.size⟩
theorem ByteRow.drew {B : Nat} {W0 w1 : World} {v : Value} {l : List UInt8} (h : ByteRow B W0 v l w1) : ByteRow B W0 v l w1.drew :=
  h.below (Below.refl _ _).drew
theorem ByteRow.alloc {B : Nat} {W0 w1 : World} {v : Value} {l : List UInt8} (h : ByteRow B W0 v l w1) (o : Obj) : ByteRow B W0 v l (w1.alloc o) :=
  h.below ((Below.refl _ _).alloc (Nat.le_refl _) _)

theorem byteRow_conv {B : Nat} {W0 w1 : World} {v : Value} {l : List UInt8} (h : ByteRow B W0 v l w1) :
    (convert 116 9 v).run Tryd.prog w1 = .ok (.string ⟨l.toArray⟩) w1 := by
  rcases h.1.2 with ⟨rfl, h0⟩ | ⟨g, cap, cur, rfl, hB, hg, hc, _, hs, ht⟩
  · obtain rfl : l = [] := List.eq_nil_of_length_eq_zero h0
    exact run_convert_bytes_nil w1 116 5 Tryd.underlying116 Tryd.underlying5 0 0 9 Tryd.underlying9
  · refine run_convert_bytes_back (P := Tryd.prog) w1 116 9 5 ⟨g, 0, none⟩ cap l Tryd.underlying116 Tryd.underlying5 Tryd.underlying9 (fun j hj => ?_)
    have h1 : (cur.toList.take (l.length * 1))[j]? = some (byteV l[j]) := by rw [ht, List.getElem?_map, List.getElem?_eq_getElem hj]; rfl
    rw [List.getElem?_take] at h1
    simp only [Nat.mul_one, hj, if_true] at h1
    rw [Lib.add_plain]
    simp [World.cell?, hg]
    simpa [byteV] using h1

theorem rword_empty (s : ByteArray) (w : World) (h0 : s.data.toList = []) :
    Calls Tryd.prog 52 #[.string s] w fun e w' => e = .returned (.string ⟨(wordB s.data.toList).toArray⟩) ∧ Below w.heap.size w w' := by
  obtain rfl : s = ⟨#[]⟩ := by
    obtain ⟨⟨l⟩⟩ := s
    simp at h0
    subst h0
    rfl
  go_enter Tryd.func52, Tryd.ntmps52
  go_wp2
  go_ret
  exact ⟨rfl, Below.refl _ _⟩

set_option maxHeartbeats 1000000 in
theorem rword_full (s : ByteArray) (w : World) (hs : 3 * s.size ≤ 140737488355328) (h0 : s.data.toList ≠ []) :
    Calls Tryd.prog 52 #[.string s] w fun e w' => e = .returned (.string ⟨(wordB s.data.toList).toArray⟩) ∧ Below w.heap.size w w' := by
  have h0' : s.toList.isEmpty = false := by rw [ByteArray.toList_eq]; simpa using h0
  have hstart : ByteRow w.heap.size w (.slice none 0 0) (wordL (s.data.toList.take 0)) w := ⟨⟨by simp [wordL], .inl ⟨rfl, by simp [wordL]⟩⟩, Below.refl _ _, Nat.le_refl _⟩
  have HS := Lib.hid hstart
  clear hstart
  go_enter Tryd.func52, Tryd.ntmps52
  go_wp2_with fail
  go_loopw [3, 4] (fun v i W => ∃ k : Nat, k ≤ s.size ∧ i = .int .i64 k ∧ ByteRow w.heap.size w v (wordL (s.data.toList.take k)) W) (fun _ i _ => s.size - (intOf i).toNat)
  case atStart => exact ⟨0, Nat.zero_le _, rfl, HS.out⟩
  case round =>
    obtain ⟨k, hk, rfl, hrow⟩ := hrel
    by_cases hlt : k < s.size
    · have hsn := wordL_snoc s.data.toList k (by simpa using hlt)
      have hget : s.data.toList.getD k 0 = s[k] := by
        rw [List.getD_eq_getElem?_getD, List.getElem?_eq_getElem (by simpa using hlt)]
        rfl
      rw [hget] at hsn
      have HSN := Lib.hid hsn
      have hLL := wordL_len (s.data.toList.take k)
      have hLk : (s.data.toList.take k).length ≤ k := List.length_take_le _ _
      obtain ⟨i0, hi, hz0, hz1', hz2⟩ := info_parts Tryd.infoByte
      have h63 : (wordL (s.data.toList.take k)).length + 3 ≤ maxLen := by unfold maxLen; omega
      have hby : ((wordL (s.data.toList.take k)).length + 3) * 1 ≤ 140737488355328 := by omega
      have HH := Lib.hid hLL
      clear hLL hget hsn hLk
      obtain ⟨L, hL⟩ : ∃ L, L = wordL (s.data.toList.take k) := ⟨_, rfl⟩
      rw [← hL] at hrow h63 hby
      have HL := Lib.hid hL
      clear hL
      have hc256 : (s[k].toNat : Int) < 256 := by have := s[k].toNat_lt; omega
      go_wp2_with fail
      refine (plain_calls _ _).mono ?_
      rintro e w' ⟨rfl, rfl⟩
      by_cases hit : itselfB s[k] = true
      · rw [hit]
        go_wp2_with (at_builtin; refine wpList_append_lies (w'.alloc (.cells #[byteV s[k]] 5)) rfl _ _ 116 rfl w.heap.size 5 i0 (.int .u8 0) 1 1 Tryd.underlying116 hi hz0 hz1' hz2 rfl (by omega) u3 L.length (L.map byteV) rfl (hrow.alloc _).1 ⟨w'.heap.size, 0, none⟩ 1 1 [byteV s[k]] rfl rfl (World.news_of_block (cs := #[byteV s[k]]) (t := 5) (fr := (0, 0)) (heap_alloc_new w' _)) (by simp [Value.oneCell', byteV]) (by omega) (by omega) (by omega) (hrow.alloc _).2.2 (w'.heap.size + 1) (by simp) ?_; intro gg gcap w3 hown3 hgrow hat hlt3)
        have s4 : ByteRow w.heap.size w (.slice (some ⟨gg, 0, none⟩) (L.length + 1) gcap) (wordL (s.data.toList.take (k + 1))) w3 := by
          refine ⟨?_, (hrow.alloc _).2.1.grown hgrow (hrow.alloc _).2.2 (fun k hk => own_base' hrow.1 hk), Nat.le_trans (hrow.alloc _).2.2 hgrow.size⟩
          rw [HSN.out, ← HL.out, escB, if_pos hit]
          simpa using hown3
        have S4 := Lib.hid s4
        clear s4 hown3 hat
        go_wp2
        go_roundw
        case rel => exact ⟨k + 1, by omega, by go_num, S4.out⟩
        case measure => simp [intOf]; omega
      · have hit' : itselfB s[k] = false := by simpa using hit
        rw [hit']
        have hq1 : s[k].toNat / 16 < 16 := by omega
        have hq2 : s[k].toNat % 16 < 16 := by omega
        go_wp2_with fail
        refine wp_region_aged_tail 1 11 (by omega) (by kernel_rfl) (by kernel_rfl) ?_
        simp only [List.take_succ_cons, List.take_zero, List.drop_succ_cons, List.drop_zero]
        repeat (go_big_quiet_step ((exact calls_aged_same (hex_calls' _ _ (by first | exact (Int.natCast_ediv _ _).symm | exact (Int.natCast_emod _ _).symm) (by first | exact hq1 | exact hq2) _))))
        refine wpQuiet_nil ?_
        rintro w9 ⟨p, rfl⟩
        have s3 : ByteRow w.heap.size w u3 L (aged w' p) := hrow.below (aged_below w' p)
        obtain ⟨W3, hW3⟩ : ∃ W3, W3 = aged w' p := ⟨_, rfl⟩
        rw [← hW3] at s3
        rw [← hW3]
        clear hW3
        go_wp2_with (at_builtin; refine wpList_append_lies (W3.alloc (.cells #[byteV 37, byteV (hexD (s[k].toNat / 16)), byteV (hexD (s[k].toNat % 16))] 5)) rfl _ _ 116 rfl w.heap.size 5 i0 (.int .u8 0) 1 1 Tryd.underlying116 hi hz0 hz1' hz2 rfl (by omega) u3 L.length (L.map byteV) rfl (s3.alloc _).1 ⟨W3.heap.size, 0, none⟩ 3 3 [byteV 37, byteV (hexD (s[k].toNat / 16)), byteV (hexD (s[k].toNat % 16))] rfl rfl (World.news_of_block (cs := #[byteV 37, byteV (hexD (s[k].toNat / 16)), byteV (hexD (s[k].toNat % 16))]) (t := 5) (fr := (0, 0)) (heap_alloc_new W3 _)) (by simp [Value.oneCell', byteV]) (by omega) h63 hby (s3.alloc _).2.2 (W3.heap.size + 1) (by simp) ?_; intro gg gcap w3 hown3 hgrow hat hlt3)
        have s4 : ByteRow w.heap.size w (.slice (some ⟨gg, 0, none⟩) (L.length + 3) gcap) (wordL (s.data.toList.take (k + 1))) w3 := by
          refine ⟨?_, (s3.alloc _).2.1.grown hgrow (s3.alloc _).2.2 (fun k hk => own_base' s3.1 hk), Nat.le_trans (s3.alloc _).2.2 hgrow.size⟩
          rw [HSN.out, ← HL.out, escB, if_neg hit]
          simpa using hown3
        have S4 := Lib.hid s4
        clear s4 hown3 hat
        go_wp2
        refine NoPanic.normal ?_
        go_wp2
        go_roundw
        case rel => exact ⟨k + 1, by omega, by go_num, S4.out⟩
        case measure => simp [intOf]; omega
    · obtain rfl : k = s.size := by omega
      have hall : s.data.toList.take s.size = s.data.toList := List.take_of_length_le (by simp)
      rw [hall] at hrow
      have hcv := byteRow_conv hrow
      have hb := hrow.2.1
      clear hrow
      go_wp2
      go_ret
      refine ⟨?_, hb⟩
      rw [wordB, if_neg h0]
      rfl

theorem rword_calls (s : ByteArray) (w : World) (hs : 3 * s.size ≤ 140737488355328) :
    Calls Tryd.prog 52 #[.string s] w fun e w' => e = .returned (.string ⟨(wordB s.data.toList).toArray⟩) ∧ Below w.heap.size w w' := by
  by_cases h0 : s.data.toList = []
  · exact rword_empty s w h0
  · exact rword_full s w hs h0
end Go.Proofs.YtconkncoohcdfaaDoor
