/- What the document's lenient reading of a word gives. -/
import Derived.Test.YtconkncoohcdfaaDoorReq5
namespace Go.Proofs.YtconkncoohcdfaaDoor
open Go.RowKit
set_option linter.unusedSimpArgs false
set_option linter.unusedVariables false
set_option maxRecDepth 100000
attribute [local go_sem ↓] Go.wp_at_zero Go.wp_at_succ

theorem rdigit_calls (c : UInt8) (w : World) :
    Calls Tryd.prog 113 #[.int .u8 (c.toNat : Int)] w fun e w' => e = .returned (.int .u8 (digV c : Int)) ∧ w' = w := by
  have hc := c.toNat_lt
  by_cases h1 : 48 ≤ c.toNat
  · by_cases h2 : c.toNat ≤ 57
    · have hd : (digV c : Int) = (c.toNat : Int) - 48 := by unfold digV; rw [if_pos ⟨h1, h2⟩]; omega
      have k1 : (48 : Int) ≤ (c.toNat : Int) := by omega
      have k2 : (c.toNat : Int) ≤ 57 := by omega
      rw [hd]
      clear hd
      go_enter Tryd.func113, Tryd.ntmps113
      go_wp2
      go_ret
      exact ⟨rfl, rfl⟩
    · by_cases h3 : 97 ≤ c.toNat ∧ c.toNat ≤ 102
      · have hd : (digV c : Int) = (c.toNat : Int) - 97 + 10 := by unfold digV; rw [if_neg (by omega), if_pos h3]; omega
        have k1 : (48 : Int) ≤ (c.toNat : Int) := by omega
        have k2 : ¬ (c.toNat : Int) ≤ 57 := by omega
        have k3 : (97 : Int) ≤ (c.toNat : Int) := by omega
        have k4 : (c.toNat : Int) ≤ 102 := by omega
        rw [hd]
        clear hd
        go_enter Tryd.func113, Tryd.ntmps113
        go_wp2
        go_ret
        exact ⟨rfl, rfl⟩
      · have hd : (digV c : Int) = 16 := by unfold digV; rw [if_neg (by omega), if_neg h3]; rfl
        rw [hd]
        have k1 : (48 : Int) ≤ (c.toNat : Int) := by omega
        have k2 : ¬ (c.toNat : Int) ≤ 57 := by omega
        by_cases h4 : 97 ≤ c.toNat
        · have k3 : (97 : Int) ≤ (c.toNat : Int) := by omega
          have k4 : ¬ (c.toNat : Int) ≤ 102 := by omega
          go_enter Tryd.func113, Tryd.ntmps113
          go_wp2
          go_ret
          exact ⟨rfl, rfl⟩
        · have k3 : ¬ (97 : Int) ≤ (c.toNat : Int) := by omega
          go_enter Tryd.func113, Tryd.ntmps113
          go_wp2
          go_ret
          exact ⟨rfl, rfl⟩
  · have hd : (digV c : Int) = 16 := by unfold digV; rw [if_neg (by omega), if_neg (by omega)]; rfl
    rw [hd]
    have k1 : ¬ (48 : Int) ≤ (c.toNat : Int) := by omega
    have k3 : ¬ (97 : Int) ≤ (c.toNat : Int) := by omega
    go_enter Tryd.func113, Tryd.ntmps113
    go_wp2
    go_ret
    exact ⟨rfl, rfl⟩

set_option maxHeartbeats 4000000 in
theorem runword_calls (s : ByteArray) (w : World) (hs : s.size ≤ 1000000000) :
    Calls Tryd.prog 88 #[.string s] w fun e w' => e = .returned (unV (unwordP s.data.toList)) ∧ Below w.heap.size w w' := by
  have hstart : ByteRow w.heap.size w (.slice none 0 0) [] w := ⟨⟨by simp, .inl ⟨rfl, by simp⟩⟩, Below.refl _ _, Nat.le_refl _⟩
  have HS := Lib.hid hstart
  clear hstart
  go_enter Tryd.func88, Tryd.ntmps88
  go_wp2_with fail
  go_loopw [4, 5] (fun v i W => ∃ (k : Nat) (B : List UInt8), k ≤ s.size ∧ i = .int .i64 k ∧ decL s.data.toList = B ++ decL (s.data.toList.drop k) ∧ B.length ≤ k ∧ ByteRow w.heap.size w v B W) (fun _ i _ => s.size - (intOf i).toNat)
  case atStart => exact ⟨0, [], Nat.zero_le _, rfl, rfl, Nat.le_refl _, HS.out⟩
  case round =>
    obtain ⟨k, B, hk, rfl, hB, hBl, hrow⟩ := hrel
    have HB := Lib.hid hB
    clear hB
    by_cases hlt : k < s.size
    · obtain ⟨i0, hi, hz0, hz1', hz2⟩ := info_parts Tryd.infoByte
      have h63 : B.length + 3 ≤ maxLen := by unfold maxLen; omega
      have hby : (B.length + 3) * 1 ≤ 140737488355328 := by omega
      have hc256 : (s[k].toNat : Int) < 256 := by have := s[k].toNat_lt; omega
      by_cases hesc : s[k] = 37 ∧ k + 2 < s.size
      · obtain ⟨hck, hroom⟩ := hesc
        have hne : ((s[k].toNat : Int) == 37) = true := by rw [hck]; rfl
        have hr1 : ((k : Int) + 2 < (s.size : Int)) = True := eq_true (by omega)
        have hi1 := fun W => index_at s ((k : Int) + 1) (k + 1) (by omega) (by omega) W
        have hi2 := fun W => index_at s ((k : Int) + 2) (k + 2) (by omega) (by omega) W
        have hdrop : s.data.toList.drop k = 37 :: s[k + 1] :: s[k + 2] :: s.data.toList.drop (k + 3) := by
          rw [bytes_at s k hlt, hck, bytes_at s (k + 1) (by omega), bytes_at s (k + 2) (by omega)]
        have HD := Lib.hid hdrop
        clear hdrop hck
        go_wp2_with fail
        refine wp_region_aged (by kernel_rfl) (by kernel_rfl) ?_
        repeat (go_big_quiet_step ((exact calls_aged_same (rdigit_calls _ _))))
        refine wpQuiet_nil ?_
        rintro w9 ⟨p, rfl⟩
        have hrow := hrow.below (aged_below wr p)
        obtain ⟨W3, hW3⟩ : ∃ W3, W3 = aged wr p := ⟨_, rfl⟩
        rw [← hW3] at hrow ⊢
        clear hW3
        obtain ⟨d, hd⟩ : ∃ d, d = UInt8.ofNat (digV s[k + 1] * 16 + digV s[k + 2]) := ⟨_, rfl⟩
        have hbits : (((digV s[k + 1] : Nat) : Int) * 16 % 256 + ((digV s[k + 2] : Nat) : Int)) % 256 = (d.toNat : Int) := by
          rw [hd, UInt8.toNat_ofNat']
          omega
        rw [hbits]
        have HDD := Lib.hid hd
        clear hd hbits
        go_wp2_with (at_builtin; refine wpList_append_lies (W3.alloc (.cells #[byteV d] 5)) rfl _ _ 116 rfl w.heap.size 5 i0 (.int .u8 0) 1 1 Tryd.underlying116 hi hz0 hz1' hz2 rfl (by omega) u4 B.length (B.map byteV) rfl (hrow.alloc _).1 ⟨W3.heap.size, 0, none⟩ 1 1 [byteV d] rfl rfl (World.news_of_block (cs := #[byteV d]) (t := 5) (fr := (0, 0)) (heap_alloc_new W3 _)) (by simp [Value.oneCell', byteV]) (by omega) (by omega) (by omega) (hrow.alloc _).2.2 (W3.heap.size + 1) (by simp) ?_; intro gg gcap w3 hown3 hgrow hat hlt3)
        have s4 : ByteRow w.heap.size w (.slice (some ⟨gg, 0, none⟩) (B.length + 1) gcap) (B ++ [d]) w3 := by
          refine ⟨?_, (hrow.alloc _).2.1.grown hgrow (hrow.alloc _).2.2 (fun k hk => own_base' hrow.1 hk), Nat.le_trans (hrow.alloc _).2.2 hgrow.size⟩
          simpa using hown3
        have S4 := Lib.hid s4
        clear s4 hown3 hat
        go_wp2
        go_roundw
        case rel =>
          refine ⟨k + 3, B ++ [d], by omega, by go_num, ?_, by simp; omega, S4.out⟩
          rw [HB.out, HD.out, decL_esc, ← HDD.out]
          simp
        case measure => simp [intOf]; omega
      · have hgd : ((s[k].toNat : Int) == 37) = false ∨ (((s[k].toNat : Int) == 37) = true ∧ ((k : Int) + 2 < (s.size : Int)) = False) := by
          by_cases h : s[k] = 37
          · exact .inr ⟨by rw [h]; rfl, eq_false (by have : ¬ k + 2 < s.size := fun h' => hesc ⟨h, h'⟩; omega)⟩
          · exact .inl (beq_eq_false_iff_ne.2 (fun e => h (UInt8.toNat_inj.1 (by have : (37 : UInt8).toNat = 37 := rfl; omega))))
        have hdp : decL (s.data.toList.drop k) = s[k] :: decL (s.data.toList.drop (k + 1)) := by
          rw [bytes_at s k hlt]
          refine decL_plain ?_
          by_cases h : s[k] = 37
          · right
            have : ¬ k + 2 < s.size := fun h' => hesc ⟨h, h'⟩
            simp
            omega
          · exact .inl h
        have HDP := Lib.hid hdp
        clear hdp hesc
        rcases hgd with hne | ⟨hne, hr1⟩
        · go_wp2_with (at_builtin; refine wpList_append_lies (wr.alloc (.cells #[byteV s[k]] 5)) rfl _ _ 116 rfl w.heap.size 5 i0 (.int .u8 0) 1 1 Tryd.underlying116 hi hz0 hz1' hz2 rfl (by omega) u4 B.length (B.map byteV) rfl (hrow.alloc _).1 ⟨wr.heap.size, 0, none⟩ 1 1 [byteV s[k]] rfl rfl (World.news_of_block (cs := #[byteV s[k]]) (t := 5) (fr := (0, 0)) (heap_alloc_new wr _)) (by simp [Value.oneCell', byteV]) (by omega) (by omega) (by omega) (hrow.alloc _).2.2 (wr.heap.size + 1) (by simp) ?_; intro gg gcap w3 hown3 hgrow hat hlt3)
          have s4 : ByteRow w.heap.size w (.slice (some ⟨gg, 0, none⟩) (B.length + 1) gcap) (B ++ [s[k]]) w3 := by
            refine ⟨?_, (hrow.alloc _).2.1.grown hgrow (hrow.alloc _).2.2 (fun k hk => own_base' hrow.1 hk), Nat.le_trans (hrow.alloc _).2.2 hgrow.size⟩
            simpa using hown3
          have S4 := Lib.hid s4
          clear s4 hown3 hat
          go_wp2
          go_roundw
          case rel =>
            refine ⟨k + 1, B ++ [s[k]], by omega, by go_num, ?_, by simp; omega, S4.out⟩
            rw [HB.out, HDP.out]
            simp
          case measure => simp [intOf]; omega
        · go_wp2_with (at_builtin; refine wpList_append_lies (wr.alloc (.cells #[byteV s[k]] 5)) rfl _ _ 116 rfl w.heap.size 5 i0 (.int .u8 0) 1 1 Tryd.underlying116 hi hz0 hz1' hz2 rfl (by omega) u4 B.length (B.map byteV) rfl (hrow.alloc _).1 ⟨wr.heap.size, 0, none⟩ 1 1 [byteV s[k]] rfl rfl (World.news_of_block (cs := #[byteV s[k]]) (t := 5) (fr := (0, 0)) (heap_alloc_new wr _)) (by simp [Value.oneCell', byteV]) (by omega) (by omega) (by omega) (hrow.alloc _).2.2 (wr.heap.size + 1) (by simp) ?_; intro gg gcap w3 hown3 hgrow hat hlt3)
          have s4 : ByteRow w.heap.size w (.slice (some ⟨gg, 0, none⟩) (B.length + 1) gcap) (B ++ [s[k]]) w3 := by
            refine ⟨?_, (hrow.alloc _).2.1.grown hgrow (hrow.alloc _).2.2 (fun k hk => own_base' hrow.1 hk), Nat.le_trans (hrow.alloc _).2.2 hgrow.size⟩
            simpa using hown3
          have S4 := Lib.hid s4
          clear s4 hown3 hat
          go_wp2
          go_roundw
          case rel =>
            refine ⟨k + 1, B ++ [s[k]], by omega, by go_num, ?_, by simp; omega, S4.out⟩
            rw [HB.out, HDP.out]
            simp
          case measure => simp [intOf]; omega
    · obtain rfl : k = s.size := by omega
      have hnil : s.data.toList.drop s.size = [] := List.drop_of_length_le (by simp)
      have hdec : decL s.data.toList = B := by rw [HB.out, hnil]; simp [decL]
      have hcv := byteRow_conv hrow
      have hb := hrow.2.1
      have hcv0 := fun W => (run_convert_bytes_nil (P := Tryd.prog) W 116 5 Tryd.underlying116 Tryd.underlying5 0 0 9 Tryd.underlying9 : (convert 116 9 (.slice none 0 0)).run Tryd.prog W = .ok (.string ⟨#[]⟩) W)
      by_cases h37 : s.data.toList = [37]
      · have e37 : (s.toList == [37]) = true := by rw [ByteArray.toList_eq, h37]; rfl
        have hOs : (⟨#[]⟩ : ByteArray).size = 0 := rfl
        have hOu : unR s.data.toList = (⟨#[]⟩ : ByteArray).data.toList := by rw [h37]; rfl
        clear hrow hcv h37 hdec
        obtain ⟨D, hD⟩ : ∃ D : ByteArray, D = ⟨(wordB (⟨#[]⟩ : ByteArray).data.toList).toArray⟩ := ⟨_, rfl⟩
        have hwc := fun W => rword_calls (⟨#[]⟩ : ByteArray) W (by rw [hOs]; omega)
        simp only [← hD] at hwc
        have HWC := Lib.hid hwc
        have hDd : D.data.toList = wordB (⟨#[]⟩ : ByteArray).data.toList := by rw [hD]
        clear hwc
        by_cases hE : wordB (⟨#[]⟩ : ByteArray).data.toList = s.data.toList
        · have hne : (D.toList == s.toList) = true := by rw [ByteArray.toList_eq, ByteArray.toList_eq, hDd]; simpa using hE
          have hun : unwordP s.data.toList = some (⟨#[]⟩ : ByteArray).data.toList := unwordP_iff.2 hE
          have HUN := Lib.hid hun
          clear hun hE hDd hD
          go_wp2_with fail
          refine (HWC.out _).mono ?_
          rintro e w5 ⟨rfl, hb5⟩
          go_wp2
          go_ret2
          exact ⟨by rw [HUN.out]; rfl, hb.trans (hb5.mono hb.size)⟩
        · have hne : (D.toList == s.toList) = false := by rw [ByteArray.toList_eq, ByteArray.toList_eq, hDd]; simpa using hE
          have hun : unwordP s.data.toList = none := by
            cases hx : unwordP s.data.toList with
            | none => rfl
            | some t =>
              have ht := unwordP_iff.1 hx
              have h2 : unR s.data.toList = t := by rw [← ht, unR_word]
              rw [← hOu, h2] at hE
              exact absurd ht hE
          have HUN := Lib.hid hun
          clear hun hE hDd hD
          go_wp2_with fail
          refine (HWC.out _).mono ?_
          rintro e w5 ⟨rfl, hb5⟩
          go_wp2
          go_ret2
          exact ⟨by rw [HUN.out]; rfl, hb.trans (hb5.mono hb.size)⟩
      · have e37 : (s.toList == [37]) = false := by rw [ByteArray.toList_eq]; simpa using h37
        obtain ⟨O, hO⟩ : ∃ O : ByteArray, O = ⟨B.toArray⟩ := ⟨_, rfl⟩
        have hOs : O.size = B.length := by rw [hO]; rfl
        have hOu : unR s.data.toList = O.data.toList := by unfold unR; rw [if_neg h37, hdec, hO]
        rw [← hO] at hcv
        have HROW := Lib.hid hrow
        have HO := Lib.hid hO
        clear hrow h37 hdec hO hcv0
        obtain ⟨D, hD⟩ : ∃ D : ByteArray, D = ⟨(wordB O.data.toList).toArray⟩ := ⟨_, rfl⟩
        have hwc := fun W => rword_calls O W (by rw [hOs]; omega)
        simp only [← hD] at hwc
        have HWC := Lib.hid hwc
        have hDd : D.data.toList = wordB O.data.toList := by rw [hD]
        clear hwc
        by_cases hE : wordB O.data.toList = s.data.toList
        · have hne : (D.toList == s.toList) = true := by rw [ByteArray.toList_eq, ByteArray.toList_eq, hDd]; simpa using hE
          have hun : unwordP s.data.toList = some O.data.toList := unwordP_iff.2 hE
          have HUN := Lib.hid hun
          clear hun hE hDd hD
          go_wp2_with fail
          refine (HWC.out _).mono ?_
          rintro e w5 ⟨rfl, hb5⟩
          have hcv5 := byteRow_conv (HROW.out.below hb5)
          rw [← HO.out] at hcv5
          go_wp2
          go_ret2
          exact ⟨by rw [HUN.out]; rfl, hb.trans (hb5.mono hb.size)⟩
        · have hne : (D.toList == s.toList) = false := by rw [ByteArray.toList_eq, ByteArray.toList_eq, hDd]; simpa using hE
          have hun : unwordP s.data.toList = none := by
            cases hx : unwordP s.data.toList with
            | none => rfl
            | some t =>
              have ht := unwordP_iff.1 hx
              have h2 : unR s.data.toList = t := by rw [← ht, unR_word]
              rw [← hOu, h2] at hE
              exact absurd ht hE
          have HUN := Lib.hid hun
          clear hun hE hDd hD
          go_wp2_with fail
          refine (HWC.out _).mono ?_
          rintro e w5 ⟨rfl, hb5⟩
          go_wp2
          go_ret2
          exact ⟨by rw [HUN.out]; rfl, hb.trans (hb5.mono hb.size)⟩
end Go.Proofs.YtconkncoohcdfaaDoor
