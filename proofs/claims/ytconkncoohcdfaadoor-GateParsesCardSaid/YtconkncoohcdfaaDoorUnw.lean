/- What route.Unword reads out of a word; new blocks alone. -/
import Derived.Test.YtconkncoohcdfaaDoorReq4
namespace Go.Proofs.YtconkncoohcdfaaDoor
open Go.RowKit
set_option linter.unusedSimpArgs false
set_option linter.unusedVariables false
set_option maxRecDepth 100000
attribute [local go_sem ↓] Go.wp_at_zero Go.wp_at_succ

def unV (r : Option (List UInt8)) : Value := match r with
  | some t => .tuple #[.string ⟨t.toArray⟩, .int .i64 0]
  | none => .tuple #[.string ⟨#[]⟩, .int .i64 120]

/-- a word that is no word: at what is read so far -/
theorem unword_stuck {s B r : List UInt8} {c : UInt8} (h : s = wordL B ++ c :: r) (h37 : s ≠ [37]) (hi : itselfB c = false) (hx : ∀ (d : UInt8) (t : List UInt8), itselfB d = false → c :: r ≠ [37, hexD (d.toNat / 16), hexD (d.toNat % 16)] ++ wordL t) : unwordP s = none := by
  cases hu : unwordP s with
  | none => rfl
  | some t =>
    obtain ⟨_, ht⟩ := (wordB_eq h37).1 (unwordP_iff.1 hu)
    rw [h] at ht
    obtain ⟨t', _, h2⟩ := wordL_rest ht.symm
    cases t' with
    | nil => simp [wordL] at h2
    | cons d t' =>
      rw [wordL_cons] at h2
      by_cases hd : itselfB d = true
      · rw [escB_cons d hd] at h2
        simp only [List.cons_append, List.nil_append, List.cons.injEq] at h2
        rw [h2.1] at hi
        rw [hi] at hd
        cases hd
      · rw [escB_esc d (by simpa using hd)] at h2
        exact absurd h2 (hx d t' (by simpa using hd))
theorem unword_done {s B : List UInt8} (h : s = wordL B) (h37 : s ≠ [37]) (h0 : s ≠ []) : unwordP s = some B := by
  refine unwordP_iff.2 ((wordB_eq h37).2 ⟨?_, h.symm⟩)
  rintro rfl
  exact h0 h

def hexI (c : UInt8) : Int := if digV c < 16 then (digV c : Int) else -1
theorem hexI_all : ((List.range 256).all fun n => Lib.indexByte [48, 49, 50, 51, 52, 53, 54, 55, 56, 57, 97, 98, 99, 100, 101, 102] (UInt8.ofNat n) == hexI (UInt8.ofNat n)) = true := by kernel_rfl
theorem hexI_eq (c : UInt8) : Lib.indexByte [48, 49, 50, 51, 52, 53, 54, 55, 56, 57, 97, 98, 99, 100, 101, 102] c = hexI c := by
  have h := List.all_eq_true.1 hexI_all c.toNat (List.mem_range.2 c.toNat_lt)
  have e : UInt8.ofNat c.toNat = c := by simp
  rw [e] at h
  exact beq_iff_eq.1 h
theorem digit_index (c : UInt8) (w : World) : Calls Tryd.prog 110 #[.string ⟨#[48, 49, 50, 51, 52, 53, 54, 55, 56, 57, 97, 98, 99, 100, 101, 102]⟩, .int .u8 (c.toNat : Int)] w fun e w' => e = .returned (.int .i64 (hexI c)) ∧ w' = w := by
  have h := Tryd.strings_IndexByte ⟨#[48, 49, 50, 51, 52, 53, 54, 55, 56, 57, 97, 98, 99, 100, 101, 102]⟩ (c.toNat : Int) w
  have e : ((c.toNat : Int).toNat).toUInt8 = c := by simp
  rw [e, show (⟨#[48, 49, 50, 51, 52, 53, 54, 55, 56, 57, 97, 98, 99, 100, 101, 102]⟩ : ByteArray).data.toList = [48, 49, 50, 51, 52, 53, 54, 55, 56, 57, 97, 98, 99, 100, 101, 102] from rfl, hexI_eq c] at h
  exact h

theorem index_at (s : ByteArray) (i : Int) (n : Nat) (e : i = n) (h : n < s.size) (W : World) : (Instr.index 9 (.string s) (.int .i64 i)).run Tryd.prog W = .ok (.int .u8 (s[n].toNat : Int)) W := by
  subst e
  rw [run_index_string W _ _ _ _ Tryd.underlying9, dif_pos ⟨by omega, by omega⟩]
  simp

theorem hexD_digV (c : UInt8) (h : digV c < 16) : hexD (digV c) = c := by
  apply UInt8.toNat_inj.1
  have h1 := hexD_num (digV c) h
  unfold digV at h h1 ⊢
  split at h
  · rename_i hc
    simp only [if_pos hc] at h1 ⊢
    rw [if_pos (by omega)] at h1
    omega
  · rename_i hc
    split at h
    · rename_i hd
      simp only [if_neg hc, if_pos hd] at h1 ⊢
      rw [if_neg (by omega)] at h1
      omega
    · omega
theorem or_all : ((List.range 16).all fun x => (List.range 16).all fun y => bits .or .i64 ((x : Int) * 16) (y : Int) == (x : Int) * 16 + y) = true := by kernel_rfl
theorem or_eq (x y : Nat) (hx : x < 16) (hy : y < 16) : bits .or .i64 ((x : Int) * 16) (y : Int) % 256 = ((UInt8.ofNat (x * 16 + y)).toNat : Int) := by
  have h := List.all_eq_true.1 (List.all_eq_true.1 or_all x (List.mem_range.2 hx)) y (List.mem_range.2 hy)
  rw [beq_iff_eq.1 h, UInt8.toNat_ofNat']
  omega
theorem bytes_at (s : ByteArray) (k : Nat) (h : k < s.size) : s.data.toList.drop k = s[k] :: s.data.toList.drop (k + 1) := by
  have h' : k < s.data.toList.length := by simpa using h
  rw [List.drop_eq_getElem_cons h']
  rfl
theorem bytes_from (s : ByteArray) (k : Nat) : s.data.toList = s.data.toList.take k ++ s.data.toList.drop k := (List.take_append_drop _ _).symm

set_option maxHeartbeats 4000000 in
theorem unword_full (s : ByteArray) (w : World) (hs : s.size ≤ 1000000000) (h0 : s.data.toList ≠ []) (h37 : s.data.toList ≠ [37]) :
    Calls Tryd.prog 86 #[.string s] w fun e w' => e = .returned (unV (unwordP s.data.toList)) ∧ Below w.heap.size w w' := by
  have hstart : ByteRow w.heap.size w (.slice none 0 0) [] w := ⟨⟨by simp, .inl ⟨rfl, by simp⟩⟩, Below.refl _ _, Nat.le_refl _⟩
  have HS := Lib.hid hstart
  clear hstart
  go_enter Tryd.func86, Tryd.ntmps86
  have e37 : (s.toList == [37]) = false := by rw [ByteArray.toList_eq]; simpa using h37
  have e0 : s.toList.isEmpty = false := by rw [ByteArray.toList_eq]; simpa using h0
  go_wp2_with fail
  go_loopw [4, 5] (fun v i W => ∃ (k : Nat) (B : List UInt8), k ≤ s.size ∧ i = .int .i64 k ∧ wordL B = s.data.toList.take k ∧ B.length ≤ k ∧ ByteRow w.heap.size w v B W) (fun _ i _ => s.size - (intOf i).toNat)
  case atStart => exact ⟨0, [], Nat.zero_le _, rfl, rfl, Nat.le_refl _, HS.out⟩
  case round =>
    obtain ⟨k, B, hk, rfl, hB, hBl, hrow⟩ := hrel
    have HB := Lib.hid hB
    clear hB e37 e0
    by_cases hlt : k < s.size
    · obtain ⟨i0, hi, hz0, hz1', hz2⟩ := info_parts Tryd.infoByte
      have h63 : B.length + 3 ≤ maxLen := by unfold maxLen; omega
      have hby : (B.length + 3) * 1 ≤ 140737488355328 := by omega
      have hc256 : (s[k].toNat : Int) < 256 := by have := s[k].toNat_lt; omega
      have hfrom : s.data.toList = wordL B ++ s[k] :: s.data.toList.drop (k + 1) := by rw [HB.out, ← bytes_at s k hlt]; exact bytes_from s k
      have HF := Lib.hid hfrom
      clear hfrom
      go_wp2_with fail
      refine (itself_calls _ _).mono ?_
      rintro e w' ⟨rfl, rfl⟩
      by_cases hit : itselfB s[k] = true
      · rw [hit]
        go_wp2_with (at_builtin; refine wpList_append_lies (w'.alloc (.cells #[byteV s[k]] 5)) rfl _ _ 116 rfl w.heap.size 5 i0 (.int .u8 0) 1 1 Tryd.underlying116 hi hz0 hz1' hz2 rfl (by omega) u4 B.length (B.map byteV) rfl (hrow.alloc _).1 ⟨w'.heap.size, 0, none⟩ 1 1 [byteV s[k]] rfl rfl (World.news_of_block (cs := #[byteV s[k]]) (t := 5) (fr := (0, 0)) (heap_alloc_new w' _)) (by simp [Value.oneCell', byteV]) (by omega) (by omega) (by omega) (hrow.alloc _).2.2 (w'.heap.size + 1) (by simp) ?_; intro gg gcap w3 hown3 hgrow hat hlt3)
        have s4 : ByteRow w.heap.size w (.slice (some ⟨gg, 0, none⟩) (B.length + 1) gcap) (B ++ [s[k]]) w3 := by
          refine ⟨?_, (hrow.alloc _).2.1.grown hgrow (hrow.alloc _).2.2 (fun k hk => own_base' hrow.1 hk), Nat.le_trans (hrow.alloc _).2.2 hgrow.size⟩
          simpa using hown3
        have S4 := Lib.hid s4
        clear s4 hown3 hat
        go_wp2
        go_roundw
        case rel =>
          refine ⟨k + 1, B ++ [s[k]], by omega, by go_num, ?_, by simp; omega, S4.out⟩
          rw [show wordL (B ++ [s[k]]) = wordL B ++ escB s[k] by simp [wordL], escB_cons _ hit, HB.out, List.take_succ_eq_append_getElem (by simpa using hlt)]
          rfl
        case measure => simp [intOf]; omega
      · have hit' : itselfB s[k] = false := by simpa using hit
        clear hit
        rw [hit']
        have HIT := Lib.hid hit'
        clear hit'
        by_cases h37c : s[k].toNat = 37
        · have hne : ((s[k].toNat : Int) != 37) = false := by rw [h37c]; rfl
          have hck : s[k] = 37 := UInt8.toNat_inj.1 h37c
          have HCK := Lib.hid hck
          clear h37c hck
          by_cases hroom : k + 2 < s.size
          · have hr1 : ((s.size : Int) ≤ (k : Int) + 2) = False := eq_false (by omega)
            have hi1 := fun W => index_at s ((k : Int) + 1) (k + 1) (by omega) (by omega) W
            have hi2 := fun W => index_at s ((k : Int) + 2) (k + 2) (by omega) (by omega) W
            have hdrop : s.data.toList.drop (k + 1) = s[k + 1] :: s[k + 2] :: s.data.toList.drop (k + 3) := by
              rw [bytes_at s (k + 1) (by omega), bytes_at s (k + 2) (by omega)]
            have HD := Lib.hid hdrop
            clear hdrop
            go_wp2_with fail
            refine wp_region_aged (by kernel_rfl) (by kernel_rfl) ?_
            repeat (go_big_quiet_step ((exact calls_aged_same (digit_index _ _))))
            refine wpQuiet_nil ?_
            rintro w9 ⟨p, rfl⟩
            obtain ⟨x, hxd⟩ : ∃ x, x = digV s[k + 1] := ⟨_, rfl⟩
            obtain ⟨y, hyd⟩ : ∃ y, y = digV s[k + 2] := ⟨_, rfl⟩
            have HX := Lib.hid hxd
            have HY := Lib.hid hyd
            have hrow := hrow.below (aged_below w' p)
            obtain ⟨W3, hW3⟩ : ∃ W3, W3 = aged w' p := ⟨_, rfl⟩
            rw [← hW3] at hrow ⊢
            clear hW3
            have hbel := hrow.2.1
            by_cases hx16 : x < 16
            · have hX : hexI s[k + 1] = (x : Int) := by unfold hexI; rw [← hxd, if_pos hx16]
              have hx0 : ((x : Int) < 0) = False := eq_false (by omega)
              have hx1 : (x : Int) < 16 := by omega
              by_cases hy16 : y < 16
              · have hY : hexI s[k + 2] = (y : Int) := by unfold hexI; rw [← hyd, if_pos hy16]
                have hy0 : ((y : Int) < 0) = False := eq_false (by omega)
                have hy1 : (y : Int) < 16 := by omega
                have hbits := or_eq x y hx16 hy16
                obtain ⟨d, hd⟩ : ∃ d, d = UInt8.ofNat (x * 16 + y) := ⟨_, rfl⟩
                rw [← hd] at hbits
                have HDD := Lib.hid hd
                clear hxd hyd hd
                have hdx : d.toNat / 16 = x ∧ d.toNat % 16 = y := by rw [HDD.out, UInt8.toNat_ofNat']; omega
                go_wp2_with fail
                refine (itself_calls _ _).mono ?_
                rintro e w5 ⟨rfl, rfl⟩
                by_cases hdi : itselfB d = true
                · rw [hdi]
                  go_wp2
                  go_ret2
                  refine ⟨?_, hbel⟩
                  rw [unword_stuck HF.out h37 HIT.out (fun d' t hd' hh => ?_)]
                  · rfl
                  · rw [HD.out] at hh
                    simp only [List.cons_append, List.nil_append, List.cons.injEq] at hh
                    have hd'l := d'.toNat_lt
                    have e1 : d'.toNat / 16 = x := by rw [HX.out, hh.2.1, digV_hexD _ (by omega)]
                    have e2 : d'.toNat % 16 = y := by rw [HY.out, hh.2.2.1, digV_hexD _ (by omega)]
                    have : d' = d := u8_eq (by omega) (by omega)
                    rw [this, hdi] at hd'
                    cases hd'
                · have hdi' : itselfB d = false := by simpa using hdi
                  rw [hdi']
                  have HDI := Lib.hid hdi'
                  clear hdi hdi'
                  go_wp2_with (at_builtin; refine wpList_append_lies (w5.alloc (.cells #[byteV d] 5)) rfl _ _ 116 rfl w.heap.size 5 i0 (.int .u8 0) 1 1 Tryd.underlying116 hi hz0 hz1' hz2 rfl (by omega) u4 B.length (B.map byteV) rfl (hrow.alloc _).1 ⟨w5.heap.size, 0, none⟩ 1 1 [byteV d] rfl rfl (World.news_of_block (cs := #[byteV d]) (t := 5) (fr := (0, 0)) (heap_alloc_new w5 _)) (by simp [Value.oneCell', byteV]) (by omega) (by omega) (by omega) (hrow.alloc _).2.2 (w5.heap.size + 1) (by simp) ?_; intro gg gcap w3 hown3 hgrow hat hlt3)
                  have s4 : ByteRow w.heap.size w (.slice (some ⟨gg, 0, none⟩) (B.length + 1) gcap) (B ++ [d]) w3 := by
                    refine ⟨?_, (hrow.alloc _).2.1.grown hgrow (hrow.alloc _).2.2 (fun k hk => own_base' hrow.1 hk), Nat.le_trans (hrow.alloc _).2.2 hgrow.size⟩
                    simpa using hown3
                  have S4 := Lib.hid s4
                  clear s4 hown3 hat
                  go_wp2
                  go_roundw
                  case rel =>
                    refine ⟨k + 3, B ++ [d], by omega, by go_num, ?_, by simp; omega, S4.out⟩
                    have ht : s.data.toList.take (k + 3) = s.data.toList.take k ++ [s[k], s[k + 1], s[k + 2]] := by
                      rw [List.take_add, bytes_at s k hlt, HD.out]
                      simp
                    have g1 : s[k + 1] = hexD x := by
                      rw [HX.out]
                      exact (hexD_digV _ (by rw [← HX.out]; exact hx16)).symm
                    have g2 : s[k + 2] = hexD y := by
                      rw [HY.out]
                      exact (hexD_digV _ (by rw [← HY.out]; exact hy16)).symm
                    rw [show wordL (B ++ [d]) = wordL B ++ escB d by simp [wordL], escB_esc _ HDI.out, HB.out, ht, hdx.1, hdx.2, HCK.out, g1, g2]
                  case measure => simp [intOf]; omega
              · have hY : hexI s[k + 2] = -1 := by unfold hexI; rw [← hyd, if_neg hy16]
                clear hxd hyd
                go_wp2
                go_ret2
                refine ⟨?_, hbel⟩
                rw [unword_stuck HF.out h37 HIT.out (fun d' t hd' hh => ?_)]
                · rfl
                · rw [HD.out] at hh
                  simp only [List.cons_append, List.nil_append, List.cons.injEq] at hh
                  exact hy16 (by rw [HY.out, hh.2.2.1, digV_hexD _ (by omega)]; omega)
            · have hX : hexI s[k + 1] = -1 := by unfold hexI; rw [← hxd, if_neg hx16]
              clear hxd hyd
              go_wp2
              go_ret2
              refine ⟨?_, hbel⟩
              rw [unword_stuck HF.out h37 HIT.out (fun d' t hd' hh => ?_)]
              · rfl
              · rw [HD.out] at hh
                simp only [List.cons_append, List.nil_append, List.cons.injEq] at hh
                have := d'.toNat_lt
                exact hx16 (by rw [HX.out, hh.2.1, digV_hexD _ (by omega)]; omega)
          · have hr1 : ((s.size : Int) ≤ (k : Int) + 2) = True := eq_true (by omega)
            have hbel := hrow.2.1
            go_wp2
            go_ret2
            refine ⟨?_, hbel⟩
            rw [unword_stuck HF.out h37 HIT.out (fun d' t hd' hh => ?_)]
            · rfl
            · have := congrArg List.length hh
              simp at this
              omega
        · have hne : ((s[k].toNat : Int) != 37) = true := by simp; omega
          have hbel := hrow.2.1
          go_wp2
          go_ret2
          refine ⟨?_, hbel⟩
          rw [unword_stuck HF.out h37 HIT.out (fun d' t hd' hh => ?_)]
          · rfl
          · simp only [List.cons_append, List.nil_append, List.cons.injEq] at hh
            exact h37c (by rw [hh.1]; rfl)
    · obtain rfl : k = s.size := by omega
      have hall : s.data.toList.take s.size = s.data.toList := List.take_of_length_le (by simp)
      have hdone : unwordP s.data.toList = some B := unword_done (by rw [HB.out, hall]) h37 h0
      have hcv := byteRow_conv hrow
      have hb := hrow.2.1
      have HDN := Lib.hid hdone
      clear hrow hdone
      go_wp2
      go_ret2
      exact ⟨by rw [HDN.out]; rfl, hb⟩

theorem unword_one (w : World) : Calls Tryd.prog 86 #[.string ⟨#[37]⟩] w fun e w' => e = .returned (unV (some [])) ∧ Below w.heap.size w w' := by
  go_enter Tryd.func86, Tryd.ntmps86
  go_wp2
  go_ret2
  exact ⟨rfl, Below.refl _ _⟩
theorem unword_zero (w : World) : Calls Tryd.prog 86 #[.string ⟨#[]⟩] w fun e w' => e = .returned (unV none) ∧ Below w.heap.size w w' := by
  go_enter Tryd.func86, Tryd.ntmps86
  go_wp2
  go_ret2
  exact ⟨rfl, Below.refl _ _⟩
theorem bytes_eq {s : ByteArray} {l : List UInt8} (h : s.data.toList = l) : s = ⟨l.toArray⟩ := by
  subst h
  rfl

/-- route.Unword, of any text of at most a billion bytes. -/
theorem unword_calls (s : ByteArray) (w : World) (hs : s.size ≤ 1000000000) :
    Calls Tryd.prog 86 #[.string s] w fun e w' => e = .returned (unV (unwordP s.data.toList)) ∧ Below w.heap.size w w' := by
  by_cases h0 : s.data.toList = []
  · have hn : unwordP [] = none := by
      cases hu : unwordP [] with
      | none => rfl
      | some t => exact absurd (unwordP_iff.1 hu) (wordB_ne t)
    rw [h0, hn]
    obtain rfl := bytes_eq h0
    exact unword_zero w
  by_cases h37 : s.data.toList = [37]
  · have hn : unwordP [37] = some [] := unwordP_word []
    rw [h37, hn]
    obtain rfl := bytes_eq h37
    exact unword_one w
  exact unword_full s w hs h0 h37
end Go.Proofs.YtconkncoohcdfaaDoor
