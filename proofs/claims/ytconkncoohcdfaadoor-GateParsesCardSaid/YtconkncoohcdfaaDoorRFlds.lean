/- What the document's splitting of a line into fields gives. -/
import Derived.Test.YtconkncoohcdfaaDoorRPrs2
namespace Go.Proofs.YtconkncoohcdfaaDoor
open Go.RowKit
set_option linter.unusedSimpArgs false
set_option linter.unusedVariables false
set_option maxRecDepth 100000
attribute [local go_sem ↓] Go.wp_at_zero Go.wp_at_succ

set_option maxHeartbeats 2000000 in
theorem rfields_calls (s : ByteArray) (w : World) (hs : s.size ≤ 400) :
    Calls Tryd.prog 44 #[.string s] w fun e w' => ∃ g cap fs, e = .returned (.slice (some ⟨g, 0, none⟩) fs.length cap) ∧ texts fs = splitSp s.data.toList ∧ Fl g fs w' ∧ Below w.heap.size w w' := by
  have hstart : ScanRow w.heap.size w (.slice none 0 0) [] w := ⟨⟨by simp, .inl ⟨rfl, by simp⟩⟩, Below.refl _ _, Nat.le_refl _⟩
  have HS := Lib.hid hstart
  clear hstart
  go_enter Tryd.func44, Tryd.ntmps44
  go_wp2_with fail
  go_loopw [3, 4, 5] (fun v fr i W => ∃ (from_ k : Nat) (fs : List ByteArray), from_ ≤ k ∧ k ≤ s.size + 1 ∧ i = .int .i64 k ∧ fr = .int .i64 from_ ∧ fs.length ≤ k ∧ ScanRow w.heap.size w v fs W ∧
      ((k ≤ s.size ∧ splitSp s.data.toList = texts fs ++ splitSp (s.data.toList.drop from_) ∧ (32 : UInt8) ∉ (s.data.toList.drop from_).take (k - from_)) ∨ (k = s.size + 1 ∧ texts fs = splitSp s.data.toList))) (fun _ _ i _ => s.size + 1 - (intOf i).toNat)
  case atStart => exact ⟨0, 0, [], Nat.le_refl _, by omega, rfl, rfl, by simp, HS.out, .inl ⟨Nat.zero_le _, by simp [texts], by simp⟩⟩
  case round =>
    obtain ⟨from_, k, fs, hfk, hk, rfl, rfl, hfl, hrow, hcase⟩ := hrel
    have HCS := Lib.hid hcase
    clear hcase
    by_cases hlt : k ≤ s.size
    · obtain ⟨i0, hi, hz0, hz1', hz2⟩ := info_parts Tryd.infoStr
      have h63 : fs.length + 1 ≤ maxLen := by unfold maxLen; omega
      have hby : (fs.length + 1) * 16 ≤ 140737488355328 := by omega
      by_cases hend : k = s.size
      · have he1 : ((k : Int) == (s.size : Int)) = true := by rw [hend]; simp
        have hends := Lib.hid hend
        have hkz : k ≤ s.size := hlt
        clear hend
        obtain ⟨X, hX⟩ : ∃ X, s.extract from_ k = X := ⟨_, rfl⟩
        have hXd : X.data.toList = (s.data.toList.drop from_).take (k - from_) := by rw [← hX]; simp [List.take_drop]; try omega
        have HX := Lib.hid hXd
        clear hXd
        go_wp2_with (at_builtin; refine wpList_append_lies (wr.alloc (.cells #[.string X] 9)) rfl _ _ 39 rfl w.heap.size 9 i0 (.string ⟨#[]⟩) 1 16 Tryd.underlying39 hi hz0 hz1' hz2 rfl (by omega) u3 fs.length (fs.map Value.string) rfl (hrow.alloc _).1 ⟨wr.heap.size, 0, none⟩ 1 1 [.string X] rfl rfl (World.news_of_block (cs := #[.string X]) (t := 9) (fr := (0, 0)) (heap_alloc_new wr _)) (by simp [Value.oneCell']) (by omega) h63 hby (hrow.alloc _).2.2 (wr.heap.size + 1) (by simp) ?_; intro gg gcap w3 hown3 hgrow hat hlt3)
        have s4 : ScanRow w.heap.size w (.slice (some ⟨gg, 0, none⟩) (fs.length + 1) gcap) (fs ++ [X]) w3 := by
          refine ⟨?_, (hrow.alloc _).2.1.grown hgrow (hrow.alloc _).2.2 (fun k hk => own_base' hrow.1 hk), Nat.le_trans (hrow.alloc _).2.2 hgrow.size⟩
          simpa using hown3
        have S4 := Lib.hid s4
        clear s4 hown3 hat
        go_wp2
        go_roundw
        case rel =>
          refine ⟨k + 1, k + 1, fs ++ [X], Nat.le_refl _, by omega, by go_num, by go_num, by simp; omega, S4.out, .inr ⟨by have := hends.out; omega, ?_⟩⟩
          rcases HCS.out with ⟨_, h1, h2⟩ | ⟨h1, _⟩
          · have hall : (s.data.toList.drop from_).take (k - from_) = s.data.toList.drop from_ := List.take_of_length_le (by have := hends.out; simp; omega)
            rw [hall] at h2
            rw [h1, splitSp_plain h2, ← hall, ← HX.out]
            simp [texts]
          · omega
        case measure => simp [intOf]; omega
      · have hks : k < s.size := by omega
        have hkz : k ≤ s.size := hlt
        have he1 : ((k : Int) == (s.size : Int)) = false := beq_eq_false_iff_ne.2 (by omega)
        have hc256 : (s[k].toNat : Int) < 256 := by have := s[k].toNat_lt; omega
        have hdk : s.data.toList.drop from_ = (s.data.toList.drop from_).take (k - from_) ++ s[k] :: s.data.toList.drop (k + 1) := by
          have h := (List.take_append_drop (k - from_) (s.data.toList.drop from_)).symm
          rw [List.drop_drop, show from_ + (k - from_) = k by omega, bytes_at s k hks] at h
          exact h
        have HDK := Lib.hid hdk
        clear hdk hend
        by_cases h32 : s[k] = 32
        · have hsp : ((s[k].toNat : Int) == 32) = true := by rw [h32]; rfl
          have H32 := Lib.hid h32
          clear h32
          obtain ⟨X, hX⟩ : ∃ X, s.extract from_ k = X := ⟨_, rfl⟩
          have hXd : X.data.toList = (s.data.toList.drop from_).take (k - from_) := by rw [← hX]; simp [List.take_drop]; try omega
          have HX := Lib.hid hXd
          clear hXd
          go_wp2_with (at_builtin; refine wpList_append_lies (wr.alloc (.cells #[.string X] 9)) rfl _ _ 39 rfl w.heap.size 9 i0 (.string ⟨#[]⟩) 1 16 Tryd.underlying39 hi hz0 hz1' hz2 rfl (by omega) u3 fs.length (fs.map Value.string) rfl (hrow.alloc _).1 ⟨wr.heap.size, 0, none⟩ 1 1 [.string X] rfl rfl (World.news_of_block (cs := #[.string X]) (t := 9) (fr := (0, 0)) (heap_alloc_new wr _)) (by simp [Value.oneCell']) (by omega) h63 hby (hrow.alloc _).2.2 (wr.heap.size + 1) (by simp) ?_; intro gg gcap w3 hown3 hgrow hat hlt3)
          have s4 : ScanRow w.heap.size w (.slice (some ⟨gg, 0, none⟩) (fs.length + 1) gcap) (fs ++ [X]) w3 := by
            refine ⟨?_, (hrow.alloc _).2.1.grown hgrow (hrow.alloc _).2.2 (fun k hk => own_base' hrow.1 hk), Nat.le_trans (hrow.alloc _).2.2 hgrow.size⟩
            simpa using hown3
          have S4 := Lib.hid s4
          clear s4 hown3 hat
          go_wp2
          go_roundw
          case rel =>
            refine ⟨k + 1, k + 1, fs ++ [X], Nat.le_refl _, by omega, by go_num, by go_num, by simp; omega, S4.out, .inl ⟨by omega, ?_, by simp⟩⟩
            rcases HCS.out with ⟨_, h1, h2⟩ | ⟨h1, _⟩
            · rw [h1, HDK.out, H32.out, splitSp_app _ h2, ← HX.out]
              simp [texts]
            · omega
          case measure => simp [intOf]; omega
        · have hsp : ((s[k].toNat : Int) == 32) = false := beq_eq_false_iff_ne.2 (fun e => h32 (UInt8.toNat_inj.1 (by have : (32 : UInt8).toNat = 32 := rfl; omega)))
          have H32 := Lib.hid h32
          clear h32
          go_wp2
          go_roundw
          case rel =>
            refine ⟨from_, k + 1, fs, by omega, by omega, by go_num, rfl, by omega, hrow, .inl ⟨by omega, ?_, ?_⟩⟩
            · rcases HCS.out with ⟨_, h1, h2⟩ | ⟨h1, _⟩
              · exact h1
              · omega
            · rcases HCS.out with ⟨_, h1, h2⟩ | ⟨h1, _⟩
              · have ht : (s.data.toList.drop from_).take (k + 1 - from_) = (s.data.toList.drop from_).take (k - from_) ++ [s[k]] := by
                  rw [show k + 1 - from_ = (k - from_) + 1 by omega, List.take_succ_eq_append_getElem (by simp; omega)]
                  congr 1
                  simp only [List.getElem_drop, show from_ + (k - from_) = k by omega]
                  rfl
                rw [ht]
                intro hm
                rcases List.mem_append.1 hm with hm | hm
                · exact h2 hm
                · exact H32.out (List.mem_singleton.1 hm).symm
              · omega
          case measure => simp [intOf]; omega
    · obtain rfl : k = s.size + 1 := by omega
      have htx : texts fs = splitSp s.data.toList := by
        rcases HCS.out with ⟨h1, _⟩ | ⟨_, h2⟩
        · omega
        · exact h2
      have hpos : 0 < fs.length := by
        rcases Nat.eq_zero_or_pos fs.length with h | h
        · have : fs = [] := List.eq_nil_of_length_eq_zero h
          rw [this] at htx
          exact absurd htx.symm (splitSp_ne _)
        · exact h
      obtain ⟨g, gc, rfl, hcap, hgl, hcells⟩ := row_form hrow.1 hpos
      have hb := hrow.2.1
      have HTX := Lib.hid htx
      have HCE := Lib.hid hcells
      clear hrow htx hcells
      go_wp2
      go_ret
      exact ⟨g, gc, fs, rfl, HTX.out, fun j hj => HCE.out j _ (List.getElem?_eq_getElem hj), hb⟩
end Go.Proofs.YtconkncoohcdfaaDoor
