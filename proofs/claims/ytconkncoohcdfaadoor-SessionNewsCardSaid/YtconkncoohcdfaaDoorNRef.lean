/- The document's test of a configuration is the program's. For any list of splits. -/
import Derived.Test.YtconkncoohcdfaaDoorNConf
namespace Go.Proofs.YtconkncoohcdfaaDoor
open Go.RowKit
set_option linter.unusedSimpArgs false
set_option linter.unusedVariables false
set_option maxRecDepth 100000
attribute [local go_sem ↓] Go.wp_at_zero Go.wp_at_succ

/-- the text ahead of place k -/
def prevS (fs : List ByteArray) (k : Nat) : ByteArray := if k = 0 then ⟨#[]⟩ else fs.getD (k - 1) ⟨#[]⟩
theorem prevS_succ (fs : List ByteArray) (k : Nat) (h : k < fs.length) : prevS fs (k + 1) = fs[k] := by
  unfold prevS
  rw [if_neg (by omega), Nat.add_sub_cancel, List.getD_eq_getElem?_getD, List.getElem?_eq_getElem h]
  rfl
theorem btw_dec (v lo hi : Int) : btwB v lo hi = (!decide (v < lo) && !decide (hi < v)) := by
  unfold btwB
  congr 1
  · rw [Bool.eq_iff_iff]; simp
  · rw [Bool.eq_iff_iff]; simp

set_option maxHeartbeats 4000000 in
theorem rrvalid_calls (sh cl ca pk wd : Int) (A : Option Addr) (fs : List ByteArray) (cap : Nat) (hl : fs.length ≤ 9223372036854775807) (w : World) (hs : StrsIn A fs w) :
    Calls Tryd.prog 55 #[.agg (confC sh cl (.slice A fs.length cap) ca pk wd)] w fun e w' => e = .returned (.bool (validB sh cl ca pk fs)) ∧ Below w.heap.size w w' := by
  obtain ⟨b5, hb5⟩ : ∃ b, b = chkS ⟨#[]⟩ fs := ⟨_, rfl⟩
  unfold validB numsB confC
  simp only [btw_dec]
  rw [← hb5]
  obtain ⟨d0, e_d0⟩ : ∃ d, decide (sh < 1) = d := ⟨_, rfl⟩
  obtain ⟨d1, e_d1⟩ : ∃ d, decide (6 < sh) = d := ⟨_, rfl⟩
  obtain ⟨d2, e_d2⟩ : ∃ d, decide (cl < 1) = d := ⟨_, rfl⟩
  obtain ⟨d3, e_d3⟩ : ∃ d, decide (6 < cl) = d := ⟨_, rfl⟩
  obtain ⟨d4, e_d4⟩ : ∃ d, decide (ca < 256) = d := ⟨_, rfl⟩
  obtain ⟨d5, e_d5⟩ : ∃ d, decide (1048576 < ca) = d := ⟨_, rfl⟩
  obtain ⟨d6, e_d6⟩ : ∃ d, decide (pk < 0) = d := ⟨_, rfl⟩
  obtain ⟨d7, e_d7⟩ : ∃ d, decide (16 < pk) = d := ⟨_, rfl⟩
  rw [e_d0, e_d1, e_d2, e_d3, e_d4, e_d5, e_d6, e_d7]
  have hbox : Below w.heap.size w (w.alloc (.cells #[.int .i64 sh, .int .i64 cl, .slice A fs.length cap, .int .i64 ca, .int .i64 pk, .int .u64 wd] 41)) := (Below.refl _ _).alloc (Nat.le_refl _) _
  have HS := Lib.hid (hs.below hbox)
  have HX := Lib.hid hbox
  have H5 := Lib.hid hb5
  clear hb5 hs hbox
  cases d0
  case true =>
    go_enter Tryd.func55, Tryd.ntmps55
    go_wp2
    go_ret
    exact ⟨by simp, HX.out⟩
  cases d1
  case true =>
    go_enter Tryd.func55, Tryd.ntmps55
    go_wp2
    go_ret
    exact ⟨by simp, HX.out⟩
  cases d2
  case true =>
    go_enter Tryd.func55, Tryd.ntmps55
    go_wp2
    go_ret
    exact ⟨by simp, HX.out⟩
  cases d3
  case true =>
    go_enter Tryd.func55, Tryd.ntmps55
    go_wp2
    go_ret
    exact ⟨by simp, HX.out⟩
  cases d4
  case true =>
    go_enter Tryd.func55, Tryd.ntmps55
    go_wp2
    go_ret
    exact ⟨by simp, HX.out⟩
  cases d5
  case true =>
    go_enter Tryd.func55, Tryd.ntmps55
    go_wp2
    go_ret
    exact ⟨by simp, HX.out⟩
  cases d6
  case true =>
    go_enter Tryd.func55, Tryd.ntmps55
    go_wp2
    go_ret
    exact ⟨by simp, HX.out⟩
  cases d7
  case true =>
    go_enter Tryd.func55, Tryd.ntmps55
    go_wp2
    go_ret
    exact ⟨by simp, HX.out⟩
  have s1 : 1 ≤ sh := by have := of_decide_eq_false e_d0; omega
  have s2 : sh ≤ 6 := by have := of_decide_eq_false e_d1; omega
  by_cases hn : (fs.length : Int) = sh - 1
  · have n1 : ((fs.length : Int) == sh - 1) = true := beq_iff_eq.2 hn
    have n2 : ((fs.length : Int) != sh - 1) = false := by simp [bne, n1]
    have HN := Lib.hid hn
    clear hn
    go_enter Tryd.func55, Tryd.ntmps55
    go_wp2
    go_loop [3] (fun i => ∃ k : Nat, k ≤ fs.length ∧ i = .int .i64 k ∧ Hid (chkS ⟨#[]⟩ fs = chkS (prevS fs k) (fs.drop k))) (fun i => fs.length - (intOf i).toNat)
    case atStart => exact ⟨0, Nat.zero_le _, rfl, Lib.hid rfl⟩
    case round =>
      obtain ⟨k, hk, rfl, HK⟩ := hrel
      by_cases hlt : k < fs.length
      · obtain ⟨b, off, rfl, hc⟩ := HS.out (by omega)
        have hck := hc k hlt
        have hst := chk_step (prevS fs k) fs k hlt
        have hnx := prevS_succ fs k hlt
        obtain ⟨s, hsd⟩ : ∃ s, s = fs[k] := ⟨_, rfl⟩
        rw [← hsd] at hck hst hnx
        have HST := Lib.hid hst
        have HNX := Lib.hid hnx
        clear hst hsd hnx
        obtain ⟨d1, e1⟩ : ∃ d, s.toList.isEmpty = d := ⟨_, rfl⟩
        obtain ⟨d2, e2⟩ : ∃ d, decide ((32 : Int) < (s.size : Int)) = d := ⟨_, rfl⟩
        cases d1
        case true =>
          have HE := Lib.hid e1
          clear hc
          go_wp2
          go_ret
          refine ⟨?_, HX.out⟩
          have he : s.toList = [] := List.isEmpty_iff.1 HE.out
          have hle : leS s (prevS fs k) = true := by rw [leS_not, he, less_nil]; rfl
          rw [H5.out, HK.out, HST.out, hle]
          simp
        cases d2
        case true =>
          have HE := Lib.hid e2
          clear hc
          go_wp2
          go_ret
          refine ⟨?_, HX.out⟩
          rw [H5.out, HK.out, HST.out, HE.out]
          simp
        by_cases hk0 : k = 0
        · subst hk0
          rw [Nat.add_zero] at hck
          have HE1 := Lib.hid e1
          have HE2 := Lib.hid e2
          clear hc
          go_wp2
          go_round
          case rel =>
            refine ⟨1, by omega, by go_num, Lib.hid (HK.out.trans ?_)⟩
            have hle : leS s (prevS fs 0) = false := by
              rw [show prevS fs 0 = ⟨#[]⟩ from rfl, leS_empty]
              have := HE1.out
              cases h : s.toList with
              | nil => rw [h] at this; simp at this
              | cons => rfl
            rw [HST.out, hle, HE2.out, HNX.out]
            simp
          case measure => simp [intOf]; omega
        · obtain ⟨m, rfl⟩ : ∃ m, k = m + 1 := ⟨k - 1, by omega⟩
          have hcm := hc m (by omega)
          have hpv := prevS_succ fs m (by omega)
          obtain ⟨P, hP⟩ : ∃ P, P = fs[m]'(by omega) := ⟨_, rfl⟩
          rw [← hP] at hcm hpv
          have HPV := Lib.hid hpv
          have HE2 := Lib.hid e2
          clear hP hpv hc hk0
          obtain ⟨d3, e3⟩ : ∃ d, Op.bytesLess P.toList s.toList = d := ⟨_, rfl⟩
          have HE3 := Lib.hid e3
          have hm1 : (0 : Int) < ((m + 1 : Nat) : Int) := by omega
          cases d3
          · go_wp2
            go_ret
            refine ⟨?_, HX.out⟩
            have hle : leS s (prevS fs (m + 1)) = true := by rw [HPV.out, leS_not, HE3.out]; rfl
            rw [H5.out, HK.out, HST.out, hle]
            simp
          · go_wp2
            go_round
            case rel =>
              refine ⟨m + 1 + 1, by omega, by go_num, Lib.hid (HK.out.trans ?_)⟩
              have hle : leS s (prevS fs (m + 1)) = false := by rw [HPV.out, leS_not, HE3.out]; rfl
              rw [HST.out, hle, HE2.out, HNX.out]
              simp
            case measure => simp [intOf]; omega
      · obtain rfl : k = fs.length := by omega
        go_wp2
        go_ret
        refine ⟨?_, HX.out⟩
        rw [H5.out, HK.out, List.drop_length]
        simp [chkS, HN.out]
  · have n1 : ((fs.length : Int) == sh - 1) = false := beq_eq_false_iff_ne.2 hn
    have n2 : ((fs.length : Int) != sh - 1) = true := by simp [bne, n1]
    have HN := Lib.hid hn
    clear hn
    go_enter Tryd.func55, Tryd.ntmps55
    go_wp2
    go_ret
    refine ⟨?_, HX.out⟩
    simp [HN.out]
end Go.Proofs.YtconkncoohcdfaaDoor
