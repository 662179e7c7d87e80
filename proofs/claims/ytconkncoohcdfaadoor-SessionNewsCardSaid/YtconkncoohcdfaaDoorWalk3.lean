/- What the law GateReplies computes: true, and what was there stays; where the answer's texts and pairs are at most some millions together. -/
import Derived.Test.YtconkncoohcdfaaDoorVis
namespace Go.Proofs.YtconkncoohcdfaaDoor
open Go.RowKit
set_option linter.unusedSimpArgs false
set_option linter.unusedVariables false
set_option maxRecDepth 100000
attribute [local go_sem ↓] Go.wp_at_zero Go.wp_at_succ

def answerC (cl tc ts : Int) (k : Int) (ro ao bk : Bool) (tk ky hi vl : ByteArray) (lm st a b c : Int) (A : Option Addr) (n cap : Nat) (tok : ByteArray) : Array Value :=
  #[.int .u32 cl, .int .u32 tc, .int .u32 ts, .int .i64 k, .bool ro, .bool ao, .bool bk, .string tk, .string ky, .string hi, .string vl, .int .i64 lm, .int .i64 st, .int .u64 a, .int .u32 b, .int .u32 c, .slice A n cap, .string tok]

theorem bytes_get (l : List UInt8) (i : Nat) (h : i < (⟨l.toArray⟩ : ByteArray).size) : (⟨l.toArray⟩ : ByteArray)[i] ∈ l := by
  have h' : i < l.length := h
  have : (⟨l.toArray⟩ : ByteArray)[i] = l[i] := rfl
  rw [this]
  exact List.getElem_mem h'

set_option maxHeartbeats 2000000 in
theorem law_replies (cl tc ts : Int) (k : Int) (ro ao bk : Bool) (tk ky hi vl : ByteArray) (lm st a b c : Int) (A : Option Addr) (ps : List (ByteArray × ByteArray)) (cap : Nat) (tok : ByteArray) (w : World)
    (htc : 0 ≤ tc ∧ tc < 4294967296) (hts : 0 ≤ ts ∧ ts < 4294967296) (hst : -9223372036854775808 ≤ st ∧ st ≤ 9223372036854775807)
    (ha : 0 ≤ a ∧ a < 18446744073709551616) (hb : 0 ≤ b ∧ b < 4294967296) (hc : 0 ≤ c ∧ c < 4294967296) (htok : tok.size ≤ 1000000000) (hps : PairsIn A ps w) (htot : totOf ps ≤ 67108864) (htab : Pow w) (hnm : NamesIn w) :
    Calls Tryd.prog 3 #[answerV cl tc ts k ro ao bk tk ky hi vl lm st a b c A ps.length cap tok] w fun e w' => e = .returned (.bool true) ∧ Below w.heap.size w w' := by
  obtain ⟨l, hvis, hne, hll, hboth⟩ := both_replies cl tc ts k ro ao bk tk ky hi vl lm st a b c A ps cap tok w htc hts hst ha hb hc htok hps (by omega) htab hnm
  have HV := Lib.hid hvis
  have HB := Lib.hid hboth
  have HP := Lib.hid hps
  have hpl := totOf_len ps
  have HTOT := Lib.hid htot
  have hpn : ps.length ≤ 33554432 := by omega
  clear hvis hboth htot hpl hps htab hnm htc hts hst ha hb hc
  rw [show answerV cl tc ts k ro ao bk tk ky hi vl lm st a b c A ps.length cap tok = .agg (answerC cl tc ts k ro ao bk tk ky hi vl lm st a b c A ps.length cap tok) from rfl]
  unfold answerC
  go_enter Tryd.func3, Tryd.ntmps3
  go_wp2_with fail
  obtain ⟨W, hW⟩ : ∃ W, W = w.alloc (.cells (answerC cl tc ts k ro ao bk tk ky hi vl lm st a b c A ps.length cap tok) 34) := ⟨_, rfl⟩
  have hB : Below w.heap.size w W := by rw [hW]; exact (Below.refl _ _).alloc (Nat.le_refl _) _
  have hheap : W.heap[w.heap.size]? = some (.cells (answerC cl tc ts k ro ao bk tk ky hi vl lm st a b c A ps.length cap tok) 34 (0, 0)) := by rw [hW]; exact heap_alloc_new w _
  have hlt : w.heap.size < W.heap.size := by rw [hW]; simp
  have d16 := cell_aged (show W.cell? ⟨w.heap.size, 16, none⟩ = some (.slice A ps.length cap) by rw [hW]; simp [answerC])
  have hPA : ∀ p, PairsIn A ps (aged W p) := fun p => (HP.out.below hB).below (aged_below W p)
  unfold answerC at hW
  rw [← hW]
  clear hW
  go_loopw [3, 4] (fun t i X => ∃ n : Nat, n ≤ ps.length ∧ i = .int .i64 n ∧ t = .int .i64 (totOf (ps.take n) : Nat) ∧ ∃ p, X = aged W p) (fun _ i _ => ps.length - (intOf i).toNat)
  case atStart => exact ⟨0, Nat.zero_le _, rfl, rfl, ⟨W.drawn, #[]⟩, (aged_self W).symm⟩
  case round =>
    obtain ⟨n, hnl, rfl, rfl, p, rfl⟩ := hrel
    have e16 := d16 p
    by_cases hlt' : n < ps.length
    · obtain ⟨bb, off, rfl, hcs⟩ := hPA p (by omega)
      have hck := cell_aged (hcs n hlt').1
      have hcv := cell_aged (hcs n hlt').2
      have htk := totOf_take ps n hlt'
      have htot := HTOT.out
      have htle : totOf (ps.take (n + 1)) ≤ totOf ps := by
        have h := totOf_append (ps.take (n + 1)) (ps.drop (n + 1))
        rw [List.take_append_drop] at h
        omega
      obtain ⟨T, hT⟩ : ∃ T, T = totOf (ps.take n) := ⟨_, rfl⟩
      obtain ⟨kk, hkk⟩ : ∃ kk, kk = ps[n].1 := ⟨_, rfl⟩
      obtain ⟨vv, hvv⟩ : ∃ vv, vv = ps[n].2 := ⟨_, rfl⟩
      rw [← hkk] at hck htk
      rw [← hvv] at hcv htk
      rw [← hT] at htk ⊢
      have htb : (T : Int) + (kk.size : Int) + (vv.size : Int) + 2 ≤ 67108864 := by omega
      have htb2 : (T : Int) ≤ 67108864 := by omega
      have htb3 : (kk.size : Int) ≤ 67108864 := by omega
      have htb4 : (vv.size : Int) ≤ 67108864 := by omega
      have HT := Lib.hid htk
      clear htot hcs htk htle hkk hvv hT
      have e16a := cell_aged e16
      go_wp2_with fail
      refine wp_region_aged (by kernel_rfl) (by kernel_rfl) ?_
      repeat (go_big_quiet_step (fail))
      refine wpQuiet_nil ?_
      rintro w' ⟨q, rfl⟩
      obtain ⟨r, hr⟩ := aged_aged W p q
      rw [hr]
      generalize hG : (T : Int) + (kk.size : Int) + (vv.size : Int) + 2 = G
      have hGle : G ≤ 67108864 := by omega
      have hGe : totOf (ps.take (n + 1)) = G := by rw [HT.out]; omega
      have HGE := Lib.hid hGe
      clear hGe hG htb htb2 htb3 htb4
      go_wp2
      go_roundw
      case rel =>
        refine ⟨n + 1, by omega, by go_num, ?_, r, rfl⟩
        rw [HGE.out]
      case measure => simp [intOf]; omega
    · obtain rfl : n = ps.length := by omega
      have hh : (aged W p).heap[w.heap.size]? = some (.cells (answerC cl tc ts k ro ao bk tk ky hi vl lm st a b c A ps.length cap tok) 34 (0, 0)) := by rw [(aged_below W p).block _ hlt]; exact hheap
      have hbp : Below w.heap.size w (aged W p) := hB.trans ((aged_below W p).mono (by omega))
      have hzp : w.heap.size < (aged W p).heap.size := Nat.lt_of_lt_of_le hlt (aged_below W p).size
      obtain ⟨X, hX⟩ : ∃ X, X = aged W p := ⟨_, rfl⟩
      rw [← hX] at hh hbp hzp e16 ⊢
      clear hX
      go_wp2_with (refine wpList_load_row rfl _ _ rfl w.heap.size rfl 34 (answerC cl tc ts k ro ao bk tk ky hi vl lm st a b c A ps.length cap tok) (0, 0) _ hh Tryd.underlying34 rfl (by kernel_rfl) ?_)
      refine ((HB.out X hbp).1).mono ?_
      rintro e w1 ⟨rfl, hb1⟩
      have hh1 : w1.heap[w.heap.size]? = some (.cells (answerC cl tc ts k ro ao bk tk ky hi vl lm st a b c A ps.length cap tok) 34 (0, 0)) := by rw [hb1.block _ hzp]; exact hh
      have hz1 : w.heap.size < w1.heap.size := Nat.lt_of_lt_of_le hzp hb1.size
      have hbw1 : Below w.heap.size w w1 := hbp.trans (hb1.mono (by omega))
      obtain ⟨L, hL⟩ : ∃ L : ByteArray, L = ⟨l.toArray⟩ := ⟨_, rfl⟩
      have hLs : L.size ≤ 140737488355328 := by rw [hL]; exact hll
      have hLe : L.toList.isEmpty = false := by rw [hL, ByteArray.toList_eq]; simpa using hne
      have HL := Lib.hid hL
      clear hh hbp hzp e16
      rw [← hL]
      clear hL
      go_wp2_with (refine wpList_load_row rfl _ _ rfl w.heap.size rfl 34 (answerC cl tc ts k ro ao bk tk ky hi vl lm st a b c A ps.length cap tok) (0, 0) _ hh1 Tryd.underlying34 rfl (by kernel_rfl) ?_)
      refine ((HB.out w1 hbw1).2).mono ?_
      rintro e w2 ⟨rfl, hb2⟩
      have hbw2 : Below w.heap.size w w2 := hbw1.trans (hb2.mono (by omega))
      rw [← HL.out]
      go_wp2_with fail
      go_loopw [6] (fun i X' => ∃ n : Nat, n ≤ L.size ∧ i = .int .i64 n ∧ X' = w2) (fun i _ => L.size - (intOf i).toNat)
      case atStart => exact ⟨0, Nat.zero_le _, rfl, rfl⟩
      case round =>
        obtain ⟨n, hnL, rfl, rfl⟩ := hrel
        by_cases hl2 : n < L.size
        · have hv1 : (32 : Int) ≤ (L[n].toNat : Int) ∧ (L[n].toNat : Int) ≤ 126 := by
            have hLl := HL.out
            subst hLl
            have := HV.out _ (bytes_get l n hl2)
            omega
          obtain ⟨hv0, hv2⟩ := hv1
          have hv3 : ((L[n].toNat : Int) < 32) = False := eq_false (by omega)
          have hv4 : ((126 : Int) < (L[n].toNat : Int)) = False := eq_false (by omega)
          go_wp2
          go_roundw
          case rel => exact ⟨n + 1, by omega, by go_num, trivial⟩
          case measure => simp [intOf]; omega
        · obtain rfl : n = L.size := by omega
          go_wp2
          go_ret
          exact ⟨rfl, hbw2⟩
end Go.Proofs.YtconkncoohcdfaaDoor
