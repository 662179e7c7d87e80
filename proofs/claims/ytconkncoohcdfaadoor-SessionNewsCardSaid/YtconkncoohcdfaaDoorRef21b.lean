/- What the document's Reply computes, status by status and kind by kind: the same lines as gate.Reply's. -/
import Derived.Test.YtconkncoohcdfaaDoorRef21
namespace Go.Proofs.YtconkncoohcdfaaDoor
open Go.RowKit
set_option linter.unusedSimpArgs false
set_option linter.unusedVariables false
set_option maxRecDepth 100000
attribute [local go_sem ↓] Go.wp_at_zero Go.wp_at_succ

set_option maxHeartbeats 2000000 in
theorem rreply_err (cl tc ts k ro ao bk tk ky hi vl lm aw al an pv tok : Value) (st : Int) (hst : st ≠ 0) (h0 : -9223372036854775808 ≤ st) (h1 : st ≤ 9223372036854775807) (w : World) (htab : Pow w) (hl : (nameOf st).length ≤ 1000)
    (hcells : ∀ v ∈ [cl, tc, ts, k, ro, ao, bk, tk, ky, hi, vl, lm, aw, al, an, pv, tok], v.oneCell' = true) :
    Calls Tryd.prog 8 #[.agg #[cl, tc, ts, k, ro, ao, bk, tk, ky, hi, vl, lm, .int .i64 st, aw, al, an, pv, tok]] w fun e w' => e = .returned (.string ⟨(errL st).toArray⟩) ∧ Below w.heap.size w w' := by
  have hst' : (st != 0) = true := by simpa using hst
  go_enter Tryd.func8, Tryd.ntmps8
  go_wp2_with fail
  refine (rname_calls st h0 h1 _ (htab.below ?hbb)).mono ?_
  case hbb => exact (Below.refl _ _).alloc (Nat.le_refl _) _
  rintro e w1 ⟨rfl, hb1⟩
  go_wp2
  go_ret
  refine ⟨?_, ((Below.refl w.heap.size w).alloc (Nat.le_refl _) _).trans (hb1.mono (by simp))⟩
  simp only [errL, ← ByteArray.mk_append_mk]
  rfl

set_option maxHeartbeats 2000000 in
theorem rreply_begin (cl ro ao bk tk ky hi vl lm pv tok : Value) (tc ts a b c : Nat) (htc : tc < 4294967296) (hts : ts < 4294967296) (ha : a < 18446744073709551616) (hb : b < 4294967296) (hc : c < 4294967296) (w : World) :
    Calls Tryd.prog 8 #[.agg #[cl, .int .u32 tc, .int .u32 ts, .int .i64 1, ro, ao, bk, tk, ky, hi, vl, lm, .int .i64 0, .int .u64 a, .int .u32 b, .int .u32 c, pv, tok]] w fun e w' => e = .returned (.string ⟨(beginL tc ts a b c).toArray⟩) ∧ Below w.heap.size w w' := by
  have l1 := dec_len tc (by omega)
  have l2 := dec_len ts (by omega)
  have l3 := stampT_len a b c ha hb hc
  have i1 : (tc : Int) < 4294967296 := by omega
  have i2 : (ts : Int) < 4294967296 := by omega
  have j1 : tc < 18446744073709551616 := by omega
  have j2 : ts < 18446744073709551616 := by omega
  go_enter Tryd.func8, Tryd.ntmps8
  go_wp2
  obtain ⟨W, hW⟩ : ∃ W, W = w.alloc (.cells #[cl, .int .u32 tc, .int .u32 ts, .int .i64 1, ro, ao, bk, tk, ky, hi, vl, lm, .int .i64 0, .int .u64 a, .int .u32 b, .int .u32 c, pv, tok] 34) := ⟨_, rfl⟩
  have d1 := cell_aged (show W.cell? ⟨w.heap.size, 1, none⟩ = some (.int .u32 tc) by rw [hW]; simp)
  have d2 := cell_aged (show W.cell? ⟨w.heap.size, 2, none⟩ = some (.int .u32 ts) by rw [hW]; simp)
  have d13 := cell_aged (show W.cell? ⟨w.heap.size, 13, none⟩ = some (.int .u64 a) by rw [hW]; simp)
  have d14 := cell_aged (show W.cell? ⟨w.heap.size, 14, none⟩ = some (.int .u32 b) by rw [hW]; simp)
  have d15 := cell_aged (show W.cell? ⟨w.heap.size, 15, none⟩ = some (.int .u32 c) by rw [hW]; simp)
  have hB : Below w.heap.size w W := by rw [hW]; exact (Below.refl _ _).alloc (Nat.le_refl _) _
  rw [← hW]
  clear hW
  refine wp_region_aged (by kernel_rfl) (by kernel_rfl) ?_
  repeat (go_big_quiet_step ((first
    | exact calls_aged (decimal_calls _ (by first | exact j1 | exact j2) _)
    | exact calls_aged (rtext_calls a b c ha hb hc _))))
  refine wpQuiet_nil ?_
  rintro _ ⟨p, rfl⟩
  go_wp2
  go_ret
  refine ⟨?_, hB.trans ((aged_below W p).mono (by have := hB.size; omega))⟩
  simp only [beginL, ← ByteArray.mk_append_mk]
  rfl

set_option maxHeartbeats 2000000 in
theorem rreply_commit (cl tc ts ro ao bk tk ky hi vl lm pv : Value) (a b c : Nat) (ha : a < 18446744073709551616) (hb : b < 4294967296) (hc : c < 4294967296) (tok : ByteArray) (ht : 3 * tok.size ≤ 140737488355328) (w : World) :
    Calls Tryd.prog 8 #[.agg #[cl, tc, ts, .int .i64 6, ro, ao, bk, tk, ky, hi, vl, lm, .int .i64 0, .int .u64 a, .int .u32 b, .int .u32 c, pv, .string tok]] w fun e w' => e = .returned (.string ⟨(commitL a b c tok.data.toList).toArray⟩) ∧ Below w.heap.size w w' := by
  have l3 := stampT_len a b c ha hb hc
  have l4 := wordB_len tok.data.toList
  have l5 : tok.data.toList.length = tok.size := by simp
  rw [l5] at l4
  clear l5
  go_enter Tryd.func8, Tryd.ntmps8
  go_wp2
  obtain ⟨W, hW⟩ : ∃ W, W = w.alloc (.cells #[cl, tc, ts, .int .i64 6, ro, ao, bk, tk, ky, hi, vl, lm, .int .i64 0, .int .u64 a, .int .u32 b, .int .u32 c, pv, .string tok] 34) := ⟨_, rfl⟩
  have d13 := cell_aged (show W.cell? ⟨w.heap.size, 13, none⟩ = some (.int .u64 a) by rw [hW]; simp)
  have d14 := cell_aged (show W.cell? ⟨w.heap.size, 14, none⟩ = some (.int .u32 b) by rw [hW]; simp)
  have d15 := cell_aged (show W.cell? ⟨w.heap.size, 15, none⟩ = some (.int .u32 c) by rw [hW]; simp)
  have d17 := cell_aged (show W.cell? ⟨w.heap.size, 17, none⟩ = some (.string tok) by rw [hW]; simp)
  have hB : Below w.heap.size w W := by rw [hW]; exact (Below.refl _ _).alloc (Nat.le_refl _) _
  rw [← hW]
  clear hW
  refine wp_region_aged (by kernel_rfl) (by kernel_rfl) ?_
  repeat (go_big_quiet_step ((first
    | exact calls_aged (rtext_calls a b c ha hb hc _)
    | exact calls_aged (rblank_calls tok _ ht))))
  refine wpQuiet_nil ?_
  rintro _ ⟨p, rfl⟩
  go_wp2
  go_ret
  refine ⟨?_, hB.trans ((aged_below W p).mono (by have := hB.size; omega))⟩
  have e : commitL a b c tok.data.toList = [99, 111, 109, 109, 105, 116, 116, 101, 100, 32] ++ stampT a b c ++ 32 :: wordB tok.data.toList := by simp [commitL]
  rw [e]
  simp only [← ByteArray.mk_append_mk]
  rfl

set_option maxHeartbeats 1000000 in
theorem rreply_other (cl tc ts ro ao bk tk ky hi vl lm aw al an pv tok : Value) (k : Int) (h1 : k ≠ 1) (h2 : k ≠ 2) (h3 : k ≠ 3) (h6 : k ≠ 6) (w : World) :
    Calls Tryd.prog 8 #[.agg #[cl, tc, ts, .int .i64 k, ro, ao, bk, tk, ky, hi, vl, lm, .int .i64 0, aw, al, an, pv, tok]] w fun e w' => e = .returned (.string ⟨#[111, 107]⟩) ∧ Below w.heap.size w w' := by
  have k1 : (k == 1) = false := by simpa using h1
  have k2 : (k == 2) = false := by simpa using h2
  have k3 : (k == 3) = false := by simpa using h3
  have k6 : (k == 6) = false := by simpa using h6
  go_enter Tryd.func8, Tryd.ntmps8
  go_wp2
  go_ret
  exact ⟨rfl, (Below.refl _ _).alloc (Nat.le_refl _) _⟩

theorem rreply_getNone (cl tc ts ro ao bk tk ky hi vl lm aw al an tok : Value) (A : Option Addr) (cap : Nat) (w : World) :
    Calls Tryd.prog 8 #[.agg #[cl, tc, ts, .int .i64 2, ro, ao, bk, tk, ky, hi, vl, lm, .int .i64 0, aw, al, an, .slice A 0 cap, tok]] w fun e w' => e = .returned (.string ⟨#[110, 111, 110, 101]⟩) ∧ Below w.heap.size w w' := by
  go_enter Tryd.func8, Tryd.ntmps8
  go_wp2
  go_ret
  exact ⟨rfl, (Below.refl _ _).alloc (Nat.le_refl _) _⟩

set_option maxHeartbeats 1000000 in
theorem rreply_get (cl tc ts ro ao bk tk ky hi vl lm aw al an tok : Value) (bk' off n cap : Nat) (v : ByteArray) (hn : 0 < n) (hv : 3 * v.size ≤ 140737488355328) (w : World) (hc : w.cell? ⟨bk', off + 1, none⟩ = some (.string v)) :
    Calls Tryd.prog 8 #[.agg #[cl, tc, ts, .int .i64 2, ro, ao, bk, tk, ky, hi, vl, lm, .int .i64 0, aw, al, an, .slice (some ⟨bk', off, none⟩) n cap, tok]] w fun e w' => e = .returned (.string ⟨([118, 97, 108, 117, 101, 32] ++ wordB v.data.toList).toArray⟩) ∧ Below w.heap.size w w' := by
  have l4 := wordB_len v.data.toList
  have l5 : v.data.toList.length = v.size := by simp
  rw [l5] at l4
  clear l5
  have hn' : ((n : Int) == 0) = false := by simp; omega
  have hlt := World.block_lt_of_cell? w _ hc
  have hc' := hc
  go_enter Tryd.func8, Tryd.ntmps8
  go_wp2_with (go_at_call 29; refine (rblank_calls v _ hv).mono ?_; rintro e w' ⟨rfl, hb⟩)
  go_ret
  refine ⟨?_, ((Below.refl w.heap.size w).alloc (Nat.le_refl _) _).trans (hb.mono (by simp))⟩
  show Ending.returned (.string (⟨[118, 97, 108, 117, 101].toArray⟩ ++ ⟨(32 :: wordB v.data.toList).toArray⟩)) = _
  rw [ByteArray.mk_append_mk]
  rfl

def outStr (ps : List (ByteArray × ByteArray)) (i : Nat) : List UInt8 := [112, 97, 105, 114, 115, 32] ++ Lib.decDigits ps.length ++ (ps.take i).flatMap (fun p => (32 :: wordB p.1.data.toList) ++ (32 :: wordB p.2.data.toList))
theorem outStr_step (ps : List (ByteArray × ByteArray)) (i : Nat) (h : i < ps.length) : outStr ps (i + 1) = outStr ps i ++ (32 :: wordB ps[i].1.data.toList) ++ (32 :: wordB ps[i].2.data.toList) := by
  unfold outStr
  rw [List.take_succ_eq_append_getElem h, List.flatMap_append]
  simp
theorem outStr_all (ps : List (ByteArray × ByteArray)) : outStr ps ps.length = scanL ps := by
  have h : ∀ l : List (ByteArray × ByteArray), ((l.flatMap (fun p => [baOf (wordB p.1.data.toList), baOf (wordB p.2.data.toList)])).map (fun x => 32 :: x.data.toList)).flatten = l.flatMap (fun p => (32 :: wordB p.1.data.toList) ++ (32 :: wordB p.2.data.toList)) := by
    intro l
    induction l with
    | nil => rfl
    | cons p l ih => simp only [List.flatMap_cons, List.map_append, List.flatten_append, ih]; simp [baOf]
  have h' := h ps
  simp only [scanL, outB, List.map_append, List.map_cons, List.map_nil, List.cons_append, List.nil_append, Lib.join_cons, Lib.joinTail, List.map_cons, List.flatten_cons, List.map_map]
  rw [show ((fun x => 32 :: x) ∘ fun x : ByteArray => x.data.toList) = (fun x : ByteArray => 32 :: x.data.toList) from rfl, h', outStr, List.take_length, Lib.itoa_nonneg]
  simp [baOf]
theorem outStr_len (ps : List (ByteArray × ByteArray)) (i : Nat) (h : i ≤ ps.length) : (outStr ps i).length ≤ (scanL ps).length := by
  rw [← outStr_all]
  have : ∀ d, i + d ≤ ps.length → (outStr ps i).length ≤ (outStr ps (i + d)).length := by
    intro d
    induction d with
    | zero => intro _; exact Nat.le_refl _
    | succ d ih =>
      intro hd
      have h1 := ih (by omega)
      have h2 := outStr_step ps (i + d) (by omega)
      rw [show i + (d + 1) = i + d + 1 by omega, h2]
      simp only [List.length_append]
      omega
  have := this (ps.length - i) (by omega)
  rwa [show i + (ps.length - i) = ps.length by omega] at this

set_option maxHeartbeats 1000000 in
theorem rreply_scan (cl tc ts ro ao bk tk ky hi vl lm aw al an tok : Value) (A : Option Addr) (cap : Nat) (ps : List (ByteArray × ByteArray)) (w : World)
    (hA : 0 < ps.length → ∃ b off, A = some ⟨b, off, none⟩ ∧ ∀ j (hj : j < ps.length), w.cell? ⟨b, off + j * 2, none⟩ = some (.string ps[j].1) ∧ w.cell? ⟨b, off + j * 2 + 1, none⟩ = some (.string ps[j].2))
    (hps : ∀ p ∈ ps, 3 * p.1.size ≤ 140737488355328 ∧ 3 * p.2.size ≤ 140737488355328) (hn : ps.length ≤ 1000000000) (hlen : (scanL ps).length ≤ 140737488355328) :
    Calls Tryd.prog 8 #[.agg #[cl, tc, ts, .int .i64 3, ro, ao, bk, tk, ky, hi, vl, lm, .int .i64 0, aw, al, an, .slice A ps.length cap, tok]] w fun e w' => e = .returned (.string ⟨(scanL ps).toArray⟩) ∧ Below w.heap.size w w' := by
  have HA := Lib.hid hA
  clear hA
  have l1 := dec_len ps.length (by omega)
  have hni : (ps.length : Int) ≤ 1000000000 := by omega
  go_enter Tryd.func8, Tryd.ntmps8
  go_wp2_with (go_at_call 27; refine (decimal_calls ps.length (by omega) _).mono ?_)
  rintro e w1 ⟨rfl, hb1⟩
  have c16 : w1.cell? ⟨w.heap.size, 16, none⟩ = some (.slice A ps.length cap) := cell_of_below hb1 (by simp)
  have hz1 : w.heap.size + 1 ≤ w1.heap.size := by have := hb1.size; simpa using this
  have hb01 : Below w.heap.size w w1 := ((Below.refl w.heap.size w).alloc (Nat.le_refl _) _).trans (hb1.mono (by simp))
  have hs0 : (⟨[112, 97, 105, 114, 115, 32].toArray⟩ ++ ⟨(Lib.decDigits ps.length).toArray⟩ : ByteArray) = ⟨(outStr ps 0).toArray⟩ := by
    rw [ByteArray.mk_append_mk]
    simp [outStr]
  have HS0 := Lib.hid hs0
  clear hs0
  go_wp2_with fail
  go_loopw [3, 4] (fun s i W => ∃ n : Nat, n ≤ ps.length ∧ i = .int .i64 n ∧ s = .string ⟨(outStr ps n).toArray⟩ ∧ Below w1.heap.size w1 W) (fun _ i _ => ps.length - (intOf i).toNat)
  case atStart => exact ⟨0, Nat.zero_le _, rfl, by rw [← HS0.out], Below.refl _ _⟩
  case round =>
    obtain ⟨n, hnl, rfl, rfl, hbw⟩ := hrel
    have d16 : wr.cell? ⟨w.heap.size, 16, none⟩ = some (.slice A ps.length cap) := cell_of_below hbw c16
    have hb0r : Below w.heap.size w wr := hb01.trans (hbw.mono (by omega))
    obtain ⟨S, hS⟩ : ∃ S, S = outStr ps n := ⟨_, rfl⟩
    by_cases hlt : n < ps.length
    · obtain ⟨b, off, rfl, hcs⟩ := HA.out (by omega)
      have hst := outStr_step ps n hlt
      have hlen1 := outStr_len ps (n + 1) (by omega)
      rw [hst] at hlen1
      obtain ⟨kk, hkk⟩ : ∃ kk, kk = ps[n].1 := ⟨_, rfl⟩
      obtain ⟨vv, hvv⟩ : ∃ vv, vv = ps[n].2 := ⟨_, rfl⟩
      rw [← hkk, ← hvv] at hst hlen1
      rw [← hS] at hst hlen1
      rw [← hS]
      have HST := Lib.hid hst
      have HS := Lib.hid hS
      clear hst hS
      simp only [List.length_append, List.length_cons] at hlen1
      have ck := cell_aged (show wr.cell? ⟨b, off + n * 2, none⟩ = some (.string kk) by rw [hkk]; exact cell_of_below hb0r (hcs n hlt).1)
      have cv := cell_aged (show wr.cell? ⟨b, off + n * 2 + 1, none⟩ = some (.string vv) by rw [hvv]; exact cell_of_below hb0r (hcs n hlt).2)
      have c16a := cell_aged d16
      have h3k : 3 * kk.size ≤ 140737488355328 := by rw [hkk]; exact (hps _ (List.getElem_mem hlt)).1
      have h3v : 3 * vv.size ≤ 140737488355328 := by rw [hvv]; exact (hps _ (List.getElem_mem hlt)).2
      clear hkk hvv hcs
      have hL1 : S.length + (wordB kk.data.toList).length + (wordB vv.data.toList).length + 2 ≤ 140737488355328 := by omega
      clear hlen1
      have hz2 : ∀ p, w1.heap.size ≤ (aged wr p).heap.size := fun p => Nat.le_trans hbw.size (aged_below wr p).size
      go_wp2_with fail
      refine wp_region_aged (by kernel_rfl) (by kernel_rfl) ?_
      repeat (go_big_quiet_step ((exact calls_aged (rblank_calls _ _ (by first | exact h3k | exact h3v)))))
      refine wpQuiet_nil ?_
      rintro w' ⟨p, rfl⟩
      go_wp2
      go_roundw
      case rel =>
        refine ⟨n + 1, by omega, by go_num, ?_, hbw.trans ((aged_below wr p).mono hbw.size)⟩
        rw [HST.out]
        simp only [← ByteArray.mk_append_mk]
      case measure => simp [intOf]; omega
    · obtain rfl : n = ps.length := by omega
      rw [outStr_all] at hS
      go_wp2
      go_ret
      exact ⟨by rw [← outStr_all]; rfl, hb0r⟩
end Go.Proofs.YtconkncoohcdfaaDoor
