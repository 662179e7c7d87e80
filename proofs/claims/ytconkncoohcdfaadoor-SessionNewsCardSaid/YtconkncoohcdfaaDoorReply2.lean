/- What gate.Reply answers where the status is OK: to a begin, a get, a commit and the others. -/
import Derived.Test.YtconkncoohcdfaaDoorReply
namespace Go.Proofs.YtconkncoohcdfaaDoor
open Go.RowKit
set_option linter.unusedSimpArgs false
set_option linter.unusedVariables false
set_option maxRecDepth 100000

def beginL (tc ts a b c : Nat) : List UInt8 := [98, 101, 103, 117, 110, 32] ++ Lib.decDigits tc ++ [32] ++ Lib.decDigits ts ++ [32] ++ stampT a b c

theorem stampT_len (a b c : Nat) (ha : a < 18446744073709551616) (hb : b < 4294967296) (hc : c < 4294967296) : (stampT a b c).length ≤ 62 := by
  have := dec_len a ha
  have := dec_len b (by omega)
  have := dec_len c (by omega)
  simp [stampT]
  omega

set_option maxHeartbeats 2000000 in
theorem reply_begin (cl ro ao bk tk ky hi vl lm pv tok : Value) (tc ts a b c : Nat) (htc : tc < 4294967296) (hts : ts < 4294967296) (ha : a < 18446744073709551616) (hb : b < 4294967296) (hc : c < 4294967296) (w : World) (htab : Pow w) :
    Calls Tryd.prog 7 #[.agg #[cl, .int .u32 tc, .int .u32 ts, .int .i64 1, ro, ao, bk, tk, ky, hi, vl, lm, .int .i64 0, .int .u64 a, .int .u32 b, .int .u32 c, pv, tok]] w fun e w' => e = .returned (.string ⟨(beginL tc ts a b c).toArray⟩) ∧ Below w.heap.size w w' := by
  have l1 := dec_len tc (by omega)
  have l2 := dec_len ts (by omega)
  have l3 := stampT_len a b c ha hb hc
  have i1 : (tc : Int) < 4294967296 := by omega
  have i2 : (ts : Int) < 4294967296 := by omega
  go_enter Tryd.func7, Tryd.ntmps7
  go_wp2
  obtain ⟨W, hW⟩ : ∃ W, W = w.alloc (.cells #[cl, .int .u32 tc, .int .u32 ts, .int .i64 1, ro, ao, bk, tk, ky, hi, vl, lm, .int .i64 0, .int .u64 a, .int .u32 b, .int .u32 c, pv, tok] 34) := ⟨_, rfl⟩
  have d1 := cell_aged (show W.cell? ⟨w.heap.size, 1, none⟩ = some (.int .u32 tc) by rw [hW]; simp)
  have d2 := cell_aged (show W.cell? ⟨w.heap.size, 2, none⟩ = some (.int .u32 ts) by rw [hW]; simp)
  have d13 := cell_aged (show W.cell? ⟨w.heap.size, 13, none⟩ = some (.int .u64 a) by rw [hW]; simp)
  have d14 := cell_aged (show W.cell? ⟨w.heap.size, 14, none⟩ = some (.int .u32 b) by rw [hW]; simp)
  have d15 := cell_aged (show W.cell? ⟨w.heap.size, 15, none⟩ = some (.int .u32 c) by rw [hW]; simp)
  have hB : Below w.heap.size w W := by rw [hW]; exact (Below.refl _ _).alloc (Nat.le_refl _) _
  have hPw : Pow W := htab.below hB
  rw [← hW]
  clear hW
  refine wp_region_aged (by kernel_rfl) (by kernel_rfl) ?_
  repeat (go_big_quiet_step ((first
    | exact calls_aged (formatUint_calls tc (by omega) _ (hPw.below (aged_below _ _)))
    | exact calls_aged (formatUint_calls ts (by omega) _ (hPw.below (aged_below _ _)))
    | exact calls_aged (text_calls a b c ha hb hc _ (hPw.below (aged_below _ _))))))
  refine wpQuiet_nil ?_
  rintro _ ⟨p, rfl⟩
  go_wp2
  go_ret
  refine ⟨?_, hB.trans ((aged_below W p).mono (by have := hB.size; omega))⟩
  simp only [beginL, ← ByteArray.mk_append_mk]
  rfl

def commitL (a b c : Nat) (tok : List UInt8) : List UInt8 := [99, 111, 109, 109, 105, 116, 116, 101, 100, 32] ++ stampT a b c ++ [32] ++ wordB tok

theorem wordB_len (l : List UInt8) : (wordB l).length ≤ 3 * l.length + 1 := by
  unfold wordB
  split
  · simp
  · have := wordL_len l
    omega

set_option maxHeartbeats 2000000 in
theorem reply_commit (cl tc ts ro ao bk tk ky hi vl lm pv : Value) (tok : ByteArray) (a b c : Nat) (ha : a < 18446744073709551616) (hb : b < 4294967296) (hc : c < 4294967296) (ht : 3 * tok.size ≤ 140737488355328) (w : World) (htab : Pow w) :
    Calls Tryd.prog 7 #[.agg #[cl, tc, ts, .int .i64 6, ro, ao, bk, tk, ky, hi, vl, lm, .int .i64 0, .int .u64 a, .int .u32 b, .int .u32 c, pv, .string tok]] w fun e w' => e = .returned (.string ⟨(commitL a b c tok.data.toList).toArray⟩) ∧ Below w.heap.size w w' := by
  have l3 := stampT_len a b c ha hb hc
  have l4 := wordB_len tok.data.toList
  have l5 : tok.data.toList.length = tok.size := by simp
  rw [l5] at l4
  clear l5
  go_enter Tryd.func7, Tryd.ntmps7
  go_wp2
  obtain ⟨W, hW⟩ : ∃ W, W = w.alloc (.cells #[cl, tc, ts, .int .i64 6, ro, ao, bk, tk, ky, hi, vl, lm, .int .i64 0, .int .u64 a, .int .u32 b, .int .u32 c, pv, .string tok] 34) := ⟨_, rfl⟩
  have d13 := cell_aged (show W.cell? ⟨w.heap.size, 13, none⟩ = some (.int .u64 a) by rw [hW]; simp)
  have d14 := cell_aged (show W.cell? ⟨w.heap.size, 14, none⟩ = some (.int .u32 b) by rw [hW]; simp)
  have d15 := cell_aged (show W.cell? ⟨w.heap.size, 15, none⟩ = some (.int .u32 c) by rw [hW]; simp)
  have d17 := cell_aged (show W.cell? ⟨w.heap.size, 17, none⟩ = some (.string tok) by rw [hW]; simp)
  have hB : Below w.heap.size w W := by rw [hW]; exact (Below.refl _ _).alloc (Nat.le_refl _) _
  have hPw : Pow W := htab.below hB
  rw [← hW]
  clear hW
  refine wp_region_aged (by kernel_rfl) (by kernel_rfl) ?_
  repeat (go_big_quiet_step ((first
    | exact calls_aged (text_calls a b c ha hb hc _ (hPw.below (aged_below _ _)))
    | exact calls_aged (word_calls tok _ ht))))
  refine wpQuiet_nil ?_
  rintro _ ⟨p, rfl⟩
  go_wp2
  go_ret
  refine ⟨?_, hB.trans ((aged_below W p).mono (by have := hB.size; omega))⟩
  simp only [commitL, ← ByteArray.mk_append_mk]
  rfl

set_option maxHeartbeats 1000000 in
theorem reply_other (cl tc ts ro ao bk tk ky hi vl lm aw al an pv tok : Value) (k : Int) (h1 : k ≠ 1) (h2 : k ≠ 2) (h3 : k ≠ 3) (h6 : k ≠ 6) (w : World) :
    Calls Tryd.prog 7 #[.agg #[cl, tc, ts, .int .i64 k, ro, ao, bk, tk, ky, hi, vl, lm, .int .i64 0, aw, al, an, pv, tok]] w fun e w' => e = .returned (.string ⟨#[111, 107]⟩) ∧ Below w.heap.size w w' := by
  have k1 : (k == 1) = false := by simpa using h1
  have k2 : (k == 2) = false := by simpa using h2
  have k3 : (k == 3) = false := by simpa using h3
  have k6 : (k == 6) = false := by simpa using h6
  go_enter Tryd.func7, Tryd.ntmps7
  go_wp2
  go_ret
  exact ⟨rfl, (Below.refl _ _).alloc (Nat.le_refl _) _⟩

theorem reply_getNone (cl tc ts ro ao bk tk ky hi vl lm aw al an tok : Value) (A : Option Addr) (cap : Nat) (w : World) :
    Calls Tryd.prog 7 #[.agg #[cl, tc, ts, .int .i64 2, ro, ao, bk, tk, ky, hi, vl, lm, .int .i64 0, aw, al, an, .slice A 0 cap, tok]] w fun e w' => e = .returned (.string ⟨#[110, 111, 110, 101]⟩) ∧ Below w.heap.size w w' := by
  go_enter Tryd.func7, Tryd.ntmps7
  go_wp2
  go_ret
  exact ⟨rfl, (Below.refl _ _).alloc (Nat.le_refl _) _⟩

set_option maxHeartbeats 1000000 in
theorem reply_get (cl tc ts ro ao bk tk ky hi vl lm aw al an tok : Value) (bk' off n cap : Nat) (v : ByteArray) (hn : 0 < n) (hv : 3 * v.size ≤ 140737488355328) (w : World) (hc : w.cell? ⟨bk', off + 1, none⟩ = some (.string v)) :
    Calls Tryd.prog 7 #[.agg #[cl, tc, ts, .int .i64 2, ro, ao, bk, tk, ky, hi, vl, lm, .int .i64 0, aw, al, an, .slice (some ⟨bk', off, none⟩) n cap, tok]] w fun e w' => e = .returned (.string ⟨([118, 97, 108, 117, 101, 32] ++ wordB v.data.toList).toArray⟩) ∧ Below w.heap.size w w' := by
  have l4 := wordB_len v.data.toList
  have l5 : v.data.toList.length = v.size := by simp
  rw [l5] at l4
  clear l5
  have hn' : ((n : Int) == 0) = false := by simp; omega
  have hlt := World.block_lt_of_cell? w _ hc
  have hc' := hc
  go_enter Tryd.func7, Tryd.ntmps7
  go_wp2_with (go_at_call 24; refine (word_calls v _ hv).mono ?_; rintro e w' ⟨rfl, hb⟩)
  go_ret
  refine ⟨?_, ((Below.refl w.heap.size w).alloc (Nat.le_refl _) _).trans (hb.mono (by simp))⟩
  simp only [← ByteArray.mk_append_mk]
  rfl
end Go.Proofs.YtconkncoohcdfaaDoor
