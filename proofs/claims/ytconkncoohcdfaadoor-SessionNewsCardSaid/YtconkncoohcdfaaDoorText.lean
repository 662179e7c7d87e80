/- What stamp.Text computes: a stamp's three numerals with points between, where the table of powers lies. -/
import Derived.Test.YtconkncoohcdfaaDoorNum
namespace Go.Proofs.YtconkncoohcdfaaDoor
open Go.RowKit
set_option linter.unusedSimpArgs false
set_option linter.unusedVariables false
set_option maxRecDepth 100000

def stampT (a b c : Nat) : List UInt8 := Lib.decDigits a ++ [46] ++ Lib.decDigits b ++ [46] ++ Lib.decDigits c

set_option maxHeartbeats 1000000 in
theorem text_calls (a b c : Nat) (ha : a < 18446744073709551616) (hb : b < 4294967296) (hc : c < 4294967296) (w : World) (htab : Pow w) :
    Calls Tryd.prog 23 #[.agg #[.int .u64 a, .int .u32 b, .int .u32 c]] w fun e w' => e = .returned (.string ⟨(stampT a b c).toArray⟩) ∧ Below w.heap.size w w' := by
  have la := dec_len a ha
  have lb := dec_len b (by omega)
  have lc := dec_len c (by omega)
  have ib : (b : Int) < 4294967296 := by omega
  have ic : (c : Int) < 4294967296 := by omega
  go_enter Tryd.func23, Tryd.ntmps23
  go_wp2
  have hlen : w.heap.size < (w.alloc (.cells #[.int .u64 a, .int .u32 b, .int .u32 c] 31)).heap.size := by simp
  obtain ⟨W, hW⟩ : ∃ W, W = w.alloc (.cells #[.int .u64 a, .int .u32 b, .int .u32 c] 31) := ⟨_, rfl⟩
  have c0 : W.cell? ⟨w.heap.size, 0, none⟩ = some (.int .u64 a) := by rw [hW]; simp
  have c1 : W.cell? ⟨w.heap.size, 1, none⟩ = some (.int .u32 b) := by rw [hW]; simp
  have c2 : W.cell? ⟨w.heap.size, 2, none⟩ = some (.int .u32 c) := by rw [hW]; simp
  have d0 := cell_aged c0
  have d1 := cell_aged c1
  have d2 := cell_aged c2
  have hB : Below w.heap.size w W := by rw [hW]; exact (Below.refl _ _).alloc (Nat.le_refl _) _
  have hPw : Pow W := htab.below hB
  rw [← hW]
  clear hW c0 c1 c2
  refine wp_region_aged (by kernel_rfl) (by kernel_rfl) ?_
  repeat (go_big_quiet_step ((first
    | exact calls_aged (formatUint_calls a ha _ (hPw.below (aged_below _ _)))
    | exact calls_aged (formatUint_calls b (by omega) _ (hPw.below (aged_below _ _)))
    | exact calls_aged (formatUint_calls c (by omega) _ (hPw.below (aged_below _ _))))))
  refine wpQuiet_nil ?_
  rintro _ ⟨p, rfl⟩
  go_wp2
  go_ret
  refine ⟨?_, hB.trans ((aged_below W p).mono (by have := hB.size; omega))⟩
  simp only [stampT, ByteArray.mk_append_mk]
  rfl
end Go.Proofs.YtconkncoohcdfaaDoor
