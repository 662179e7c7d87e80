/- What the document's Decimal and Text compute: a number's decimal numeral; a stamp's three numerals with points between. New blocks alone. -/
import Derived.Test.YtconkncoohcdfaaDoorText
import Derived.Laws.IdiomStrings
namespace Go.Proofs.YtconkncoohcdfaaDoor
open Go.RowKit
set_option linter.unusedSimpArgs false
set_option linter.unusedVariables false
set_option maxRecDepth 100000

def digB (x : Nat) : UInt8 := UInt8.ofNat (48 + x % 10)
def decPre (u : Nat) : List UInt8 := if u < 10 then [] else Lib.decDigits (u / 10)
theorem decPre_eq (u : Nat) : Lib.decDigits u = decPre u ++ [digB u] := by
  unfold digB
  rw [Lib.decDigits]
  unfold decPre
  by_cases h : u < 10
  · simp [h, Nat.mod_eq_of_lt h]
  · simp [h]

theorem conv_one (W : World) (b : Nat) (c : UInt8) (h : W.cell? ⟨b, 0, none⟩ = some (.int .u8 (c.toNat : Int))) :
    (convert 116 9 (.slice (some ⟨b, 0, none⟩) 1 1)).run Tryd.prog W = .ok (.string ⟨[c].toArray⟩) W :=
  run_convert_bytes_back (P := Tryd.prog) W 116 9 5 ⟨b, 0, none⟩ 1 [c] Tryd.underlying116 Tryd.underlying5 Tryd.underlying9 (fun j hj => by
    obtain rfl : j = 0 := by simpa using hj
    simpa [Addr.add] using h)

theorem conv_dig (x : Nat) (W : World) :
    (convert 116 9 (.slice (some ⟨W.heap.size, 0, none⟩) 1 1)).run Tryd.prog (W.alloc (.cells #[.int .u8 (48 + (x : Int) % 10)] 5)) = .ok (.string ⟨[digB x].toArray⟩) (W.alloc (.cells #[.int .u8 (48 + (x : Int) % 10)] 5)) := by
  refine conv_one _ _ _ ?_
  have h : ((digB x).toNat : Int) = 48 + (x : Int) % 10 := by
    unfold digB
    rw [UInt8.toNat_ofNat']
    have : x % 10 < 10 := Nat.mod_lt _ (by omega)
    omega
  rw [h]
  simp

set_option maxHeartbeats 2000000 in
theorem decimal_calls (u : Nat) (hu : u < 18446744073709551616) (w : World) :
    Calls Tryd.prog 27 #[.int .u64 u] w fun e w' => e = .returned (.string ⟨(Lib.decDigits u).toArray⟩) ∧ Below w.heap.size w w' := by
  have hcv := fun W => conv_dig u W
  have hd20 := dec_len u hu
  go_enter Tryd.func27, Tryd.ntmps27
  go_wp2_with fail
  clear hcv
  go_loopw [0, 3] (fun v s W => ∃ x l, x ≤ u ∧ v = .int .u64 (x : Nat) ∧ s = .string ⟨l.toArray⟩ ∧ Lib.decDigits u = decPre x ++ l ∧ Below w.heap.size w W ∧ w.heap.size ≤ W.heap.size) (fun v _ _ => (intOf v).toNat)
  case atStart => exact ⟨u, [digB u], Nat.le_refl _, rfl, rfl, decPre_eq u, (Below.refl _ _).alloc (Nat.le_refl _) _, by simp⟩
  case round =>
    obtain ⟨x, l, hx, rfl, rfl, hl, hb, hz⟩ := hrel
    have HL := Lib.hid hl
    have hl20 : l.length ≤ 20 := by rw [hl] at hd20; simp at hd20; omega
    clear hl
    by_cases h : x < 10
    · have hlx : l = Lib.decDigits u := by rw [HL.out]; simp [decPre, h]
      go_wp2
      go_ret
      exact ⟨by rw [hlx]; rfl, hb⟩
    · obtain ⟨y, hy⟩ : ∃ y, y = x / 10 := ⟨_, rfl⟩
      have hyd : (y : Int) = (x : Int) / 10 := by omega
      have hcv := fun W => conv_dig y W
      simp only [hyd] at hcv
      have HY := Lib.hid hy
      have hyx : y < x := by omega
      clear hy
      have hx10 : (10 : Int) ≤ (x : Int) := by omega
      have hxu : (x : Int) < 18446744073709551616 := by omega
      go_wp2
      go_roundw
      case rel =>
        refine ⟨y, digB y :: l, by omega, by rw [hyd], ?_, ?_, hb.alloc (by omega) _, by simp; omega⟩
        · show Value.string (⟨[digB y].toArray⟩ ++ ⟨l.toArray⟩) = _
          rw [ByteArray.mk_append_mk]
          rfl
        · rw [HL.out, decPre, if_neg h, ← HY.out, decPre_eq y]
          simp
      case measure => simp [intOf]; omega

set_option maxHeartbeats 1000000 in
theorem rtext_calls (a b c : Nat) (ha : a < 18446744073709551616) (hb : b < 4294967296) (hc : c < 4294967296) (w : World) :
    Calls Tryd.prog 28 #[.agg #[.int .u64 a, .int .u32 b, .int .u32 c]] w fun e w' => e = .returned (.string ⟨(stampT a b c).toArray⟩) ∧ Below w.heap.size w w' := by
  have la := dec_len a ha
  have lb := dec_len b (by omega)
  have lc := dec_len c (by omega)
  have hb' : b < 18446744073709551616 := by omega
  have hc' : c < 18446744073709551616 := by omega
  have ib : (b : Int) < 4294967296 := by omega
  have ic : (c : Int) < 4294967296 := by omega
  go_enter Tryd.func28, Tryd.ntmps28
  go_wp2
  have hlen : w.heap.size < (w.alloc (.cells #[.int .u64 a, .int .u32 b, .int .u32 c] 31)).heap.size := by simp
  obtain ⟨W, hW⟩ : ∃ W, W = w.alloc (.cells #[.int .u64 a, .int .u32 b, .int .u32 c] 31) := ⟨_, rfl⟩
  have c0 : W.cell? ⟨w.heap.size, 0, none⟩ = some (.int .u64 a) := by rw [hW]; simp
  have c1 : W.cell? ⟨w.heap.size, 1, none⟩ = some (.int .u32 b) := by rw [hW]; simp
  have c2 : W.cell? ⟨w.heap.size, 2, none⟩ = some (.int .u32 c) := by rw [hW]; simp
  have d0 := cell_aged c0
  have d1 := cell_aged c1
  have d2 := cell_aged c2
  have hB : Below w.heap.size w W := by rw [hW]; exact (Below.refl _ _).alloc (Nat.le_refl _) _
  rw [← hW]
  clear hW c0 c1 c2
  refine wp_region_aged (by kernel_rfl) (by kernel_rfl) ?_
  repeat (go_big_quiet_step ((exact calls_aged (decimal_calls _ (by first | exact ha | exact hb' | exact hc') _))))
  refine wpQuiet_nil ?_
  rintro _ ⟨p, rfl⟩
  go_wp2
  go_ret
  refine ⟨?_, hB.trans ((aged_below W p).mono (by have := hB.size; omega))⟩
  simp only [stampT, ByteArray.mk_append_mk]
  rfl
end Go.Proofs.YtconkncoohcdfaaDoor
