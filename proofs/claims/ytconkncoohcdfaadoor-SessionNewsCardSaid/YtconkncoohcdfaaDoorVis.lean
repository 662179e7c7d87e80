/- Both replies to one answer are one text, of bytes that can be seen: where the answer's texts and pairs are at most some millions together. -/
import Derived.Test.YtconkncoohcdfaaDoorRef21b
namespace Go.Proofs.YtconkncoohcdfaaDoor
open Go.RowKit
set_option linter.unusedSimpArgs false
set_option linter.unusedVariables false
set_option maxRecDepth 100000

/-- bytes that can be seen, and the blank -/
def Vis (l : List UInt8) : Prop := ∀ c ∈ l, 32 ≤ c.toNat ∧ c.toNat ≤ 126
theorem Vis.append {a b : List UInt8} (h : Vis a) (k : Vis b) : Vis (a ++ b) := fun c hc => (List.mem_append.1 hc).elim (h c) (k c)
theorem Vis.cons {x : UInt8} {b : List UInt8} (h : 32 ≤ x.toNat ∧ x.toNat ≤ 126) (k : Vis b) : Vis (x :: b) := fun c hc => (List.mem_cons.1 hc).elim (fun e => e ▸ h) (k c)
theorem Vis.nil : Vis [] := fun c hc => by cases hc
theorem vis_dec : ∀ u : Nat, Vis (Lib.decDigits u) := by
  intro u
  induction u using Nat.strongRecOn with
  | _ u ih =>
    rw [decPre_eq]
    refine Vis.append ?_ (Vis.cons ?_ Vis.nil)
    · unfold decPre
      split
      · exact Vis.nil
      · exact ih _ (by omega)
    · unfold digB
      rw [UInt8.toNat_ofNat']
      omega
theorem vis_itoa (n : Int) : Vis (Lib.itoa n) := by
  by_cases h : n < 0
  · obtain ⟨u, rfl⟩ : ∃ u : Nat, n = -(u : Int) := ⟨n.natAbs, by omega⟩
    rw [Lib.itoa_neg u (by omega)]
    exact Vis.cons (by decide) (vis_dec u)
  · obtain ⟨u, rfl⟩ : ∃ u : Nat, n = u := ⟨n.toNat, by omega⟩
    rw [Lib.itoa_nonneg]
    exact vis_dec u
theorem vis_hexD (n : Nat) (h : n < 16) : 32 ≤ (hexD n).toNat ∧ (hexD n).toNat ≤ 126 := by
  unfold hexD
  split
  · rw [UInt8.toNat_ofNat']; omega
  · rw [UInt8.toNat_ofNat']; omega
theorem vis_escB (c : UInt8) : Vis (escB c) := by
  have hc := c.toNat_lt
  unfold escB
  split
  · rename_i h
    simp only [itselfB, Bool.and_eq_true, decide_eq_true_eq] at h
    exact Vis.cons ⟨by omega, by omega⟩ Vis.nil
  · exact Vis.cons (by decide) (Vis.cons (vis_hexD _ (by omega)) (Vis.cons (vis_hexD _ (by omega)) Vis.nil))
theorem vis_wordB (l : List UInt8) : Vis (wordB l) := by
  unfold wordB
  split
  · exact Vis.cons (by decide) Vis.nil
  · intro c hc
    obtain ⟨x, _, hx⟩ := List.mem_flatMap.1 hc
    exact vis_escB x c hx
instance (l : List UInt8) : Decidable (Vis l) := inferInstanceAs (Decidable (∀ c ∈ l, 32 ≤ c.toNat ∧ c.toNat ≤ 126))
theorem vis_names : ∀ p ∈ nameList, Vis p.2 ∧ p.2.length ≤ 20 := by decide
theorem vis_nameOf (st : Int) : Vis (nameOf st) := by
  unfold nameOf
  split
  · rename_i p hp
    exact (vis_names p (List.mem_of_find?_eq_some hp)).1
  · exact vis_itoa st
theorem nameOf_len (st : Int) (h0 : -9223372036854775808 ≤ st) (h1 : st ≤ 9223372036854775807) : (nameOf st).length ≤ 21 := by
  unfold nameOf
  split
  · rename_i p hp
    have := (vis_names p (List.mem_of_find?_eq_some hp)).2
    omega
  · exact itoa_len st h0 h1
theorem vis_stampT (a b c : Nat) : Vis (stampT a b c) :=
  ((((vis_dec a).append (Vis.cons (by decide) Vis.nil)).append (vis_dec b)).append (Vis.cons (by decide) Vis.nil)).append (vis_dec c)

def totOf : List (ByteArray × ByteArray) → Nat
  | [] => 0
  | p :: r => p.1.size + p.2.size + 2 + totOf r
theorem totOf_append (l r : List (ByteArray × ByteArray)) : totOf (l ++ r) = totOf l + totOf r := by
  induction l with
  | nil => simp [totOf]
  | cons p l ih => simp only [List.cons_append, totOf, ih]; omega
theorem totOf_take (ps : List (ByteArray × ByteArray)) (n : Nat) (h : n < ps.length) : totOf (ps.take (n + 1)) = totOf (ps.take n) + (ps[n].1.size + ps[n].2.size + 2) := by
  rw [List.take_succ_eq_append_getElem h, totOf_append]
  simp [totOf]
theorem totOf_mem (ps : List (ByteArray × ByteArray)) : ∀ p ∈ ps, p.1.size + p.2.size + 2 ≤ totOf ps := by
  induction ps with
  | nil => intro p hp; cases hp
  | cons q l ih =>
    intro p hp
    simp only [totOf]
    rcases List.mem_cons.1 hp with rfl | h
    · omega
    · have := ih p h; omega
theorem totOf_len (ps : List (ByteArray × ByteArray)) : ps.length * 2 ≤ totOf ps := by
  induction ps with
  | nil => simp [totOf]
  | cons q l ih => simp only [totOf, List.length_cons]; omega
theorem pairs_len (ps : List (ByteArray × ByteArray)) : (ps.flatMap (fun p => (32 :: wordB p.1.data.toList) ++ (32 :: wordB p.2.data.toList))).length ≤ 3 * totOf ps := by
  induction ps with
  | nil => simp [totOf]
  | cons p l ih =>
    have h1 := wordB_len p.1.data.toList
    have h2 := wordB_len p.2.data.toList
    have e1 : p.1.data.toList.length = p.1.size := by simp
    have e2 : p.2.data.toList.length = p.2.size := by simp
    rw [e1] at h1
    rw [e2] at h2
    simp only [List.flatMap_cons, List.length_append, List.length_cons, totOf] at ih ⊢
    omega
theorem vis_pairs (ps : List (ByteArray × ByteArray)) : Vis (ps.flatMap (fun p => (32 :: wordB p.1.data.toList) ++ (32 :: wordB p.2.data.toList))) := by
  intro c hc
  obtain ⟨p, _, hp⟩ := List.mem_flatMap.1 hc
  exact (Vis.append (Vis.cons (by decide) (vis_wordB _)) (Vis.cons (by decide) (vis_wordB _))) c hp
theorem vis_scanL (ps : List (ByteArray × ByteArray)) : Vis (scanL ps) := by
  rw [← outStr_all]
  unfold outStr
  rw [List.take_length]
  exact (Vis.append (show Vis [112, 97, 105, 114, 115, 32] by decide) (vis_dec _)).append (vis_pairs ps)
theorem scanL_len (ps : List (ByteArray × ByteArray)) (h : ps.length ≤ 1000000000) : (scanL ps).length ≤ 26 + 3 * totOf ps := by
  rw [← outStr_all]
  unfold outStr
  rw [List.take_length]
  have h1 := dec_len ps.length (by omega)
  have h2 := pairs_len ps
  simp only [List.length_append, List.length_cons, List.length_nil]
  omega

def answerV (cl tc ts : Int) (k : Int) (ro ao bk : Bool) (tk ky hi vl : ByteArray) (lm st a b c : Int) (A : Option Addr) (n cap : Nat) (tok : ByteArray) : Value :=
  .agg #[.int .u32 cl, .int .u32 tc, .int .u32 ts, .int .i64 k, .bool ro, .bool ao, .bool bk, .string tk, .string ky, .string hi, .string vl, .int .i64 lm, .int .i64 st, .int .u64 a, .int .u32 b, .int .u32 c, .slice A n cap, .string tok]

/-- the pairs lie in the world -/
def PairsIn (A : Option Addr) (ps : List (ByteArray × ByteArray)) (w : World) : Prop :=
  0 < ps.length → ∃ b off, A = some ⟨b, off, none⟩ ∧ ∀ j (hj : j < ps.length), w.cell? ⟨b, off + j * 2, none⟩ = some (.string ps[j].1) ∧ w.cell? ⟨b, off + j * 2 + 1, none⟩ = some (.string ps[j].2)
theorem PairsIn.below {A : Option Addr} {ps : List (ByteArray × ByteArray)} {w w' : World} (h : PairsIn A ps w) (hb : Below w.heap.size w w') : PairsIn A ps w' := fun h0 => by
  obtain ⟨b, off, hA, hc⟩ := h h0
  exact ⟨b, off, hA, fun j hj => ⟨cell_of_below hb (hc j hj).1, cell_of_below hb (hc j hj).2⟩⟩

set_option maxHeartbeats 2000000 in
theorem both_replies (cl tc ts : Int) (k : Int) (ro ao bk : Bool) (tk ky hi vl : ByteArray) (lm st a b c : Int) (A : Option Addr) (ps : List (ByteArray × ByteArray)) (cap : Nat) (tok : ByteArray) (w : World)
    (htc : 0 ≤ tc ∧ tc < 4294967296) (hts : 0 ≤ ts ∧ ts < 4294967296) (hst : -9223372036854775808 ≤ st ∧ st ≤ 9223372036854775807)
    (ha : 0 ≤ a ∧ a < 18446744073709551616) (hb : 0 ≤ b ∧ b < 4294967296) (hc : 0 ≤ c ∧ c < 4294967296) (htok : tok.size ≤ 1000000000) (hps : PairsIn A ps w) (htot : totOf ps ≤ 1000000000) (htab : Pow w) (hnm : NamesIn w) :
    ∃ l : List UInt8, Vis l ∧ l ≠ [] ∧ l.length ≤ 140737488355328 ∧ ∀ W, Below w.heap.size w W →
      (Calls Tryd.prog 7 #[answerV cl tc ts k ro ao bk tk ky hi vl lm st a b c A ps.length cap tok] W fun e w' => e = .returned (.string ⟨l.toArray⟩) ∧ Below W.heap.size W w') ∧
      (Calls Tryd.prog 8 #[answerV cl tc ts k ro ao bk tk ky hi vl lm st a b c A ps.length cap tok] W fun e w' => e = .returned (.string ⟨l.toArray⟩) ∧ Below W.heap.size W w') := by
  have hlen := totOf_len ps
  by_cases h0 : st = 0
  · subst h0
    obtain ⟨a, rfl⟩ : ∃ x : Nat, a = x := ⟨a.toNat, by omega⟩
    obtain ⟨b, rfl⟩ : ∃ x : Nat, b = x := ⟨b.toNat, by omega⟩
    obtain ⟨c, rfl⟩ : ∃ x : Nat, c = x := ⟨c.toNat, by omega⟩
    obtain ⟨tc, rfl⟩ : ∃ x : Nat, tc = x := ⟨tc.toNat, by omega⟩
    obtain ⟨ts, rfl⟩ : ∃ x : Nat, ts = x := ⟨ts.toNat, by omega⟩
    have l3 := stampT_len a b c (by omega) (by omega) (by omega)
    by_cases k1 : k = 1
    · subst k1
      refine ⟨beginL tc ts a b c, ?_, by simp [beginL], ?_, fun W hW => ⟨reply_begin _ _ _ _ _ _ _ _ _ _ _ tc ts a b c (by omega) (by omega) (by omega) (by omega) (by omega) W (htab.below hW), rreply_begin _ _ _ _ _ _ _ _ _ _ _ tc ts a b c (by omega) (by omega) (by omega) (by omega) (by omega) W⟩⟩
      · exact (((((show Vis [98, 101, 103, 117, 110, 32] by decide).append (vis_dec tc)).append (show Vis [32] by decide)).append (vis_dec ts)).append (show Vis [32] by decide)).append (vis_stampT a b c)
      · have := dec_len tc (by omega)
        have := dec_len ts (by omega)
        simp [beginL]
        omega
    by_cases k2 : k = 2
    · subst k2
      cases ps with
      | nil => exact ⟨[110, 111, 110, 101], by decide, by simp, by simp, fun W hW => ⟨reply_getNone _ _ _ _ _ _ _ _ _ _ _ _ _ _ _ A cap W, rreply_getNone _ _ _ _ _ _ _ _ _ _ _ _ _ _ _ A cap W⟩⟩
      | cons p r =>
        obtain ⟨bb, off, rfl, hcs⟩ := hps (by simp)
        have h0 := (hcs 0 (by simp)).2
        have hm := totOf_mem (p :: r) p (by simp)
        have hl := wordB_len p.2.data.toList
        have e2 : p.2.data.toList.length = p.2.size := by simp
        rw [e2] at hl
        refine ⟨[118, 97, 108, 117, 101, 32] ++ wordB p.2.data.toList, Vis.append (by decide) (vis_wordB _), by simp, by simp only [List.length_append, List.length_cons, List.length_nil]; omega, fun W hW => ?_⟩
        have hcW := cell_of_below hW h0
        simp only [Nat.zero_mul, Nat.add_zero] at hcW
        exact ⟨reply_get _ _ _ _ _ _ _ _ _ _ _ _ _ _ _ bb off _ cap p.2 (by simp) (by omega) W hcW, rreply_get _ _ _ _ _ _ _ _ _ _ _ _ _ _ _ bb off _ cap p.2 (by simp) (by omega) W hcW⟩
    by_cases k3 : k = 3
    · subst k3
      have hl := scanL_len ps (by omega)
      have hm : ∀ p ∈ ps, 3 * p.1.size ≤ 140737488355328 ∧ 3 * p.2.size ≤ 140737488355328 := fun p hp => by have := totOf_mem ps p hp; omega
      refine ⟨scanL ps, vis_scanL ps, by rw [← outStr_all]; simp [outStr], by omega, fun W hW => ⟨reply_scan _ _ _ _ _ _ _ _ _ _ _ _ _ _ _ A cap ps W (htab.below hW) (hps.below hW) hm (by omega) (by omega), rreply_scan _ _ _ _ _ _ _ _ _ _ _ _ _ _ _ A cap ps W (hps.below hW) hm (by omega) (by omega)⟩⟩
    by_cases k6 : k = 6
    · subst k6
      have hl := wordB_len tok.data.toList
      have e2 : tok.data.toList.length = tok.size := by simp
      rw [e2] at hl
      refine ⟨commitL a b c tok.data.toList, ?_, by simp [commitL], by simp only [commitL, List.length_append, List.length_cons, List.length_nil]; omega, fun W hW => ⟨reply_commit _ _ _ _ _ _ _ _ _ _ _ _ tok a b c (by omega) (by omega) (by omega) (by omega) W (htab.below hW), rreply_commit _ _ _ _ _ _ _ _ _ _ _ _ a b c (by omega) (by omega) (by omega) tok (by omega) W⟩⟩
      exact (((show Vis [99, 111, 109, 109, 105, 116, 116, 101, 100, 32] by decide).append (vis_stampT a b c)).append (show Vis [32] by decide)).append (vis_wordB _)
    exact ⟨[111, 107], by decide, by simp, by simp, fun W hW => ⟨reply_other _ _ _ _ _ _ _ _ _ _ _ _ _ _ _ _ k k1 k2 k3 k6 W, rreply_other _ _ _ _ _ _ _ _ _ _ _ _ _ _ _ _ k k1 k2 k3 k6 W⟩⟩
  · have hl := nameOf_len st hst.1 hst.2
    have hcl : ∀ v ∈ [Value.int .u32 cl, .int .u32 tc, .int .u32 ts, .int .i64 k, .bool ro, .bool ao, .bool bk, .string tk, .string ky, .string hi, .string vl, .int .i64 lm, .int .u64 a, .int .u32 b, .int .u32 c, .slice A ps.length cap, .string tok], v.oneCell' = true := by
      intro v hv
      simp only [List.mem_cons, List.mem_nil_iff, or_false] at hv
      rcases hv with rfl | rfl | rfl | rfl | rfl | rfl | rfl | rfl | rfl | rfl | rfl | rfl | rfl | rfl | rfl | rfl | rfl <;> rfl
    refine ⟨errL st, Vis.append (by decide) (vis_nameOf st), by simp [errL], by simp [errL]; omega, fun W hW => ⟨reply_err _ _ _ _ _ _ _ _ _ _ _ _ _ _ _ _ _ st h0 hst.1 hst.2 W (htab.below hW) (hnm.below hW) hcl, rreply_err _ _ _ _ _ _ _ _ _ _ _ _ _ _ _ _ _ st h0 hst.1 hst.2 W (htab.below hW) (by omega) hcl⟩⟩
end Go.Proofs.YtconkncoohcdfaaDoor
