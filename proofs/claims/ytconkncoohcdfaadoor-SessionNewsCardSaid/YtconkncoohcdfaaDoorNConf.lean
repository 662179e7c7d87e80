/- When a configuration is valid: the program's test and the document's are one. For any list of splits. -/
import Derived.Test.YtconkncoohcdfaaDoorBlk
import Derived.WalkLawsBesides
namespace Go.Proofs.YtconkncoohcdfaaDoor
open Go.RowKit
set_option linter.unusedSimpArgs false
set_option linter.unusedVariables false
set_option maxRecDepth 100000
attribute [local go_sem ↓] Go.wp_at_zero Go.wp_at_succ

theorem less_total : ∀ {a b : List UInt8}, Op.bytesLess a b = false → Op.bytesLess b a = false → a = b
  | [], [], _, _ => rfl
  | [], _ :: _, h, _ => by simp [Op.bytesLess] at h
  | _ :: _, [], _, h => by simp [Op.bytesLess] at h
  | a :: x, b :: y, h1, h2 => by
    simp only [Op.bytesLess, Bool.or_eq_false_iff, Bool.and_eq_false_iff, decide_eq_false_iff_not, beq_eq_false_iff_ne] at h1 h2
    have e : a = b := by
      apply UInt8.toNat_inj.1
      have n1 := h1.1
      have n2 := h2.1
      rw [UInt8.lt_iff_toNat_lt] at n1 n2
      omega
    subst e
    rw [less_total (h1.2.resolve_left (fun h => h rfl)) (h2.2.resolve_left (fun h => h rfl))]
theorem less_asymm : ∀ {a b : List UInt8}, Op.bytesLess a b = true → Op.bytesLess b a = false
  | [], [], h => by simp [Op.bytesLess] at h
  | [], _ :: _, _ => by simp [Op.bytesLess]
  | _ :: _, [], h => by simp [Op.bytesLess] at h
  | a :: x, b :: y, h => by
    simp only [Op.bytesLess, Bool.or_eq_true, Bool.and_eq_true, decide_eq_true_eq, beq_iff_eq] at h
    simp only [Op.bytesLess, Bool.or_eq_false_iff, Bool.and_eq_false_iff, decide_eq_false_iff_not, beq_eq_false_iff_ne]
    rw [UInt8.lt_iff_toNat_lt] at h
    rw [UInt8.lt_iff_toNat_lt]
    rcases h with h | ⟨rfl, h⟩
    · exact ⟨by omega, .inl (fun e => by rw [e] at h; omega)⟩
    · exact ⟨by omega, .inr (less_asymm h)⟩
theorem less_irrefl (a : List UInt8) : Op.bytesLess a a = false := by
  cases h : Op.bytesLess a a
  · rfl
  · have := less_asymm h
    rw [h] at this
    cases this
theorem less_nil (a : List UInt8) : Op.bytesLess a [] = false := by cases a <;> rfl

/-- is the one text the other, or ahead of it -/
def leS (a b : ByteArray) : Bool := Op.bytesLess a.toList b.toList || a.toList == b.toList
theorem leS_not (a b : ByteArray) : leS a b = !(Op.bytesLess b.toList a.toList) := by
  unfold leS
  cases h : Op.bytesLess b.toList a.toList
  · cases h' : Op.bytesLess a.toList b.toList
    · rw [less_total h' h]; simp
    · rfl
  · rw [less_asymm h]
    simp only [Bool.false_or, Bool.not_true, beq_eq_false_iff_ne]
    intro e
    rw [e, less_irrefl] at h
    cases h
theorem leS_empty (a : ByteArray) : leS a ⟨#[]⟩ = (a.toList == []) := by
  unfold leS
  rw [show (⟨#[]⟩ : ByteArray).toList = [] by rw [ByteArray.toList_eq], less_nil, Bool.false_or]

/-- does a list of texts rise, from behind a text on, each of at most 32 bytes -/
def chkS : ByteArray → List ByteArray → Bool
  | _, [] => true
  | last, k :: r => !(leS k last || decide ((32 : Int) < (k.size : Int))) && chkS k r
def btwB (v lo hi : Int) : Bool := decide (lo ≤ v) && decide (v ≤ hi)
def numsB (sh cl ca pk : Int) (n : Nat) : Bool := btwB sh 1 6 && (btwB cl 1 6 && (btwB ca 256 1048576 && (btwB pk 0 16 && decide ((n : Int) = sh - 1))))
def validB (sh cl ca pk : Int) (fs : List ByteArray) : Bool := numsB sh cl ca pk fs.length && chkS ⟨#[]⟩ fs
theorem chk_step (L : ByteArray) (fs : List ByteArray) (k : Nat) (h : k < fs.length) : chkS L (fs.drop k) = (!(leS fs[k] L || decide ((32 : Int) < (fs[k].size : Int))) && chkS fs[k] (fs.drop (k + 1))) := by
  rw [List.drop_eq_getElem_cons h]
  rfl
theorem btw_of {v lo hi : Int} (h : btwB v lo hi = true) : lo ≤ v ∧ v ≤ hi := by simpa [btwB] using h
theorem btw_not {v lo hi : Int} (h : btwB v lo hi = false) : v < lo ∨ hi < v := by
  unfold btwB at h
  by_cases h1 : lo ≤ v
  · by_cases h2 : v ≤ hi
    · simp [h1, h2] at h
    · exact .inr (by omega)
  · exact .inl (by omega)

/-- a configuration's six cells -/
def confC (sh cl : Int) (sv : Value) (ca pk wd : Int) : Array Value := #[.int .i64 sh, .int .i64 cl, sv, .int .i64 ca, .int .i64 pk, .int .u64 wd]
/-- a slice's address holds these texts -/
def StrsIn (A : Option Addr) (fs : List ByteArray) (w : World) : Prop := 0 < fs.length → ∃ b off, A = some ⟨b, off, none⟩ ∧ ∀ (j : Nat) (h : j < fs.length), w.cell? ⟨b, off + j, none⟩ = some (.string fs[j])
theorem StrsIn.below {A : Option Addr} {fs : List ByteArray} {w w' : World} (h : StrsIn A fs w) (hb : Below w.heap.size w w') : StrsIn A fs w' := fun h0 => by
  obtain ⟨b, off, e, hc⟩ := h h0
  exact ⟨b, off, e, fun j hj => cell_of_below hb (hc j hj)⟩

theorem between_calls (v lo hi : Int) (w : World) :
    Calls Tryd.prog 79 #[.int .i64 v, .int .i64 lo, .int .i64 hi] w fun e w' => e = .returned (.bool (btwB v lo hi)) ∧ w = w' := by
  by_cases h1 : lo ≤ v
  · by_cases h2 : v ≤ hi
    · go_enter Tryd.func79, Tryd.ntmps79
      go_wp2
      go_ret
      exact ⟨by simp [btwB, h1, h2], rfl⟩
    · have d2 : decide (v ≤ hi) = false := by simpa using h2
      go_enter Tryd.func79, Tryd.ntmps79
      go_wp2
      go_ret
      exact ⟨by simp [btwB, h1, h2], rfl⟩
  · have d1 : decide (lo ≤ v) = false := by simpa using h1
    go_enter Tryd.func79, Tryd.ntmps79
    go_wp2
    go_ret
    exact ⟨by simp [btwB, d1], rfl⟩

set_option maxHeartbeats 2000000 in
theorem rvalid_calls (sh cl ca pk wd : Int) (A : Option Addr) (fs : List ByteArray) (cap : Nat) (hl : fs.length ≤ 9223372036854775807) (w : World) (hs : StrsIn A fs w) :
    Calls Tryd.prog 53 #[.agg (confC sh cl (.slice A fs.length cap) ca pk wd)] w fun e w' => e = .returned (.bool (validB sh cl ca pk fs)) ∧ Below w.heap.size w w' := by
  obtain ⟨b0, hb0⟩ : ∃ b, b = btwB sh 1 6 := ⟨_, rfl⟩
  obtain ⟨b1, hb1⟩ : ∃ b, b = btwB cl 1 6 := ⟨_, rfl⟩
  obtain ⟨b2, hb2⟩ : ∃ b, b = btwB ca 256 1048576 := ⟨_, rfl⟩
  obtain ⟨b3, hb3⟩ : ∃ b, b = btwB pk 0 16 := ⟨_, rfl⟩
  obtain ⟨b5, hb5⟩ : ∃ b, b = chkS ⟨#[]⟩ fs := ⟨_, rfl⟩
  have c0 := fun W => between_calls sh 1 6 W
  have c1 := fun W => between_calls cl 1 6 W
  have c2 := fun W => between_calls ca 256 1048576 W
  have c3 := fun W => between_calls pk 0 16 W
  rw [← hb0] at c0
  rw [← hb1] at c1
  rw [← hb2] at c2
  rw [← hb3] at c3
  unfold validB numsB confC
  rw [← hb0, ← hb1, ← hb2, ← hb3, ← hb5]
  have hbox : Below w.heap.size w (w.alloc (.cells #[.int .i64 sh, .int .i64 cl, .slice A fs.length cap, .int .i64 ca, .int .i64 pk, .int .u64 wd] 41)) := (Below.refl _ _).alloc (Nat.le_refl _) _
  have HS := Lib.hid (hs.below hbox)
  have HX := Lib.hid hbox
  have H0 := Lib.hid hb0
  have H5 := Lib.hid hb5
  have C0 := Lib.hid c0
  have C1 := Lib.hid c1
  have C2 := Lib.hid c2
  have C3 := Lib.hid c3
  clear hb0 hb1 hb2 hb3 hb5 c0 c1 c2 c3 hs hbox
  cases b0
  · go_enter Tryd.func53, Tryd.ntmps53
    go_wp2_with fail
    refine (C0.out _).mono ?_
    rintro e w1 ⟨rfl, rfl⟩
    go_wp2
    go_ret
    exact ⟨rfl, HX.out⟩
  cases b1
  · go_enter Tryd.func53, Tryd.ntmps53
    go_wp2_with fail
    refine (C0.out _).mono ?_
    rintro e w1 ⟨rfl, rfl⟩
    go_wp2_with fail
    refine (C1.out _).mono ?_
    rintro e w1 ⟨rfl, rfl⟩
    go_wp2
    go_ret
    exact ⟨rfl, HX.out⟩
  cases b2
  · go_enter Tryd.func53, Tryd.ntmps53
    go_wp2_with fail
    refine (C0.out _).mono ?_
    rintro e w1 ⟨rfl, rfl⟩
    go_wp2_with fail
    refine (C1.out _).mono ?_
    rintro e w1 ⟨rfl, rfl⟩
    go_wp2_with fail
    refine (C2.out _).mono ?_
    rintro e w1 ⟨rfl, rfl⟩
    go_wp2
    go_ret
    exact ⟨rfl, HX.out⟩
  cases b3
  · go_enter Tryd.func53, Tryd.ntmps53
    go_wp2_with fail
    refine (C0.out _).mono ?_
    rintro e w1 ⟨rfl, rfl⟩
    go_wp2_with fail
    refine (C1.out _).mono ?_
    rintro e w1 ⟨rfl, rfl⟩
    go_wp2_with fail
    refine (C2.out _).mono ?_
    rintro e w1 ⟨rfl, rfl⟩
    go_wp2_with fail
    refine (C3.out _).mono ?_
    rintro e w1 ⟨rfl, rfl⟩
    go_wp2
    go_ret
    exact ⟨rfl, HX.out⟩
  have s1 : 1 ≤ sh := (btw_of H0.out.symm).1
  have s2 : sh ≤ 6 := (btw_of H0.out.symm).2
  by_cases hn : (fs.length : Int) = sh - 1
  · have n1 : ((fs.length : Int) == sh - 1) = true := beq_iff_eq.2 hn
    have n2 : ((fs.length : Int) != sh - 1) = false := by simp [bne, n1]
    have HN := Lib.hid hn
    clear hn
    go_enter Tryd.func53, Tryd.ntmps53
    go_wp2_with fail
    refine (C0.out _).mono ?_
    rintro e w1 ⟨rfl, rfl⟩
    go_wp2_with fail
    refine (C1.out _).mono ?_
    rintro e w1 ⟨rfl, rfl⟩
    go_wp2_with fail
    refine (C2.out _).mono ?_
    rintro e w1 ⟨rfl, rfl⟩
    go_wp2_with fail
    refine (C3.out _).mono ?_
    rintro e w1 ⟨rfl, rfl⟩
    clear C0 C1 C2 C3
    go_wp2
    go_loop [3, 40] (fun v i => ∃ (k : Nat) (L : ByteArray), k ≤ fs.length ∧ i = .int .i64 k ∧ v = .string L ∧ Hid (chkS ⟨#[]⟩ fs = chkS L (fs.drop k))) (fun _ i => fs.length - (intOf i).toNat)
    case atStart => exact ⟨0, ⟨#[]⟩, Nat.zero_le _, rfl, rfl, Lib.hid rfl⟩
    case round =>
      obtain ⟨k, L, hk, rfl, rfl, HK⟩ := hrel
      by_cases hlt : k < fs.length
      · obtain ⟨b, off, rfl, hc⟩ := HS.out (by omega)
        have hck := hc k hlt
        have hst := chk_step L fs k hlt
        obtain ⟨s, hsd⟩ : ∃ s, s = fs[k] := ⟨_, rfl⟩
        rw [← hsd] at hck hst
        have HST := Lib.hid hst
        clear hst hc hsd
        obtain ⟨d1, hd1⟩ : ∃ d, d = leS s L := ⟨_, rfl⟩
        obtain ⟨d2, hd2⟩ : ∃ d, d = decide ((32 : Int) < (s.size : Int)) := ⟨_, rfl⟩
        rw [← hd1, ← hd2] at HST
        have e1 : (Op.bytesLess s.toList L.toList || s.toList == L.toList) = d1 := hd1.symm
        have e2 := hd2.symm
        clear hd1 hd2
        cases d1
        · cases d2
          · go_wp2
            go_round
            case rel => exact ⟨k + 1, s, by omega, by go_num, rfl, Lib.hid (HK.out.trans (by rw [HST.out]; simp))⟩
            case measure => simp [intOf]; omega
          · go_wp2
            go_ret
            refine ⟨?_, HX.out⟩
            rw [H5.out, HK.out, HST.out]
            simp
        · go_wp2
          go_ret
          refine ⟨?_, HX.out⟩
          rw [H5.out, HK.out, HST.out]
          simp
      · obtain rfl : k = fs.length := by omega
        go_wp2
        go_ret
        refine ⟨?_, HX.out⟩
        rw [H5.out, HK.out, List.drop_length]
        simp [chkS, HN.out]
  · have n1 : ((fs.length : Int) == sh - 1) = false := beq_eq_false_iff_ne.2 hn
    have n2 : ((fs.length : Int) != sh - 1) = true := by simp [bne, n1]
    have HN := Lib.hid hn
    clear hn
    go_enter Tryd.func53, Tryd.ntmps53
    go_wp2_with fail
    refine (C0.out _).mono ?_
    rintro e w1 ⟨rfl, rfl⟩
    go_wp2_with fail
    refine (C1.out _).mono ?_
    rintro e w1 ⟨rfl, rfl⟩
    go_wp2_with fail
    refine (C2.out _).mono ?_
    rintro e w1 ⟨rfl, rfl⟩
    go_wp2_with fail
    refine (C3.out _).mono ?_
    rintro e w1 ⟨rfl, rfl⟩
    go_wp2
    go_ret
    refine ⟨?_, HX.out⟩
    simp [HN.out]
end Go.Proofs.YtconkncoohcdfaaDoor
