/- session.New: nil, or a session that has done nothing. -/
import Derived.Test.YtconkncoohcdfaaDoorNClk
namespace Go.Proofs.YtconkncoohcdfaaDoor
open Go.RowKit
set_option linter.unusedSimpArgs false
set_option linter.unusedVariables false
set_option maxRecDepth 100000
attribute [local go_sem ↓] Go.wp_at_zero Go.wp_at_succ

/-- is there a session of that node -/
def newB (node sh cl ca pk : Int) (fs : List ByteArray) : Bool := validB sh cl ca pk fs && (decide (sh ≤ node) && decide (node < sh + cl))
/-- a session's thirteen cells, nothing done -/
def sessC (node sh cl : Int) (sv : Value) (ca pk wd : Int) (c : Addr) : Array Value := #[.int .u32 node, .int .i64 sh, .int .i64 cl, sv, .int .i64 ca, .int .i64 pk, .int .u64 wd, .pointer (some c), .int .u32 0, .int .u32 0, .pointer none, .pointer none, .string ⟨#[]⟩]
/-- a session that has done nothing lies in block b -/
def FreshAt (node sh cl : Int) (ca pk wd : Int) (fs : List ByteArray) (B b : Nat) (w : World) : Prop :=
  B ≤ b ∧ ∃ A cap c, StrsIn A fs w ∧ w.heap[b]? = some (.cells (sessC node sh cl (.slice A fs.length cap) ca pk wd c) 81 (0, 0))
def NewRes (r : Bool) (node sh cl : Int) (ca pk wd : Int) (fs : List ByteArray) (B : Nat) (e : Ending) (w : World) : Prop :=
  if r then ∃ b, e = .returned (.pointer (some ⟨b, 0, none⟩)) ∧ FreshAt node sh cl ca pk wd fs B b w else e = .returned (.pointer none)

theorem StrsIn.only {A : Option Addr} {fs : List ByteArray} {w w' : World} {F : Nat → Prop} (h : StrsIn A fs w) (ho : Only F w w') (hA : ∀ a, A = some a → ¬ F a.block) : StrsIn A fs w' := fun h0 => by
  obtain ⟨b, off, e, hc⟩ := h h0
  refine ⟨b, off, e, fun j hj => ?_⟩
  rw [ho.cell (World.block_lt_of_cell? w _ (hc j hj)) (fun hf => hA _ e hf)]
  exact hc j hj

set_option maxHeartbeats 4000000 in
theorem snew_bad (node sh cl ca pk wd : Int) (A : Option Addr) (fs : List ByteArray) (cap : Nat) (hl : fs.length ≤ 9223372036854775807) (w : World) (hs : StrsIn A fs w) (hv : validB sh cl ca pk fs = false) :
    Calls Tryd.prog 10 #[.int .u32 node, .agg (confC sh cl (.slice A fs.length cap) ca pk wd)] w fun e w' => e = .returned (.pointer none) ∧ Below w.heap.size w w' := by
  have hb0 : Below w.heap.size w (w.alloc (.cells (confC sh cl (.slice A fs.length cap) ca pk wd) 41)) := (Below.refl _ _).alloc (Nat.le_refl _) _
  have hc := text_bad sh cl ca pk wd A fs cap hl _ (hs.below hb0) hv
  have HC := Lib.hid hc
  unfold confC at HC hb0 ⊢
  clear hc hs hv
  go_enter Tryd.func10, Tryd.ntmps10
  go_wp2_with fail
  refine HC.out.mono ?_
  rintro e w1 ⟨rfl, hb1⟩
  go_wp2
  go_ret
  exact ⟨rfl, hb0.trans (hb1.mono hb0.size)⟩

set_option maxHeartbeats 8000000 in
theorem snew_good (node sh cl ca pk wd : Nat) (hnode : node < 4294967296) (hwd : wd < 18446744073709551616) (A : Option Addr) (fs : List ByteArray) (cap : Nat) (hz : A = none → cap = 0) (w : World) (hs : StrsIn A fs w) (hnm : RNamesIn w) (htab : Pow w) (hv : validB sh cl ca pk fs = true) :
    Calls Tryd.prog 10 #[.int .u32 node, .agg (confC sh cl (.slice A fs.length cap) ca pk wd)] w fun e w' => NewRes (decide ((sh : Int) ≤ node) && decide ((node : Int) < sh + cl)) node sh cl ca pk wd fs w.heap.size e w' ∧ Below w.heap.size w w' := by
  obtain ⟨⟨⟨p1, p2⟩, ⟨p3, p4⟩, ⟨p5, p6⟩, ⟨p7, p8⟩, p9⟩, hsm⟩ := valid_parts hv
  have hb0 : Below w.heap.size w (w.alloc (.cells (confC sh cl (.slice A fs.length cap) ca pk wd) 41)) := (Below.refl _ _).alloc (Nat.le_refl _) _
  have hc := text_good sh cl ca pk wd hwd A fs cap _ (hs.below hb0) (hnm.below hb0) (htab.below hb0) hv
  have hcl := fun W (h : StrsIn A fs W) => clone_calls A fs cap hz (by omega) W h
  have HC := Lib.hid hc
  have HCL := Lib.hid hcl
  have HS := Lib.hid hs
  have HB0 := Lib.hid hb0
  unfold confC at HC HB0 ⊢
  clear hc hs hv hb0 hnm htab hsm p9 hcl hz
  obtain ⟨b1, e1⟩ : ∃ b, decide (node < sh) = b := ⟨_, rfl⟩
  obtain ⟨b2, e2⟩ : ∃ b, decide ((sh : Int) + (cl : Int) ≤ (node : Int)) = b := ⟨_, rfl⟩
  have f1 : decide ((sh : Int) ≤ node) = !b1 := by rw [← e1, Bool.eq_iff_iff]; simp
  have f2 : decide ((node : Int) < sh + cl) = !b2 := by rw [← e2, Bool.eq_iff_iff]; simp
  rw [f1, f2]
  clear f1 f2
  cases b1
  case true =>
    go_enter Tryd.func10, Tryd.ntmps10
    go_wp2_with fail
    refine HC.out.mono ?_
    rintro e w1 ⟨⟨T, rfl⟩, hb1⟩
    have g1 := bk_grown (bk_new w _) hb1
    have c0 := bk_cell g1 0
    have c1 := bk_cell g1 1
    simp only [List.getElem?_toArray, List.getElem?_cons_zero, List.getElem?_cons_succ] at c0 c1
    have HBW := Lib.hid (HB0.out.trans (hb1.mono HB0.out.size))
    clear hb1 g1 HB0
    go_wp2
    go_ret
    exact ⟨rfl, HBW.out⟩
  cases b2
  case true =>
    go_enter Tryd.func10, Tryd.ntmps10
    go_wp2_with fail
    refine HC.out.mono ?_
    rintro e w1 ⟨⟨T, rfl⟩, hb1⟩
    have g1 := bk_grown (bk_new w _) hb1
    have c0 := bk_cell g1 0
    have c1 := bk_cell g1 1
    simp only [List.getElem?_toArray, List.getElem?_cons_zero, List.getElem?_cons_succ] at c0 c1
    have HBW := Lib.hid (HB0.out.trans (hb1.mono HB0.out.size))
    clear hb1 g1 HB0
    go_wp2
    go_ret
    exact ⟨rfl, HBW.out⟩
  go_enter Tryd.func10, Tryd.ntmps10
  go_wp2_with fail
  refine HC.out.mono ?_
  rintro e w1 ⟨⟨T, rfl⟩, hb1⟩
  have g1 := bk_grown (bk_new w _) hb1
  have c0 := bk_cell g1 0
  have c1 := bk_cell g1 1
  have c2 := bk_cell g1 2
  simp only [List.getElem?_toArray, List.getElem?_cons_zero, List.getElem?_cons_succ] at c0 c1 c2
  have HBW := Lib.hid (HB0.out.trans (hb1.mono HB0.out.size))
  have G1 := Lib.hid g1
  clear hb1 g1 HB0 HC
  go_wp2_with fail
  refine (HCL.out w1 (HS.out.below HBW.out)).mono ?_
  rintro e w2 ⟨⟨A', cap', rfl, hs2, hA'⟩, hb2⟩
  have g2 := bk_grown G1.out hb2
  have f2 := bk_frozen g2 2
  have k2 := bk_cell g2 2
  simp only [List.getElem?_toArray, List.getElem?_cons_zero, List.getElem?_cons_succ] at k2
  have hO3 : Only (fun k => k = w.heap.size) w2 (w2.setCell ⟨w.heap.size, 2, none⟩ (.slice A' fs.length cap')) := Only.setCell (F := fun k => k = w.heap.size) (Only.refl _ _) (p := ⟨w.heap.size, 2, none⟩) (.inl rfl) _
  have g3 := bk_put g2 2 (.slice A' fs.length cap') (show (#[.int .i64 sh, .int .i64 cl, .slice A fs.length cap, .int .i64 ca, .int .i64 pk, .int .u64 wd] : Array Value).setIfInBounds 2 (.slice A' fs.length cap') = (#[.int .i64 sh, .int .i64 cl, .slice A' fs.length cap', .int .i64 ca, .int .i64 pk, .int .u64 wd] : Array Value) from rfl)
  go_wp2_with fail
  obtain ⟨w3, hw3⟩ : ∃ w3, w3 = w2.setCell ⟨w.heap.size, 2, none⟩ (.slice A' fs.length cap') := ⟨_, rfl⟩
  rw [← hw3] at hO3 g3 ⊢
  have r0 := bk_cell g3 0
  have r1 := bk_cell g3 1
  have r2 := bk_cell g3 2
  have r3 := bk_cell g3 3
  have r4 := bk_cell g3 4
  have r5 := bk_cell g3 5
  simp only [List.getElem?_toArray, List.getElem?_cons_zero, List.getElem?_cons_succ] at r0 r1 r2 r3 r4 r5
  clear hw3 c0 c1 c2 f2 k2 g2 g3
  go_region_held3 (fun W => W.cell? ⟨w.heap.size, 0, none⟩ = some (.int .i64 sh) ∧ W.cell? ⟨w.heap.size, 1, none⟩ = some (.int .i64 cl) ∧ W.cell? ⟨w.heap.size, 2, none⟩ = some (.slice A' fs.length cap') ∧ W.cell? ⟨w.heap.size, 3, none⟩ = some (.int .i64 ca) ∧ W.cell? ⟨w.heap.size, 4, none⟩ = some (.int .i64 pk) ∧ W.cell? ⟨w.heap.size, 5, none⟩ = some (.int .u64 wd)) (go_keep)
    (first | (go_at_call 32; refine (cnew_calls _ _).mono ?_; rintro e w' ⟨rfl, rfl⟩))
  go_wp2
  go_ret
  have z3 : w.heap.size < w3.heap.size := Nat.lt_of_lt_of_le (Nat.lt_of_lt_of_le (bk_lt G1.out) hb2.size) hO3.size
  have hb3 : Below w.heap.size w w3 := (HBW.out.trans (hb2.mono HBW.out.size)).trans (hO3.below (B := w.heap.size) (fun k hk => by omega) (by have := bk_lt G1.out; have := hb2.size; omega))
  have z1 := bk_lt G1.out
  have hs3 : StrsIn A' fs w3 := hs2.only hO3 (fun a e => by have := hA' a e; omega)
  refine ⟨⟨w3.heap.size + 1, by simp, by omega, A', cap', ⟨w3.heap.size, 0, none⟩, ?_, ?_⟩, ?_⟩
  · exact hs3.below (((Below.refl _ _).alloc (Nat.le_refl _) _).alloc (by simp) _).drew
  · have h := bk_new (w3.alloc (.cells (clkC 0 0 node 0 0 0 0) 159)) (.cells (sessC node sh cl (.slice A' fs.length cap') ca pk wd ⟨w3.heap.size, 0, none⟩) 81)
    rw [show (w3.alloc (.cells (clkC 0 0 node 0 0 0 0) 159)).heap.size = w3.heap.size + 1 by simp] at h
    exact h
  · exact ((hb3.alloc (by omega) _).alloc (by simp; omega) _).drew

theorem snew_calls (node sh cl ca pk wd : Int) (hnode : 0 ≤ node ∧ node < 4294967296) (hwd : 0 ≤ wd ∧ wd < 18446744073709551616) (A : Option Addr) (fs : List ByteArray) (cap : Nat) (hz : A = none → cap = 0) (hl : fs.length ≤ 9223372036854775807) (w : World) (hs : StrsIn A fs w) (hnm : RNamesIn w) (htab : Pow w) :
    Calls Tryd.prog 10 #[.int .u32 node, .agg (confC sh cl (.slice A fs.length cap) ca pk wd)] w fun e w' => NewRes (newB node sh cl ca pk fs) node sh cl ca pk wd fs w.heap.size e w' ∧ Below w.heap.size w w' := by
  cases hv : validB sh cl ca pk fs with
  | false =>
    refine (snew_bad node sh cl ca pk wd A fs cap hl w hs hv).mono ?_
    rintro e w' ⟨rfl, hb⟩
    exact ⟨by simp [NewRes, newB, hv], hb⟩
  | true =>
    obtain ⟨⟨⟨p1, p2⟩, ⟨p3, p4⟩, ⟨p5, p6⟩, ⟨p7, p8⟩, p9⟩, hsm⟩ := valid_parts hv
    obtain ⟨n, rfl⟩ := Int.eq_ofNat_of_zero_le hnode.1
    obtain ⟨a, rfl⟩ := Int.eq_ofNat_of_zero_le (show 0 ≤ sh by omega)
    obtain ⟨b, rfl⟩ := Int.eq_ofNat_of_zero_le (show 0 ≤ cl by omega)
    obtain ⟨c, rfl⟩ := Int.eq_ofNat_of_zero_le (show 0 ≤ ca by omega)
    obtain ⟨d, rfl⟩ := Int.eq_ofNat_of_zero_le (show 0 ≤ pk by omega)
    obtain ⟨f, rfl⟩ := Int.eq_ofNat_of_zero_le hwd.1
    refine (snew_good n a b c d f (by omega) (by omega) A fs cap hz w hs hnm htab hv).mono ?_
    rintro e w' ⟨h, hb⟩
    refine ⟨?_, hb⟩
    unfold newB
    rw [hv, Bool.true_and]
    exact h
end Go.Proofs.YtconkncoohcdfaaDoor
