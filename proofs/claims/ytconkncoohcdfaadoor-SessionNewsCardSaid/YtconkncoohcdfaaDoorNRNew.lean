/- The document's New: nil, or a session. -/
import Derived.Test.YtconkncoohcdfaaDoorNNew
import Derived.Deep.AppendLies
import Derived.Deep.RegionLaw
namespace Go.Proofs.YtconkncoohcdfaaDoor
open Go.RowKit
set_option linter.unusedSimpArgs false
set_option linter.unusedVariables false
set_option maxRecDepth 100000
attribute [local go_sem ↓] Go.wp_at_zero Go.wp_at_succ

def RNewRes (r : Bool) (e : Ending) : Prop := if r then SomePtr e else e = .returned (.pointer none)
theorem info_string : (Tryd.prog.info? 9).map (fun i => (i.zero, i.size, i.bytes)) = some (some (.string ⟨#[]⟩), 1, 16) := by kernel_rfl

set_option maxHeartbeats 4000000 in
theorem rsnew_bad (node sh cl ca pk wd : Int) (A : Option Addr) (fs : List ByteArray) (cap : Nat) (hl : fs.length ≤ 9223372036854775807) (w : World) (hs : StrsIn A fs w) (hv : validB sh cl ca pk fs = false) :
    Calls Tryd.prog 11 #[.int .u32 node, .agg (confC sh cl (.slice A fs.length cap) ca pk wd)] w fun e w' => e = .returned (.pointer none) ∧ Below w.heap.size w w' := by
  have hb0 : Below w.heap.size w (w.alloc (.cells (confC sh cl (.slice A fs.length cap) ca pk wd) 41)) := (Below.refl _ _).alloc (Nat.le_refl _) _
  have hc := rtext_bad sh cl ca pk wd A fs cap hl _ (hs.below hb0) hv
  have HC := Lib.hid hc
  unfold confC at HC hb0 ⊢
  clear hc hs hv
  go_enter Tryd.func11, Tryd.ntmps11
  go_wp2_with fail
  refine HC.out.mono ?_
  rintro e w1 ⟨rfl, hb1⟩
  go_wp2
  go_ret
  exact ⟨rfl, hb0.trans (hb1.mono hb0.size)⟩

/-- where the copying stands: the copy's configuration in block P, its splits' first k -/
structure CopyAt (w0 : World) (N P : Nat) (sh cl : Nat) (sv : Value) (ca pk wd : Nat) (cs : Array Value) (fs : List ByteArray) (k : Nat) (v : Value) (W : World) : Prop where
  blk : W.heap[P]? = some (.cells #[.int .i64 sh, .int .i64 cl, v, .int .i64 ca, .int .i64 pk, .int .u64 wd] 41 (0, 0))
  own : W.ownsRow (P + 1) 9 1 v (fs.take k).length ((fs.take k).map Value.string)
  cfg : W.heap[N]? = some (.cells cs 41 (0, 0))
  low : Below N w0 W
  lt : N < P
  le : P + 1 ≤ W.heap.size

theorem CopyAt.far {w0 : World} {N P sh cl ca pk wd : Nat} {sv : Value} {cs : Array Value} {fs : List ByteArray} {k : Nat} {v : Value} {W : World} (h : CopyAt w0 N P sh cl sv ca pk wd cs fs k v W) {g : Nat} (hg : v.ownBlock = some g) : P + 1 ≤ g := by
  rcases h.own.2 with ⟨rfl, _⟩ | ⟨g', gc, cur, rfl, hb, _⟩
  · simp [Value.ownBlock] at hg
  · have : g' = g := by simpa [Value.ownBlock] using hg
    omega
theorem CopyAt.step {w0 : World} {N P sh cl ca pk wd : Nat} {sv : Value} {cs : Array Value} {fs : List ByteArray} {k : Nat} {v V : Value} {W w1 w2 : World} (h : CopyAt w0 N P sh cl sv ca pk wd cs fs k v W) (hlt : k < fs.length)
    (hb : Below W.heap.size W w1) (hgrow : w1.grownBy w2 v.ownBlock) (hV : ∃ g cap, V = .slice (some ⟨g, 0, none⟩) (k + 1) cap) (hown : w2.ownsRow (P + 1) 9 1 V (k + 1) ((fs.take k).map Value.string ++ [.string fs[k]])) :
    CopyAt w0 N P sh cl sv ca pk wd cs fs (k + 1) V (w2.setCell ⟨P, 2, none⟩ V) := by
  have hP : P < W.heap.size := bk_lt h.blk
  have hP1 : P < w1.heap.size := Nat.lt_of_lt_of_le hP hb.size
  have hne : ∀ g, v.ownBlock = some g → P + 1 ≤ g := fun g hg => h.far hg
  have hlen : (fs.take (k + 1)).length = k + 1 := by simp; omega
  have htk : fs.take (k + 1) = fs.take k ++ [fs[k]] := by rw [List.take_succ_eq_append_getElem hlt]
  have hG : Only (fun i => v.ownBlock = some i) w1 w2 := ⟨hgrow.os, hgrow.tape, hgrow.output, hgrow.size, fun i hi hf => hgrow.block i hi (fun e => hf e.symm)⟩
  have hO : Only (fun i => P ≤ i) W (w2.setCell ⟨P, 2, none⟩ V) := by
    refine Only.setCell (F := fun i => P ≤ i) (p := ⟨P, 2, none⟩) ?_ (.inl (Nat.le_refl _)) _
    exact Only.trans (G := fun i => v.ownBlock = some i) (Only.of_below hb) hG (fun i hi => .inl (by have := hne i hi; omega))
  have hle := h.le
  refine ⟨?_, ?_, ?_, ?_, h.lt, ?_⟩
  · exact bk_put (bk_only (bk_grown h.blk hb) hG (fun e => by have := hne _ e; omega)) 2 V rfl
  · rw [hlen, htk, List.map_append]
    refine ownsRow_same hown (fun g hg => Below.heap_setCell _ _ _ _ ?_)
    obtain ⟨g', cap, rfl⟩ := hV
    rcases hown.2 with ⟨e, _⟩ | ⟨g2, gc, cur, e, hb2, _⟩
    · cases e
    · cases e
      have : g' = g := by simpa [Value.ownBlock] using hg
      simp
      omega
  · exact bk_only h.cfg hO (by have := h.lt; omega)
  · exact h.low.trans (hO.below (fun i hi => by have := h.lt; omega) (by have := bk_lt h.cfg; omega))
  · have := hO.size
    omega

set_option maxHeartbeats 8000000 in
theorem rsnew_good (node sh cl ca pk wd : Nat) (hnode : node < 4294967296) (hwd : wd < 18446744073709551616) (A : Option Addr) (fs : List ByteArray) (cap : Nat) (w : World) (hs : StrsIn A fs w) (htab : Pow w) (hv : validB sh cl ca pk fs = true) :
    Calls Tryd.prog 11 #[.int .u32 node, .agg (confC sh cl (.slice A fs.length cap) ca pk wd)] w fun e w' => RNewRes (decide ((sh : Int) ≤ node) && decide ((node : Int) < sh + cl)) e ∧ Below w.heap.size w w' := by
  obtain ⟨⟨⟨p1, p2⟩, ⟨p3, p4⟩, ⟨p5, p6⟩, ⟨p7, p8⟩, p9⟩, hsm⟩ := valid_parts hv
  have hfl : fs.length ≤ 5 := by omega
  have hb0 : Below w.heap.size w (w.alloc (.cells (confC sh cl (.slice A fs.length cap) ca pk wd) 41)) := (Below.refl _ _).alloc (Nat.le_refl _) _
  have hc := rtext_good sh cl ca pk wd hwd A fs cap _ (hs.below hb0) (htab.below hb0) hv
  have HC := Lib.hid hc
  have HS := Lib.hid hs
  have HB0 := Lib.hid hb0
  unfold confC at HC HB0 ⊢
  clear hc hs hv hb0 htab hsm p9
  obtain ⟨b1, e1⟩ : ∃ b, decide (node < sh) = b := ⟨_, rfl⟩
  obtain ⟨b2, e2⟩ : ∃ b, decide ((sh : Int) + (cl : Int) ≤ (node : Int)) = b := ⟨_, rfl⟩
  have f1 : decide ((sh : Int) ≤ node) = !b1 := by rw [← e1, Bool.eq_iff_iff]; simp
  have f2 : decide ((node : Int) < sh + cl) = !b2 := by rw [← e2, Bool.eq_iff_iff]; simp
  rw [f1, f2]
  clear f1 f2
  cases b1
  case true =>
    go_enter Tryd.func11, Tryd.ntmps11
    go_wp2_with fail
    refine HC.out.mono ?_
    rintro e w1 ⟨⟨T, rfl⟩, hb1⟩
    have g1 := bk_grown (bk_new w _) hb1
    have c0 := bk_cell g1 0
    have c1 := bk_cell g1 1
    simp only [List.getElem?_toArray, List.getElem?_cons_zero, List.getElem?_cons_succ] at c0 c1
    have HBW := Lib.hid (HB0.out.trans (hb1.mono HB0.out.size))
    clear hb1 g1 HB0
    go_wp2
    go_ret
    exact ⟨rfl, HBW.out⟩
  cases b2
  case true =>
    go_enter Tryd.func11, Tryd.ntmps11
    go_wp2_with fail
    refine HC.out.mono ?_
    rintro e w1 ⟨⟨T, rfl⟩, hb1⟩
    have g1 := bk_grown (bk_new w _) hb1
    have c0 := bk_cell g1 0
    have c1 := bk_cell g1 1
    simp only [List.getElem?_toArray, List.getElem?_cons_zero, List.getElem?_cons_succ] at c0 c1
    have HBW := Lib.hid (HB0.out.trans (hb1.mono HB0.out.size))
    clear hb1 g1 HB0
    go_wp2
    go_ret
    exact ⟨rfl, HBW.out⟩
  go_enter Tryd.func11, Tryd.ntmps11
  go_wp2_with fail
  refine HC.out.mono ?_
  rintro e w1 ⟨⟨T, rfl⟩, hb1⟩
  have g1 := bk_grown (bk_new w _) hb1
  have c0 := bk_cell g1 0
  have c1 := bk_cell g1 1
  have c2 := bk_cell g1 2
  have c3 := bk_cell g1 3
  have c4 := bk_cell g1 4
  have c5 := bk_cell g1 5
  simp only [List.getElem?_toArray, List.getElem?_cons_zero, List.getElem?_cons_succ] at c0 c1 c2 c3 c4 c5
  have HBW := Lib.hid (HB0.out.trans (hb1.mono HB0.out.size))
  have G1 := Lib.hid g1
  clear hb1 g1 HB0 HC
  go_wp2_with fail
  obtain ⟨cs, hcs⟩ : ∃ cs : Array Value, cs = #[.int .i64 sh, .int .i64 cl, .slice A fs.length cap, .int .i64 ca, .int .i64 pk, .int .u64 wd] := ⟨_, rfl⟩
  have z1 : w.heap.size < w1.heap.size := bk_lt G1.out
  have hst : CopyAt w w.heap.size w1.heap.size sh cl (.slice A fs.length cap) ca pk wd cs fs 0 (.slice none 0 0) (w1.alloc (.cells #[.int .i64 sh, .int .i64 cl, .slice none 0 0, .int .i64 ca, .int .i64 pk, .int .u64 wd] 41)) :=
    ⟨bk_new _ _, by simpa using World.ownsRow_nil _ _ _ _, by rw [hcs]; exact bk_old G1.out _, HBW.out.alloc (by omega) _, z1, by simp⟩
  have hcs2 : cs[2]? = some (.slice A fs.length cap) := by rw [hcs]; rfl
  have HC2 := Lib.hid hcs2
  have HST := Lib.hid hst
  clear hcs2 hcs hst c0 c1 c2 c3 c4 c5 G1 HBW
  generalize w1.alloc (.cells #[.int .i64 sh, .int .i64 cl, .slice none 0 0, .int .i64 ca, .int .i64 pk, .int .u64 wd] 41) = W0 at HST ⊢
  obtain ⟨i0, hi, hz0, hz1, hz2⟩ := info_parts info_string
  go_loopw [8] (fun i W => ∃ (k : Nat) (v : Value), k ≤ fs.length ∧ i = .int .i64 k ∧ CopyAt w w.heap.size w1.heap.size sh cl (.slice A fs.length cap) ca pk wd cs fs k v W) (fun i _ => fs.length - (intOf i).toNat)
  case atStart => exact ⟨0, _, by omega, rfl, HST.out⟩
  case round =>
    obtain ⟨k, v, hk, rfl, hT⟩ := hrel
    have q1 : wr.cell? ⟨w1.heap.size, 2, none⟩ = some v := bk_cell hT.blk 2
    have q2 : wr.cell? ⟨w.heap.size, 2, none⟩ = some (.slice A fs.length cap) := (bk_cell hT.cfg 2).trans HC2.out
    have f1 : wr.frozen? ⟨w1.heap.size, 2, none⟩ = false := bk_frozen hT.blk 2
    have y1 : w1.heap.size < wr.heap.size := bk_lt hT.blk
    by_cases hlt : k < fs.length
    · obtain ⟨b, off, rfl, hc⟩ := HS.out (by omega)
      have hb0 : b < w.heap.size := World.block_lt_of_cell? w _ (hc k hlt)
      have hck := cell_of_below hT.low (hc k hlt)
      have htk : fs.take (k + 1) = fs.take k ++ [fs[k]] := by rw [List.take_succ_eq_append_getElem hlt]
      obtain ⟨s, hsd⟩ : ∃ s, s = fs[k] := ⟨_, rfl⟩
      rw [← hsd] at hck htk
      have HTK := Lib.hid htk
      have hlk : (fs.take k).length = k := by simp; omega
      have hown := hT.own
      rw [hlk] at hown
      have hfar : ∀ g, v.ownBlock = some g → w1.heap.size + 1 ≤ g := by
        intro g hg
        rcases hown.2 with ⟨rfl, _⟩ | ⟨g', gc, cur, rfl, hb, _⟩
        · simp [Value.ownBlock] at hg
        · have : g' = g := by simpa [Value.ownBlock] using hg
          omega
      have aP : v.ownBlock ≠ some w1.heap.size := fun e => by have := hfar _ e; omega
      have aN : v.ownBlock ≠ some w.heap.size := fun e => by have := hfar _ e; omega
      have ab : v.ownBlock ≠ some b := fun e => by have := hfar _ e; omega
      have HLK := Lib.hid hlk
      have HTT := Lib.hid hT
      have HFAR := Lib.hid hfar
      have HSD := Lib.hid hsd
      clear hc hsd htk hlk hT HST hfar
      have hk0 : (0 : Int) ≤ (k : Int) := by omega
      have hk1 : (k : Int) < (fs.length : Int) := by omega
      have HBA := Lib.hid (((Below.refl wr.heap.size wr).alloc (Nat.le_refl _) (.cells #[.string s] 9)).drew)
      go_wp2_with fail
      go_region_law
        ((refine step_append_lies _ (by rfl) _ _ _ (by rfl) (w1.heap.size + 1) 9 i0 (.string ⟨#[]⟩) 1 16 Tryd.underlying39 hi hz0 hz1 hz2 rfl (by omega) v k ((fs.take k).map Value.string) (by rfl) ((hown.alloc _).drew)
            ⟨wr.heap.size, 0, none⟩ 1 1 [.string s] (by rfl) (by rfl) (World.news_of_block (cs := #[.string s]) (t := 9) (fr := (0, 0)) (bk_new wr _)) (by simp [Value.oneCell'])
            (by omega) (by unfold maxLen; omega) (by omega) (by simp; omega) (wr.heap.size + 1) (by simp) ?_; intro gg gcap w2 hown2 hgrow hat hlt2; have u1 : w2.cell? ⟨w1.heap.size, 2, none⟩ = some v := (hgrow.cell_far (a := ⟨w1.heap.size, 2, none⟩) (by simp; omega) (Ne.symm aP)).trans (cell_of_below HBA.out q1); have u2 : w2.frozen? ⟨w1.heap.size, 2, none⟩ = false := (hgrow.frozen_far (a := ⟨w1.heap.size, 2, none⟩) (by simp; omega) (Ne.symm aP)).trans ((HBA.out.frozen (p := ⟨w1.heap.size, 2, none⟩) y1).trans f1)))
      all_goals
        have hown3 : w2.ownsRow (w1.heap.size + 1) 9 1 (.slice (some ⟨gg, 0, none⟩) (k + 1) gcap) (k + 1) ((fs.take k).map Value.string ++ [.string fs[k]]) := by rw [← HSD.out]; exact hown2
        have HN := Lib.hid (HTT.out.step hlt HBA.out hgrow ⟨gg, gcap, rfl⟩ hown3)
        clear hown2 hown3 hgrow hat hlt2 hown u1 u2 q1 q2 f1 hck aP aN ab
        go_wp2
        go_roundw
        case rel => exact ⟨k + 1, _, by omega, by go_num, HN.out⟩
        case measure => simp [intOf]; omega
    · obtain rfl : k = fs.length := by omega
      have g := hT.blk
      have r0 := bk_cell g 0
      have r1 := bk_cell g 1
      have r2 := bk_cell g 2
      have r3 := bk_cell g 3
      have r4 := bk_cell g 4
      have r5 := bk_cell g 5
      simp only [List.getElem?_toArray, List.getElem?_cons_zero, List.getElem?_cons_succ] at r0 r1 r2 r3 r4 r5
      have HLOW := Lib.hid hT.low
      have v1 : v.oneCell' = true := by
        rcases hT.own.2 with ⟨e, _⟩ | ⟨g2, gc, cur, e, _⟩ <;> rw [e] <;> rfl
      clear g hT HST q1 f1
      go_wp2_with fail
      go_region_held3 (fun W => W.cell? ⟨w1.heap.size, 0, none⟩ = some (.int .i64 sh) ∧ W.cell? ⟨w1.heap.size, 1, none⟩ = some (.int .i64 cl) ∧ W.cell? ⟨w1.heap.size, 2, none⟩ = some v ∧ W.cell? ⟨w1.heap.size, 3, none⟩ = some (.int .i64 ca) ∧ W.cell? ⟨w1.heap.size, 4, none⟩ = some (.int .i64 pk) ∧ W.cell? ⟨w1.heap.size, 5, none⟩ = some (.int .u64 wd))
        (first | exact ⟨cell_of_below hbq r0, cell_of_below hbq r1, cell_of_below hbq r2, cell_of_below hbq r3, cell_of_below hbq r4, cell_of_below hbq r5⟩ | go_keep)
        (first | (go_at_call 34; refine (rcnew_calls _ _).mono ?_; rintro e w' ⟨⟨c, rfl⟩, hbq⟩))
      have hbl : Below w.heap.size w w' := (HLOW.out.drew).trans (hbq.mono (by have := HLOW.out.size; exact this))
      go_wp2
      go_ret
      exact ⟨⟨_, rfl⟩, hbl.alloc hbl.size _⟩

theorem rsnew_calls (node sh cl ca pk wd : Int) (hnode : 0 ≤ node ∧ node < 4294967296) (hwd : 0 ≤ wd ∧ wd < 18446744073709551616) (A : Option Addr) (fs : List ByteArray) (cap : Nat) (hl : fs.length ≤ 9223372036854775807) (w : World) (hs : StrsIn A fs w) (htab : Pow w) :
    Calls Tryd.prog 11 #[.int .u32 node, .agg (confC sh cl (.slice A fs.length cap) ca pk wd)] w fun e w' => RNewRes (newB node sh cl ca pk fs) e ∧ Below w.heap.size w w' := by
  cases hv : validB sh cl ca pk fs with
  | false =>
    refine (rsnew_bad node sh cl ca pk wd A fs cap hl w hs hv).mono ?_
    rintro e w' ⟨rfl, hb⟩
    exact ⟨by simp [RNewRes, newB, hv], hb⟩
  | true =>
    obtain ⟨⟨⟨p1, p2⟩, ⟨p3, p4⟩, ⟨p5, p6⟩, ⟨p7, p8⟩, p9⟩, hsm⟩ := valid_parts hv
    obtain ⟨n, rfl⟩ := Int.eq_ofNat_of_zero_le hnode.1
    obtain ⟨a, rfl⟩ := Int.eq_ofNat_of_zero_le (show 0 ≤ sh by omega)
    obtain ⟨b, rfl⟩ := Int.eq_ofNat_of_zero_le (show 0 ≤ cl by omega)
    obtain ⟨c, rfl⟩ := Int.eq_ofNat_of_zero_le (show 0 ≤ ca by omega)
    obtain ⟨d, rfl⟩ := Int.eq_ofNat_of_zero_le (show 0 ≤ pk by omega)
    obtain ⟨f, rfl⟩ := Int.eq_ofNat_of_zero_le hwd.1
    refine (rsnew_good n a b c d f (by omega) (by omega) A fs cap w hs htab hv).mono ?_
    rintro e w' ⟨h, hb⟩
    refine ⟨?_, hb⟩
    unfold newB
    rw [hv, Bool.true_and]
    exact h
end Go.Proofs.YtconkncoohcdfaaDoor
