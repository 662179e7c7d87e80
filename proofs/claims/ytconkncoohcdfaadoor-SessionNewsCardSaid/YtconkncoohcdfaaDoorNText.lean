/- route.Text of a configuration: what it refuses, and that it writes what it doesn't refuse. Where the package's names lie as the text lays them. -/
import Derived.Test.YtconkncoohcdfaaDoorNRef
import Derived.Test.YtconkncoohcdfaaDoorWStr
import Derived.Outline
namespace Go.Proofs.YtconkncoohcdfaaDoor
open Go.RowKit
set_option linter.unusedSimpArgs false
set_option linter.unusedVariables false
set_option maxRecDepth 100000
attribute [local go_sem ↓] Go.wp_at_zero Go.wp_at_succ

theorem chk_small : ∀ {L : ByteArray} {fs : List ByteArray}, chkS L fs = true → ∀ (j : Nat) (h : j < fs.length), fs[j].size ≤ 32
  | _, [], _, j, h => by simp at h
  | L, k :: r, hc, j, h => by
    simp only [chkS, Bool.and_eq_true, Bool.not_eq_true', Bool.or_eq_false_iff, decide_eq_false_iff_not] at hc
    cases j with
    | zero => have := hc.1.2; simp only [List.getElem_cons_zero]; omega
    | succ j => exact chk_small hc.2 j (by simpa using h)
/-- what holds of a configuration that is valid -/
theorem valid_parts {sh cl ca pk : Int} {fs : List ByteArray} (h : validB sh cl ca pk fs = true) :
    ((1 ≤ sh ∧ sh ≤ 6) ∧ (1 ≤ cl ∧ cl ≤ 6) ∧ (256 ≤ ca ∧ ca ≤ 1048576) ∧ (0 ≤ pk ∧ pk ≤ 16) ∧ (fs.length : Int) = sh - 1) ∧ ∀ (j : Nat) (h : j < fs.length), fs[j].size ≤ 32 := by
  simp only [validB, numsB, Bool.and_eq_true, decide_eq_true_eq] at h
  exact ⟨⟨btw_of h.1.1, btw_of h.1.2.1, btw_of h.1.2.2.1, btw_of h.1.2.2.2.1, h.1.2.2.2.2⟩, chk_small h.2⟩

def rnameAt (k : Nat) : List UInt8 := [[115, 104, 97, 114, 100, 115], [99, 108, 105, 101, 110, 116, 115], [99, 97, 112, 97, 99, 105, 116, 121], [112, 97, 114, 107], [119, 105, 110, 100, 111, 119]].getD k []
def rnameCells : Array Value := #[.string ⟨#[115, 104, 97, 114, 100, 115]⟩, .string ⟨#[99, 108, 105, 101, 110, 116, 115]⟩, .string ⟨#[99, 97, 112, 97, 99, 105, 116, 121]⟩, .string ⟨#[112, 97, 114, 107]⟩, .string ⟨#[119, 105, 110, 100, 111, 119]⟩]
def rnamesV : Value := .agg rnameCells
theorem index_rname0 (W : World) : (Instr.index 131 rnamesV (.int .i64 ((0 : Nat) : Int))).run Tryd.prog W = .ok (.string ⟨(rnameAt 0).toArray⟩) W := by kernel_rfl
theorem index_rname1 (W : World) : (Instr.index 131 rnamesV (.int .i64 ((1 : Nat) : Int))).run Tryd.prog W = .ok (.string ⟨(rnameAt 1).toArray⟩) W := by kernel_rfl
theorem index_rname2 (W : World) : (Instr.index 131 rnamesV (.int .i64 ((2 : Nat) : Int))).run Tryd.prog W = .ok (.string ⟨(rnameAt 2).toArray⟩) W := by kernel_rfl
theorem index_rname3 (W : World) : (Instr.index 131 rnamesV (.int .i64 ((3 : Nat) : Int))).run Tryd.prog W = .ok (.string ⟨(rnameAt 3).toArray⟩) W := by kernel_rfl
theorem index_rname4 (W : World) : (Instr.index 131 rnamesV (.int .i64 ((4 : Nat) : Int))).run Tryd.prog W = .ok (.string ⟨(rnameAt 4).toArray⟩) W := by kernel_rfl
theorem index_rname (k : Nat) (hk : k < 5) (W : World) : (Instr.index 131 rnamesV (.int .i64 (k : Int))).run Tryd.prog W = .ok (.string ⟨(rnameAt k).toArray⟩) W := by
  match k, hk with
  | 0, _ => exact index_rname0 W
  | 1, _ => exact index_rname1 W
  | 2, _ => exact index_rname2 W
  | 3, _ => exact index_rname3 W
  | 4, _ => exact index_rname4 W
  | m + 5, h' => exact absurd h' (by omega)
theorem rname_small : ∀ (n : Nat) (h : n < 5), (⟨(rnameAt n).toArray⟩ : ByteArray).size ≤ 8 := by decide

/-- the five names lie in the world -/
def RNamesIn (w : World) : Prop := ∃ t fr, w.heap[1]? = some (.cells rnameCells t fr)
theorem RNamesIn.below {w w' : World} (h : RNamesIn w) (hb : Below w.heap.size w w') : RNamesIn w' := by
  obtain ⟨t, fr, h⟩ := h
  exact ⟨t, fr, by rw [hb.block _ (Array.getElem?_eq_some_iff.1 h).1]; exact h⟩

/-- it answers some text, and OK -/
def SomeText (e : Ending) : Prop := ∃ T, e = .returned (.tuple #[.string T, .int .i64 0])

set_option maxHeartbeats 2000000 in
theorem text_bad (sh cl ca pk wd : Int) (A : Option Addr) (fs : List ByteArray) (cap : Nat) (hl : fs.length ≤ 9223372036854775807) (w : World) (hs : StrsIn A fs w) (hv : validB sh cl ca pk fs = false) :
    Calls Tryd.prog 30 #[.agg (confC sh cl (.slice A fs.length cap) ca pk wd)] w fun e w' => e = .returned (.tuple #[.string ⟨#[]⟩, .int .i64 1]) ∧ Below w.heap.size w w' := by
  have hb0 : Below w.heap.size w (w.alloc (.cells (confC sh cl (.slice A fs.length cap) ca pk wd) 41)) := (Below.refl _ _).alloc (Nat.le_refl _) _
  have hc := rvalid_calls sh cl ca pk wd A fs cap hl _ (hs.below hb0)
  rw [hv] at hc
  have HC := Lib.hid hc
  unfold confC at HC hb0 ⊢
  clear hc hs hv
  go_enter Tryd.func30, Tryd.ntmps30
  go_wp2_with fail
  refine HC.out.mono ?_
  rintro e w1 ⟨rfl, hb1⟩
  go_wp2
  go_ret2
  exact ⟨rfl, hb0.trans (hb1.mono hb0.size)⟩

/-- the five numbers that are written -/
def valsAt (sh cl ca pk wd : Nat) (k : Nat) : Nat := [sh, cl, ca, pk, wd].getD k 0
/-- where the first loop stands: the builder, the numbers, the configuration -/
structure TextAt (w0 : World) (N b Bs : Nat) (cs vs : Array Value) (n : Nat) (W : World) : Prop where
  bld : ∃ v l, BldAt W Bs b v l ∧ l.length ≤ n
  cfg : W.heap[N]? = some (.cells cs 41 (0, 0))
  num : W.heap[b + 1]? = some (.cells vs 130 (0, 0))
  low : Below N w0 W
  lt : N < b
  eq : b + 2 = Bs
theorem TextAt.grow {w0 : World} {N b Bs : Nat} {cs vs : Array Value} {n : Nat} {W W' : World} (h : TextAt w0 N b Bs cs vs n W) (hb : Below W.heap.size W W') : TextAt w0 N b Bs cs vs n W' := by
  obtain ⟨v, l, hB, hl⟩ := h.bld
  exact ⟨⟨v, l, hB.kept hb, hl⟩, by rw [hb.block N (Array.getElem?_eq_some_iff.1 h.cfg).1]; exact h.cfg, by rw [hb.block _ (Array.getElem?_eq_some_iff.1 h.num).1]; exact h.num,
    h.low.trans (hb.mono (by have := (Array.getElem?_eq_some_iff.1 h.cfg).1; omega)), h.lt, h.eq⟩
theorem TextAt.wrote {w0 : World} {N b Bs : Nat} {cs vs : Array Value} {n m : Nat} {W W' : World} {v : Value} {l : List UInt8} (h : TextAt w0 N b Bs cs vs n W) (hB : BldAt W' Bs b v l) (hl : l.length ≤ m) (ho : Only (fun k => k = b ∨ Bs ≤ k) W W') : TextAt w0 N b Bs cs vs m W' := by
  have h1 := h.lt
  have h2 := h.eq
  have h3 := (Array.getElem?_eq_some_iff.1 h.cfg).1
  exact ⟨⟨v, l, hB, hl⟩, by rw [ho.block N h3 (by omega)]; exact h.cfg, by rw [ho.block _ (Array.getElem?_eq_some_iff.1 h.num).1 (by omega)]; exact h.num,
    h.low.trans (ho.below (fun k hk => by omega) (by omega)), h1, h2⟩
/-- one line more -/
theorem TextAt.line {w0 : World} {N b Bs : Nat} {cs vs : Array Value} {n m : Nat} {W : World} (h : TextAt w0 N b Bs cs vs n W) (s : ByteArray) (hs : n + s.size ≤ m) (hm : m ≤ 1000000) :
    Calls Tryd.prog 51 #[.pointer (some ⟨b, 0, none⟩), .string s] W fun e w' => e = .returned (.tuple #[.int .i64 s.size, .nilIface]) ∧ TextAt w0 N b Bs cs vs m w' := by
  obtain ⟨v, l, hB, hl⟩ := h.bld
  refine (writeString_at Bs b v l s W hB (by omega)).mono ?_
  rintro e w' ⟨rfl, v', hB', ho⟩
  exact ⟨rfl, h.wrote hB' (by have : s.data.toList.length = s.size := by simp
                              rw [List.length_append]; omega) ho⟩

set_option maxHeartbeats 8000000 in
theorem text_good (sh cl ca pk wd : Nat) (hwd : wd < 18446744073709551616) (A : Option Addr) (fs : List ByteArray) (cap : Nat) (w : World) (hs : StrsIn A fs w) (hnm : RNamesIn w) (htab : Pow w) (hv : validB sh cl ca pk fs = true) :
    Calls Tryd.prog 30 #[.agg (confC sh cl (.slice A fs.length cap) ca pk wd)] w fun e w' => SomeText e ∧ Below w.heap.size w w' := by
  obtain ⟨⟨⟨p1, p2⟩, ⟨p3, p4⟩, ⟨p5, p6⟩, ⟨p7, p8⟩, p9⟩, hsm⟩ := valid_parts hv
  have hfl : fs.length ≤ 5 := by omega
  have hb0 : Below w.heap.size w (w.alloc (.cells (confC sh cl (.slice A fs.length cap) ca pk wd) 41)) := (Below.refl _ _).alloc (Nat.le_refl _) _
  have hc := rvalid_calls sh cl ca pk wd A fs cap (by omega) _ (hs.below hb0)
  rw [hv] at hc
  have HC := Lib.hid hc
  have HS := Lib.hid hs
  have HSM := Lib.hid hsm
  have HT := Lib.hid htab
  obtain ⟨tn, fr, hn⟩ := hnm
  have hlt0 : 1 < w.heap.size := (Array.getElem?_eq_some_iff.1 hn).1
  have HN := Lib.hid hn
  have HB0 := Lib.hid hb0
  unfold confC at HC HB0 ⊢
  have iwd : (wd : Int) < 18446744073709551616 := by omega
  clear hc hs hv hsm hn hb0 p9 htab
  go_enter Tryd.func30, Tryd.ntmps30
  go_wp2_with fail
  refine HC.out.mono ?_
  rintro e w1 ⟨rfl, hb1⟩
  clear HC
  have g1 := (hb1.block w.heap.size (by simp)).trans (heap_alloc_new w _)
  have c0 := bk_cell g1 0
  have c1 := bk_cell g1 1
  have c2 := bk_cell g1 2
  have c3 := bk_cell g1 3
  have c4 := bk_cell g1 4
  have c5 := bk_cell g1 5
  simp only [List.getElem?_toArray, List.getElem?_cons_zero, List.getElem?_cons_succ] at c0 c1 c2 c3 c4 c5
  have z1 : w.heap.size < w1.heap.size := (Array.getElem?_eq_some_iff.1 g1).1
  have HBW := Lib.hid (HB0.out.trans (hb1.mono HB0.out.size))
  have G1 := Lib.hid g1
  clear hb1 g1 HB0
  go_wp2_with (refine wpList_load_row rfl _ _ rfl 1 rfl tn rnameCells fr _ ?nn Tryd.underlying131 rfl (by kernel_rfl) ?_)
  case nn => exact bk_old (bk_old (bk_grown HN.out HBW.out) _) _
  rw [show Value.agg rnameCells = rnamesV from rfl]
  go_wp2_with fail
  obtain ⟨cs, hcs⟩ : ∃ cs : Array Value, cs = #[.int .i64 sh, .int .i64 cl, .slice A fs.length cap, .int .i64 ca, .int .i64 pk, .int .u64 wd] := ⟨_, rfl⟩
  obtain ⟨vs, hvs⟩ : ∃ vs : Array Value, vs = #[.int .u64 sh, .int .u64 cl, .int .u64 ca, .int .u64 pk, .int .u64 wd] := ⟨_, rfl⟩
  have hst : TextAt w w.heap.size w1.heap.size (w1.heap.size + 2) cs vs 0 ((w1.alloc (.cells #[.pointer none, .slice none 0 0] 118)).alloc (.cells vs 130)) := by
    refine ⟨⟨.slice none 0 0, [], ⟨.inl (bk_low w1 _ _), World.ownsRow_nil _ _ _ _, by omega, by simp⟩, by simp⟩, bk_old (bk_old (by rw [hcs]; exact G1.out) _) _, ?_, (HBW.out.alloc (by omega) _).alloc (by simp; omega) _, z1, rfl⟩
    have h := bk_new (w1.alloc (.cells #[.pointer none, .slice none 0 0] 118)) (.cells vs 130)
    rwa [show (w1.alloc (.cells #[.pointer none, .slice none 0 0] 118)).heap.size = w1.heap.size + 1 by simp] at h
  have hvk : ∀ k, k < 5 → vs[k]? = some (.int .u64 ((valsAt sh cl ca pk wd k : Nat) : Int)) := by
    intro k hk
    rw [hvs]
    match k, hk with
    | 0, _ => rfl
    | 1, _ => rfl
    | 2, _ => rfl
    | 3, _ => rfl
    | 4, _ => rfl
    | m + 5, h' => exact absurd h' (by omega)
  have hvb : ∀ k, k < 5 → valsAt sh cl ca pk wd k < 18446744073709551616 := by
    intro k hk
    match k, hk with
    | 0, _ => show sh < _; omega
    | 1, _ => show cl < _; omega
    | 2, _ => show ca < _; omega
    | 3, _ => show pk < _; omega
    | 4, _ => exact hwd
    | m + 5, h' => exact absurd h' (by omega)
  have hcs2 : cs[2]? = some (.slice A fs.length cap) := by rw [hcs]; rfl
  rw [← hvs]
  have HVK := Lib.hid hvk
  have HVB := Lib.hid hvb
  have HC2 := Lib.hid hcs2
  clear hvk hvb hcs2 hcs hvs c0 c1 c2 c3 c4 c5 G1 HBW p1 p2 p3 p4 p5 p6 p7 p8 hwd iwd HN
  generalize (w1.alloc (.cells #[.pointer none, .slice none 0 0] 118)).alloc (.cells vs 130) = W0 at hst ⊢
  go_loopw [29] (fun i W => ∃ k : Nat, k ≤ 5 ∧ i = .int .i64 k ∧ TextAt w w.heap.size w1.heap.size (w1.heap.size + 2) cs vs (64 * k) W) (fun i _ => 5 - (intOf i).toNat)
  case atStart => exact ⟨0, by omega, rfl, hst⟩
  case round =>
    obtain ⟨k, hk, rfl, hT⟩ := hrel
    by_cases hlt : k < 5
    · have hix := index_rname k hlt
      have hss := rname_small k hlt
      obtain ⟨s, hsd⟩ : ∃ s : ByteArray, s = ⟨(rnameAt k).toArray⟩ := ⟨_, rfl⟩
      rw [← hsd] at hix hss
      have hcell : wr.cell? ⟨w1.heap.size + 1, k, none⟩ = some (.int .u64 ((valsAt sh cl ca pk wd k : Nat) : Int)) := (bk_cell hT.num k).trans (HVK.out k hlt)
      have hub := HVB.out k hlt
      obtain ⟨u, hud⟩ : ∃ u, u = valsAt sh cl ca pk wd k := ⟨_, rfl⟩
      rw [← hud] at hcell hub
      clear hsd hud hst
      have hdl := dec_len u hub
      have hfu := formatUint_calls u hub wr (HT.out.below hT.low)
      obtain ⟨D, hD⟩ : ∃ D : ByteArray, D = ⟨(Lib.decDigits u).toArray⟩ := ⟨_, rfl⟩
      rw [← hD] at hfu
      have hds : D.size ≤ 20 := by rw [hD]; simpa [ByteArray.size] using hdl
      have HF := Lib.hid hfu
      have HTT := Lib.hid hT
      clear hfu hD hdl hT
      go_wp2_with fail
      refine HF.out.mono ?_
      rintro e w2 ⟨rfl, hb2⟩
      clear HF
      go_wp2_with fail
      refine ((HTT.out.grow hb2).line (m := 64 * (k + 1)) _ ?sz (by omega)).mono ?_
      case sz => simp only [ByteArray.size_append, show (⟨#[32]⟩ : ByteArray).size = 1 from rfl, show (⟨#[10]⟩ : ByteArray).size = 1 from rfl]; omega
      rintro e w3 ⟨rfl, hT3⟩
      have HT3 := Lib.hid hT3
      clear hT3 hb2 HTT hcell hix
      go_wp2
      go_roundw
      case rel => exact ⟨k + 1, by omega, by go_num, HT3.out⟩
      case measure => simp [intOf]; omega
    · obtain rfl : k = 5 := by omega
      have d2 : wr.cell? ⟨w.heap.size, 2, none⟩ = some (.slice A fs.length cap) := (bk_cell hT.cfg 2).trans HC2.out
      have HTT := Lib.hid hT
      clear hT hst
      rw [show ((5 : Nat) : Int) = (5 : Int) from rfl]
      go_wp2_with fail
      obtain ⟨wo, rfl⟩ : ∃ wo : World, wo = wr := ⟨_, rfl⟩
      go_loopw [46] (fun i W => ∃ j : Nat, j ≤ fs.length ∧ i = .int .i64 j ∧ TextAt w w.heap.size w1.heap.size (w1.heap.size + 2) cs vs (320 + 128 * j) W) (fun i _ => fs.length - (intOf i).toNat)
      case atStart => exact ⟨0, by omega, rfl, HTT.out⟩
      case round =>
        obtain ⟨j, hj, rfl, hT⟩ := hrel
        by_cases hlt2 : j < fs.length
        · obtain ⟨b, off, rfl, hc⟩ := HS.out (by omega)
          have hck := cell_of_below hT.low (hc j hlt2)
          have hsm := HSM.out j hlt2
          obtain ⟨s, hsd⟩ : ∃ s, s = fs[j] := ⟨_, rfl⟩
          rw [← hsd] at hck hsm
          clear hc hsd d2
          have hwl := wordB_len s.data.toList
          have hwc := word_calls s wr (by omega)
          have hsl : s.data.toList.length = s.size := by simp
          rw [hsl] at hwl
          obtain ⟨D, hD⟩ : ∃ D : ByteArray, D = ⟨(wordB s.data.toList).toArray⟩ := ⟨_, rfl⟩
          rw [← hD] at hwc
          have hds : D.size ≤ 100 := by rw [hD]; simp [ByteArray.size]; omega
          have HF := Lib.hid hwc
          have HTT2 := Lib.hid hT
          clear hwc hD hwl hT hsl
          go_wp2_with fail
          refine HF.out.mono ?_
          rintro e w2 ⟨rfl, hb2⟩
          clear HF
          go_wp2_with fail
          refine ((HTT2.out.grow hb2).line (m := 320 + 128 * (j + 1)) _ ?sz (by omega)).mono ?_
          case sz => simp only [ByteArray.size_append, show (⟨#[115, 112, 108, 105, 116, 32]⟩ : ByteArray).size = 6 from rfl, show (⟨#[10]⟩ : ByteArray).size = 1 from rfl]; omega
          rintro e w3 ⟨rfl, hT3⟩
          have HT3 := Lib.hid hT3
          clear hT3 hb2 HTT2 hck
          go_wp2
          go_roundw
          case rel => exact ⟨j + 1, by omega, by go_num, HT3.out⟩
          case measure => simp [intOf]; omega
        · obtain rfl : j = fs.length := by omega
          obtain ⟨v, l, hB, _⟩ := hT.bld
          have hbs := builderString w1.heap.size w1.heap.size l wr (hB.bld.isAt _ (Nat.le_refl _) (fun g hg => by have := hB.far hg; omega)) (by have := hB.le; omega)
          have HBS := Lib.hid hbs
          have HTT2 := Lib.hid hT
          clear hbs hB hT d2
          go_wp2_with fail
          refine HBS.out.mono ?_
          rintro e w2 ⟨rfl, hb2⟩
          have hbl := HTT2.out.low.trans (hb2.mono (Nat.le_of_lt z1))
          clear hb2 HBS
          go_wp2
          go_ret2
          exact ⟨⟨_, rfl⟩, hbl⟩
end Go.Proofs.YtconkncoohcdfaaDoor
