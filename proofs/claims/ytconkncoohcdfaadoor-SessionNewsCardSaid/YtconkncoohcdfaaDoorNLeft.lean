/- The law's copy of a configuration, with a mark behind its list; that the mark and the list stand. -/
import Derived.Test.YtconkncoohcdfaaDoorNRNew
import Derived.Deep.OwnRows
namespace Go.Proofs.YtconkncoohcdfaaDoor
open Go.RowKit
set_option linter.unusedSimpArgs false
set_option linter.unusedVariables false
set_option maxRecDepth 100000
attribute [local go_sem ↓] Go.wp_at_zero Go.wp_at_succ

/-- the copy under way: block g has room for all and the mark, its first k are the texts -/
structure FillAt (w0 : World) (N g : Nat) (cf zs : Array Value) (fs : List ByteArray) (k : Nat) (W : World) : Prop where
  arr : ∃ cs : Array Value, W.heap[g]? = some (.cells cs 9 (0, 0)) ∧ cs.size = fs.length + 1 ∧ ∀ (j : Nat) (h : j < fs.length), j < k → cs[j]? = some (.string fs[j])
  cfg : W.heap[N]? = some (.cells cf 41 (0, 0))
  res : W.heap[N + 1]? = some (.cells zs 41 (0, 0))
  low : Below N w0 W
  eq : g = N + 2
theorem FillAt.put {w0 : World} {N g : Nat} {cf zs : Array Value} {fs : List ByteArray} {k : Nat} {W : World} (h : FillAt w0 N g cf zs fs k W) (hk : k < fs.length) : FillAt w0 N g cf zs fs (k + 1) (W.setCell ⟨g, k, none⟩ (.string fs[k])) := by
  obtain ⟨cs, h1, h2, h3⟩ := h.arr
  have he := h.eq
  refine ⟨⟨_, bk_put h1 k (.string fs[k]) rfl, by simpa using h2, fun j hj hjk => ?_⟩, bk_far h.cfg (by simp; omega) _, bk_far h.res (by simp; omega) _, h.low.setCell (by simp; omega) _, he⟩
  rw [Array.getElem?_setIfInBounds]
  by_cases e : k = j
  · subst e
    rw [if_pos rfl, if_pos (by omega)]
  · rw [if_neg e]
    exact h3 j hj (by omega)
theorem FillAt.spot {w0 : World} {N g : Nat} {cf zs : Array Value} {fs : List ByteArray} {k : Nat} {W : World} (h : FillAt w0 N g cf zs fs k W) (j : Nat) (hj : j ≤ fs.length) : ∃ v, W.cell? ⟨g, j, none⟩ = some v ∧ W.frozen? ⟨g, j, none⟩ = false := by
  obtain ⟨cs, h1, h2, h3⟩ := h.arr
  exact ⟨cs[j]'(by omega), by rw [bk_cell h1, Array.getElem?_eq_getElem], bk_frozen h1 j⟩

/-- a block that holds these texts and behind them the mark -/
def MarkedAt (g : Nat) (fs : List ByteArray) (w : World) : Prop := (∀ (j : Nat) (h : j < fs.length), w.cell? ⟨g, j, none⟩ = some (.string fs[j])) ∧ w.cell? ⟨g, fs.length, none⟩ = some (.string ⟨#[115, 112, 97, 114, 101]⟩)
theorem MarkedAt.below {g : Nat} {fs : List ByteArray} {w w' : World} (h : MarkedAt g fs w) (hb : Below w.heap.size w w') : MarkedAt g fs w' := ⟨fun j hj => cell_of_below hb (h.1 j hj), cell_of_below hb h.2⟩
theorem MarkedAt.strs {g : Nat} {fs : List ByteArray} {w : World} (h : MarkedAt g fs w) : StrsIn (some ⟨g, 0, none⟩) fs w := fun _ => ⟨g, 0, rfl, fun j hj => by rw [Nat.zero_add]; exact h.1 j hj⟩

theorem info_conf : (Tryd.prog.info? 41).map (·.size) = some 6 := by kernel_rfl

def ConfRes (sh cl ca pk wd : Int) (fs : List ByteArray) (e : Ending) (w : World) : Prop := ∃ g, e = .returned (.agg (confC sh cl (.slice (some ⟨g, 0, none⟩) fs.length (fs.length + 1)) ca pk wd)) ∧ MarkedAt g fs w

set_option maxHeartbeats 8000000 in
theorem conf_calls (sh cl ca pk wd : Int) (A : Option Addr) (fs : List ByteArray) (cap : Nat) (hn : fs.length * 16 ≤ 140737488351232) (w : World) (hs : StrsIn A fs w) :
    Calls Tryd.prog 9 #[.agg (confC sh cl (.slice A fs.length cap) ca pk wd)] w fun e w' => ConfRes sh cl ca pk wd fs e w' ∧ Below w.heap.size w w' := by
  unfold confC
  have HS := Lib.hid hs
  have hmk := run_make_row' (P := Tryd.prog) 39 9 (.string ⟨#[]⟩) 16 Tryd.underlying39 info_string rfl .i64 .i64 (fs.length + 1) (by omega) (by omega)
  rw [Int.natCast_add, show ((1 : Nat) : Int) = 1 from rfl] at hmk
  clear hs
  go_enter Tryd.func9, Tryd.ntmps9
  go_wp2_with fail
  clear hmk
  obtain ⟨cf, hcf⟩ : ∃ cf : Array Value, cf = #[.int .i64 sh, .int .i64 cl, .slice A fs.length cap, .int .i64 ca, .int .i64 pk, .int .u64 wd] := ⟨_, rfl⟩
  obtain ⟨zs, hzs⟩ : ∃ zs : Array Value, zs = #[.int .i64 0, .int .i64 0, .slice none 0 0, .int .i64 0, .int .i64 0, .int .u64 0] := ⟨_, rfl⟩
  rw [← hcf, ← hzs]
  have hst : FillAt w w.heap.size (w.heap.size + 1 + 1) cf zs fs 0 (((w.alloc (.cells cf 41)).alloc (.cells zs 41)).alloc (.cells (madeCells #[.string ⟨#[]⟩] (fs.length + 1)) 9)) := by
    have h2 := bk_new ((w.alloc (.cells cf 41)).alloc (.cells zs 41)) (.cells (madeCells #[.string ⟨#[]⟩] (fs.length + 1)) 9)
    have h1 := bk_new (w.alloc (.cells cf 41)) (.cells zs 41)
    rw [show ((w.alloc (.cells cf 41)).alloc (.cells zs 41)).heap.size = w.heap.size + 1 + 1 by simp] at h2
    rw [show (w.alloc (.cells cf 41)).heap.size = w.heap.size + 1 by simp] at h1
    exact ⟨⟨_, h2, by simp [madeCells], fun j hj h => absurd h (by omega)⟩, bk_old (bk_low _ _ _) _, bk_old h1 _, (((Below.refl _ _).alloc (Nat.le_refl _) _).alloc (by simp) _).alloc (by simp; omega) _, rfl⟩
  have hcf2 : cf[2]? = some (.slice A fs.length cap) := by rw [hcf]; rfl
  have HCF := Lib.hid hcf
  have HZS := Lib.hid hzs
  have HC2 := Lib.hid hcf2
  have HST := Lib.hid hst
  clear hcf hzs hcf2 hst
  generalize ((w.alloc (.cells cf 41)).alloc (.cells zs 41)).alloc (.cells (madeCells #[.string ⟨#[]⟩] (fs.length + 1)) 9) = W0 at HST ⊢
  go_loopw [4] (fun i W => ∃ k : Nat, k ≤ fs.length ∧ i = .int .i64 k ∧ FillAt w w.heap.size (w.heap.size + 1 + 1) cf zs fs k W) (fun i _ => fs.length - (intOf i).toNat)
  case atStart => exact ⟨0, by omega, rfl, HST.out⟩
  case round =>
    obtain ⟨k, hk, rfl, hT⟩ := hrel
    have q2 : wr.cell? ⟨w.heap.size, 2, none⟩ = some (.slice A fs.length cap) := (bk_cell hT.cfg 2).trans HC2.out
    obtain ⟨v, qv, fv⟩ := hT.spot k hk
    by_cases hlt : k < fs.length
    · obtain ⟨b, off, rfl, hc⟩ := HS.out (by omega)
      have hck := cell_of_below hT.low (hc k hlt)
      obtain ⟨s, hsd⟩ : ∃ s, s = fs[k] := ⟨_, rfl⟩
      have hnx := hT.put hlt
      rw [← hsd] at hck hnx
      have HN := Lib.hid hnx
      clear hc hsd hT HST hnx
      go_wp2
      go_roundw
      case rel => exact ⟨k + 1, by omega, by go_num, HN.out⟩
      case measure => simp [intOf]; omega
    · obtain rfl : k = fs.length := by omega
      have hO1 : Only (fun i => i = w.heap.size + 1 + 1) wr (wr.setCell ⟨w.heap.size + 1 + 1, fs.length, none⟩ (.string ⟨#[115, 112, 97, 114, 101]⟩)) := Only.setCell (F := fun i => i = w.heap.size + 1 + 1) (Only.refl _ _) (p := ⟨w.heap.size + 1 + 1, fs.length, none⟩) (.inl rfl) _
      obtain ⟨w4, h4⟩ : ∃ w4, wr.setCell ⟨w.heap.size + 1 + 1, fs.length, none⟩ (.string ⟨#[115, 112, 97, 114, 101]⟩) = w4 := ⟨_, rfl⟩
      obtain ⟨cs, a1, a2, a3⟩ := hT.arr
      have g4 := bk_put a1 fs.length (.string ⟨#[115, 112, 97, 114, 101]⟩) rfl
      have k4 := bk_far (p := ⟨w.heap.size + 1 + 1, fs.length, none⟩) hT.cfg (by simp; omega) (.string ⟨#[115, 112, 97, 114, 101]⟩)
      have z4 := bk_far (p := ⟨w.heap.size + 1 + 1, fs.length, none⟩) hT.res (by simp) (.string ⟨#[115, 112, 97, 114, 101]⟩)
      have l4 : Below w.heap.size w (wr.setCell ⟨w.heap.size + 1 + 1, fs.length, none⟩ (.string ⟨#[115, 112, 97, 114, 101]⟩)) := hT.low.setCell (by simp; omega) _
      have q2' : w4.cell? ⟨w.heap.size, 2, none⟩ = some (.slice A fs.length cap) := by rw [← h4]; exact (bk_cell k4 2).trans HC2.out
      have f2' : w4.frozen? ⟨w.heap.size, 2, none⟩ = false := by rw [← h4]; exact bk_frozen k4 2
      rw [h4] at g4 k4 z4 l4
      rw [HCF.out] at k4
      have k5 := bk_put k4 2 (.slice (some ⟨w.heap.size + 1 + 1, 0, none⟩) fs.length (fs.length + 1)) (show (#[.int .i64 sh, .int .i64 cl, .slice A fs.length cap, .int .i64 ca, .int .i64 pk, .int .u64 wd] : Array Value).setIfInBounds 2 (.slice (some ⟨w.heap.size + 1 + 1, 0, none⟩) fs.length (fs.length + 1)) = (#[.int .i64 sh, .int .i64 cl, .slice (some ⟨w.heap.size + 1 + 1, 0, none⟩) fs.length (fs.length + 1), .int .i64 ca, .int .i64 pk, .int .u64 wd] : Array Value) from rfl)
      have z5 := bk_far (p := ⟨w.heap.size, 2, none⟩) z4 (by simp) (.slice (some ⟨w.heap.size + 1 + 1, 0, none⟩) fs.length (fs.length + 1))
      have g5 := bk_far (p := ⟨w.heap.size, 2, none⟩) g4 (by simp; omega) (.slice (some ⟨w.heap.size + 1 + 1, 0, none⟩) fs.length (fs.length + 1))
      have l5 := l4.setCell (p := ⟨w.heap.size, 2, none⟩) (by simp) (.slice (some ⟨w.heap.size + 1 + 1, 0, none⟩) fs.length (fs.length + 1))
      obtain ⟨w5, h5⟩ : ∃ w5, w4.setCell ⟨w.heap.size, 2, none⟩ (.slice (some ⟨w.heap.size + 1 + 1, 0, none⟩) fs.length (fs.length + 1)) = w5 := ⟨_, rfl⟩
      rw [h5] at k5 z5 g5 l5
      rw [HZS.out] at z5
      obtain ⟨cn, hcn⟩ : ∃ cn : Array Value, cn = #[.int .i64 sh, .int .i64 cl, .slice (some ⟨w.heap.size + 1 + 1, 0, none⟩) fs.length (fs.length + 1), .int .i64 ca, .int .i64 pk, .int .u64 wd] := ⟨_, rfl⟩
      have hst5 := bk_store (P := Tryd.prog) w5 (w.heap.size + 1) 41 _ cn z5 (by rw [hcn]; rfl) (by rw [hcn]; simp [Value.oneCell'])
      have hi5 : (Tryd.prog.info? 41).map (·.size) = some cn.size := by rw [hcn]; exact info_conf
      have hsz5 : cn.size = 6 := by rw [hcn]; rfl
      rw [← hcn] at k5
      have HCN := Lib.hid hcn
      clear hcn
      have hn1 : (0 : Int) ≤ (fs.length : Int) := by omega
      have K5 := Lib.hid k5
      have Z5 := Lib.hid z5
      have G5 := Lib.hid g5
      have L5 := Lib.hid l5
      have HA3 := Lib.hid a3
      clear k5 z5 g5 l5 g4 k4 z4 l4 a1 a3 hT HST hO1
      go_wp2_with (refine wpList_load_row rfl _ _ rfl w.heap.size rfl 41 _ (0, 0) _ K5.out Tryd.underlying41 rfl hi5 ?_)
      (try simp only [Exit.inBlock, Exit.then])
      refine bodyPost_ret (bk_res rfl _ _ (w.heap.size + 1) 41 cn (0, 0) _ rfl (bk_row Z5.out) Tryd.underlying41 rfl hi5) rfl ?_
      have hO6 : Only (fun i => i = w.heap.size + 1) w5 (w5.setRow (w.heap.size + 1) cn) := only_row (F := fun i => i = w.heap.size + 1) (Only.refl _ _) (.inl rfl) cn
      have g6 := bk_only G5.out hO6 (by omega)
      refine ⟨⟨w.heap.size + 1 + 1, by rw [HCN.out]; rfl, fun j hj => ?_, ?_⟩, L5.out.trans (hO6.below (fun i hi => by omega) L5.out.size)⟩
      · rw [bk_cell g6, Array.getElem?_setIfInBounds, if_neg (by omega)]
        exact HA3.out j hj hj
      · rw [bk_cell g6, Array.getElem?_setIfInBounds, if_pos rfl, if_pos (by omega)]
end Go.Proofs.YtconkncoohcdfaaDoor
