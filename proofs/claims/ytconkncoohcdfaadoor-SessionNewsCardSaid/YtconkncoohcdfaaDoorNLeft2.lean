/- That the marked copy of a configuration's list stands as it was made; the questions that a session that has done nothing answers. -/
import Derived.Test.YtconkncoohcdfaaDoorNLeft
namespace Go.Proofs.YtconkncoohcdfaaDoor
open Go.RowKit
set_option linter.unusedSimpArgs false
set_option linter.unusedVariables false
set_option maxRecDepth 100000
attribute [local go_sem ↓] Go.wp_at_zero Go.wp_at_succ

set_option maxHeartbeats 8000000 in
theorem left_calls (sh cl ca pk wd : Int) (A : Option Addr) (fs : List ByteArray) (cap g : Nat) (hn : fs.length * 16 ≤ 140737488351232) (w : World) (hs : StrsIn A fs w) (hm : MarkedAt g fs w) :
    Calls Tryd.prog 12 #[.agg (confC sh cl (.slice (some ⟨g, 0, none⟩) fs.length (fs.length + 1)) ca pk wd), .agg (confC sh cl (.slice A fs.length cap) ca pk wd)] w fun e w' => e = .returned (.bool true) ∧ Below w.heap.size w w' := by
  unfold confC
  have HS := Lib.hid hs
  have HM := Lib.hid hm
  have hn1 : (0 : Int) ≤ (fs.length : Int) + 1 := by omega
  clear hs hm
  go_enter Tryd.func12, Tryd.ntmps12
  go_wp2_with fail
  obtain ⟨cf, hcf⟩ : ∃ cf : Array Value, cf = #[.int .i64 sh, .int .i64 cl, .slice A fs.length cap, .int .i64 ca, .int .i64 pk, .int .u64 wd] := ⟨_, rfl⟩
  rw [← hcf]
  have hcf2 : cf[2]? = some (.slice A fs.length cap) := by rw [hcf]; rfl
  have HC2 := Lib.hid hcf2
  clear hcf hcf2
  have hst : ((w.alloc (.cells #[.int .i64 sh, .int .i64 cl, .slice (some ⟨g, 0, none⟩) fs.length (fs.length + 1), .int .i64 ca, .int .i64 pk, .int .u64 wd] 41)).alloc (.cells cf 41)).heap[w.heap.size + 1]? = some (.cells cf 41 (0, 0)) ∧
      Below w.heap.size w ((w.alloc (.cells #[.int .i64 sh, .int .i64 cl, .slice (some ⟨g, 0, none⟩) fs.length (fs.length + 1), .int .i64 ca, .int .i64 pk, .int .u64 wd] 41)).alloc (.cells cf 41)) := by
    have h1 := bk_new (w.alloc (.cells #[.int .i64 sh, .int .i64 cl, .slice (some ⟨g, 0, none⟩) fs.length (fs.length + 1), .int .i64 ca, .int .i64 pk, .int .u64 wd] 41)) (.cells cf 41)
    rw [show (w.alloc (.cells #[.int .i64 sh, .int .i64 cl, .slice (some ⟨g, 0, none⟩) fs.length (fs.length + 1), .int .i64 ca, .int .i64 pk, .int .u64 wd] 41)).heap.size = w.heap.size + 1 by simp] at h1
    exact ⟨h1, ((Below.refl _ _).alloc (Nat.le_refl _) _).alloc (by simp) _⟩
  have HST := Lib.hid hst
  clear hst
  generalize (w.alloc (.cells #[.int .i64 sh, .int .i64 cl, .slice (some ⟨g, 0, none⟩) fs.length (fs.length + 1), .int .i64 ca, .int .i64 pk, .int .u64 wd] 41)).alloc (.cells cf 41) = W0 at HST ⊢
  go_loopw [6] (fun i W => ∃ k : Nat, k ≤ fs.length ∧ i = .int .i64 k ∧ W.heap[w.heap.size + 1]? = some (.cells cf 41 (0, 0)) ∧ Below w.heap.size w W) (fun i _ => fs.length - (intOf i).toNat)
  case atStart => exact ⟨0, by omega, rfl, HST.out.1, HST.out.2⟩
  case round =>
    obtain ⟨k, hk, rfl, hg, hbl⟩ := hrel
    have q2 : wr.cell? ⟨w.heap.size + 1, 2, none⟩ = some (.slice A fs.length cap) := (bk_cell hg 2).trans HC2.out
    have HG := Lib.hid hg
    have HBL := Lib.hid hbl
    clear hg hbl
    by_cases hlt : k < fs.length
    · obtain ⟨b, off, rfl, hc⟩ := HS.out (by omega)
      have hck := cell_of_below HBL.out (hc k hlt)
      have hmk := cell_of_below HBL.out (HM.out.1 k hlt)
      obtain ⟨s, hsd⟩ : ∃ s, s = fs[k] := ⟨_, rfl⟩
      rw [← hsd] at hck hmk
      clear hc hsd
      have k0 : (0 : Int) ≤ (k : Int) := by omega
      have k1 : (k : Int) < (fs.length : Int) := by omega
      have k2 : (k : Int) < (fs.length : Int) + 1 := by omega
      go_wp2_with fail
      go_quiet (fail)
      go_wp2
      go_roundw
      case rel => exact ⟨k + 1, by omega, by go_num, HG.out, ⟨HBL.out.os, HBL.out.tape, HBL.out.output, HBL.out.size, HBL.out.block⟩⟩
      case measure => simp [intOf]; omega
    · obtain rfl : k = fs.length := by omega
      have hmk := cell_of_below HBL.out HM.out.2
      go_wp2
      go_ret
      exact ⟨by simp, HBL.out⟩

/-- three results: two in cells, one in a slot -/
theorem bk_res_two_tmp {P : Program} {fn : Func} {p q u : Tmp} {ty tz : TypeId} (h : fn.results = #[.cell p ty, .cell q tz, .tmp u]) (tmps : Array Value) (w : World) (g g' : Nat) (t t' : TypeId) (cs cs' : Array Value) (fr fr' : Nat × Nat) (d d' : TypeDesc)
    (hp : tmps.getD p undef = .pointer (some ⟨g, 0, none⟩)) (hg : w.heap[g]? = some (.cells cs t fr)) (hq : tmps.getD q undef = .pointer (some ⟨g', 0, none⟩)) (hg' : w.heap[g']? = some (.cells cs' t' fr'))
    (hu : P.underlying ty = some d) (hd : (match d with | .struct _ | .array _ _ => true | _ => false) = true) (hi : (P.info? ty).map (·.size) = some cs.size)
    (hu' : P.underlying tz = some d') (hd' : (match d' with | .struct _ | .array _ _ => true | _ => false) = true) (hi' : (P.info? tz).map (·.size) = some cs'.size) :
    (results fn tmps).run P w = .ok (.tuple #[.agg cs, .agg cs', tmps.getD u undef]) w := by
  have hp' : tmps[p]?.getD undef = .pointer (some ⟨g, 0, none⟩) := by simpa using hp
  have hq' : tmps[q]?.getD undef = .pointer (some ⟨g', 0, none⟩) := by simpa using hq
  simp [results, h, hp', hq', asAddr, run_loadVar_row w g t ty cs fr d hg hu hd hi, run_loadVar_row w g' t' tz cs' fr' d' hg' hu' hd' hi']

def zOp : Array Value := #[.int .i64 0, .bool false, .bool false, .bool false, .string ⟨#[]⟩, .string ⟨#[]⟩, .string ⟨#[]⟩, .string ⟨#[]⟩, .int .i64 0]
def zTxn : Array Value := #[.int .u32 0, .int .u32 0]
def zStamp : Array Value := #[.int .u64 0, .int .u32 0, .int .u32 0]
theorem info_zOp : (Tryd.prog.info? 27).map (·.size) = some 9 := by kernel_rfl
theorem info_zTxn : (Tryd.prog.info? 24).map (·.size) = some 2 := by kernel_rfl
theorem info_zStamp : (Tryd.prog.info? 31).map (·.size) = some 3 := by kernel_rfl

/-- a session that neither waits nor is open, with that last token -/
structure IdleAt (b : Nat) (w : World) : Prop where
  txn : w.cell? ⟨b, 10, none⟩ = some (.pointer none)
  wait : w.cell? ⟨b, 11, none⟩ = some (.pointer none)
  last : w.cell? ⟨b, 12, none⟩ = some (.string ⟨#[]⟩)
theorem IdleAt.below {b : Nat} {w w' : World} (h : IdleAt b w) (hb : Below w.heap.size w w') : IdleAt b w' := ⟨cell_of_below hb h.txn, cell_of_below hb h.wait, cell_of_below hb h.last⟩
theorem FreshAt.idle {node sh cl ca pk wd : Int} {fs : List ByteArray} {B b : Nat} {w : World} (h : FreshAt node sh cl ca pk wd fs B b w) : IdleAt b w := by
  obtain ⟨_, A, cap, c, _, hg⟩ := h
  exact ⟨bk_cell hg 10, bk_cell hg 11, bk_cell hg 12⟩

set_option maxHeartbeats 2000000 in
theorem waiting_calls (b : Nat) (w : World) (h : IdleAt b w) :
    Calls Tryd.prog 13 #[.pointer (some ⟨b, 0, none⟩)] w fun e w' => e = .returned (.tuple #[.agg zOp, .bool false]) ∧ Below w.heap.size w w' := by
  have h1 := h.wait
  have hlt : b < w.heap.size := World.block_lt_of_cell? w _ h1
  clear h
  go_enter Tryd.func13, Tryd.ntmps13
  go_wp2
  (try simp only [Exit.inBlock, Exit.then])
  refine bodyPost_ret (bk_res_tmp rfl _ _ w.heap.size 27 zOp (0, 0) _ rfl (bk_new w _) Tryd.underlying27 rfl info_zOp) rfl ?_
  exact ⟨rfl, (Below.refl _ _).alloc (Nat.le_refl _) _⟩

set_option maxHeartbeats 2000000 in
theorem open_calls (b : Nat) (w : World) (h : IdleAt b w) :
    Calls Tryd.prog 14 #[.pointer (some ⟨b, 0, none⟩)] w fun e w' => e = .returned (.tuple #[.agg zTxn, .agg zStamp, .bool false]) ∧ Below w.heap.size w w' := by
  have h1 := h.txn
  have hlt : b < w.heap.size := World.block_lt_of_cell? w _ h1
  clear h
  go_enter Tryd.func14, Tryd.ntmps14
  go_wp2
  (try simp only [Exit.inBlock, Exit.then])
  refine bodyPost_ret (bk_res_two_tmp rfl _ _ w.heap.size (w.heap.size + 1) 24 31 zTxn zStamp (0, 0) (0, 0) _ _ rfl (bk_low w _ _) rfl ?hh Tryd.underlying24 rfl info_zTxn Tryd.underlying31 rfl info_zStamp) rfl ?_
  case hh =>
    have h := bk_new (w.alloc (.cells zTxn 24)) (.cells zStamp 31)
    rwa [show (w.alloc (.cells zTxn 24)).heap.size = w.heap.size + 1 by simp] at h
  exact ⟨rfl, ((Below.refl _ _).alloc (Nat.le_refl _) _).alloc (by simp) _⟩

theorem token_calls (b : Nat) (w : World) (h : IdleAt b w) :
    Calls Tryd.prog 15 #[.pointer (some ⟨b, 0, none⟩)] w fun e w' => e = .returned (.string ⟨#[]⟩) ∧ w = w' := by
  have h1 := h.last
  clear h
  go_enter Tryd.func15, Tryd.ntmps15
  go_wp2
  go_ret
  exact ⟨rfl, rfl⟩
theorem tick_calls (b : Nat) (w : World) (h : IdleAt b w) :
    Calls Tryd.prog 16 #[.pointer (some ⟨b, 0, none⟩)] w fun e w' => e = .returned (.slice none 0 0) ∧ w = w' := by
  have h1 := h.wait
  clear h
  go_enter Tryd.func16, Tryd.ntmps16
  go_wp2
  go_ret
  exact ⟨rfl, rfl⟩
end Go.Proofs.YtconkncoohcdfaaDoor
