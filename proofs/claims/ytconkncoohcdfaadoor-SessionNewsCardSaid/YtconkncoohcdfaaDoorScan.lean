/- What gate.Reply answers to a scan that is OK: how many pairs, and each pair's two words. Where the whole line is at most 2^47 bytes. -/
import Derived.Test.YtconkncoohcdfaaDoorReply2
import Derived.Test.YtconkncoohcdfaaDoorQTail
import Derived.Deep.RegionHeld3
import Derived.Deep.AppendLies
import Derived.Deep.DrawnRows
namespace Go.Proofs.YtconkncoohcdfaaDoor
open Go.RowKit
set_option linter.unusedSimpArgs false
set_option linter.unusedVariables false
set_option maxRecDepth 100000
attribute [local go_sem ↓] Go.wp_at_zero Go.wp_at_succ

theorem Tryd.infoStr : (Tryd.prog.info? 9).map (fun i => (i.zero, i.size, i.bytes)) = some (some (.string ⟨#[]⟩), 1, 16) := by kernel_rfl

def baOf (l : List UInt8) : ByteArray := ⟨l.toArray⟩
def outB (ps : List (ByteArray × ByteArray)) : List ByteArray :=
  [baOf [112, 97, 105, 114, 115], baOf (Lib.itoa ps.length)] ++ ps.flatMap (fun p => [baOf (wordB p.1.data.toList), baOf (wordB p.2.data.toList)])
def outUpto (ps : List (ByteArray × ByteArray)) (i : Nat) : List ByteArray :=
  [baOf [112, 97, 105, 114, 115], baOf (Lib.itoa ps.length)] ++ (ps.take i).flatMap (fun p => [baOf (wordB p.1.data.toList), baOf (wordB p.2.data.toList)])
def scanL (ps : List (ByteArray × ByteArray)) : List UInt8 := Lib.join ((outB ps).map (·.data.toList)) [32]

theorem outUpto_all (ps : List (ByteArray × ByteArray)) : outUpto ps ps.length = outB ps := by simp [outUpto, outB]
theorem outUpto_len (ps : List (ByteArray × ByteArray)) (i : Nat) (h : i ≤ ps.length) : (outUpto ps i).length = 2 + 2 * i := by
  have : ∀ l : List (ByteArray × ByteArray), (l.flatMap (fun p => [baOf (wordB p.1.data.toList), baOf (wordB p.2.data.toList)])).length = 2 * l.length := by
    intro l
    induction l with
    | nil => rfl
    | cons p l ih => simp only [List.flatMap_cons, List.length_append, ih, List.length_cons, List.length_nil]; omega
  simp only [outUpto, List.length_append, this, List.length_take, List.length_cons, List.length_nil]
  omega
theorem outUpto_step (ps : List (ByteArray × ByteArray)) (i : Nat) (h : i < ps.length) : outUpto ps (i + 1) = outUpto ps i ++ [baOf (wordB ps[i].1.data.toList), baOf (wordB ps[i].2.data.toList)] := by
  unfold outUpto
  rw [List.take_succ_eq_append_getElem h, List.flatMap_append, List.append_assoc]
  simp

theorem own_base' {w : World} {B e size n : Nat} {v : Value} {xs : List Value} (h : w.ownsRow B e size v n xs) {k : Nat} (hk : v.ownBlock = some k) : B ≤ k := by
  rcases h.2 with ⟨rfl, _⟩ | ⟨g, cap, cur, rfl, hb, _⟩
  · simp [Value.ownBlock] at hk
  · have : g = k := by simpa [Value.ownBlock] using hk
    omega

theorem row_form {w : World} {B : Nat} {v : Value} {l : List ByteArray} (h : w.ownsRow B 9 1 v l.length (l.map Value.string)) (hl : 0 < l.length) :
    ∃ g cap, v = .slice (some ⟨g, 0, none⟩) l.length cap ∧ l.length ≤ cap ∧ g < w.heap.size ∧ ∀ (j : Nat) x, l[j]? = some x → w.cell? ⟨g, j, none⟩ = some (.string x) := by
  rcases h.2 with ⟨_, h0⟩ | ⟨g, cap, cur, rfl, hB, hg, hc, _, hs, ht⟩
  · omega
  · refine ⟨g, cap, rfl, hc, (Array.getElem?_eq_some_iff.1 hg).1, fun j x hj => ?_⟩
    obtain ⟨hj1, hj2⟩ := List.getElem?_eq_some_iff.1 hj
    have h1 : (cur.toList.take (l.length * 1))[j]? = some (.string x) := by rw [ht, List.getElem?_map, hj]; rfl
    rw [List.getElem?_take] at h1
    simp only [Nat.mul_one, hj1, if_true] at h1
    simp [World.cell?, hg]
    simpa using h1

/-- The row of words so far, of the call's own from block B on; below B the world is W0. -/
def ScanRow (B : Nat) (W0 : World) (v : Value) (l : List ByteArray) (w' : World) : Prop :=
  w'.ownsRow B 9 1 v l.length (l.map Value.string) ∧ Below B W0 w' ∧ B ≤ w'.heap.size

theorem ScanRow.below {B : Nat} {W0 w1 w2 : World} {v : Value} {l : List ByteArray} (h : ScanRow B W0 v l w1) (hb : Below w1.heap.size w1 w2) : ScanRow B W0 v l w2 :=
  ⟨ownsRow_same h.1 (fun k hk => hb.block k (ownsRow_lt h.1 hk)), h.2.1.trans (hb.mono h.2.2), Nat.le_trans h.2.2 hb.size⟩
theorem ScanRow.drew {B : Nat} {W0 w1 : World} {v : Value} {l : List ByteArray} (h : ScanRow B W0 v l w1) : ScanRow B W0 v l w1.drew :=
  h.below (Below.refl _ _).drew
theorem ScanRow.alloc {B : Nat} {W0 w1 : World} {v : Value} {l : List ByteArray} (h : ScanRow B W0 v l w1) (o : Obj) : ScanRow B W0 v l (w1.alloc o) :=
  h.below ((Below.refl _ _).alloc (Nat.le_refl _) _)

theorem cell_of_below {w1 w2 : World} (hb : Below w1.heap.size w1 w2) {a : Addr} {v : Value} (h : w1.cell? a = some v) : w2.cell? a = some v :=
  (hb.cell (World.block_lt_of_cell? w1 a h)).trans h

set_option maxHeartbeats 1000000 in
theorem reply_scan (cl tc ts ro ao bk tk ky hi vl lm aw al an tok : Value) (A : Option Addr) (cap : Nat) (ps : List (ByteArray × ByteArray)) (w : World) (htab : Pow w)
    (hA : 0 < ps.length → ∃ b off, A = some ⟨b, off, none⟩ ∧ ∀ j (hj : j < ps.length), w.cell? ⟨b, off + j * 2, none⟩ = some (.string ps[j].1) ∧ w.cell? ⟨b, off + j * 2 + 1, none⟩ = some (.string ps[j].2))
    (hps : ∀ p ∈ ps, 3 * p.1.size ≤ 140737488355328 ∧ 3 * p.2.size ≤ 140737488355328) (hn : ps.length ≤ 1000000000) (hlen : (scanL ps).length ≤ 140737488355328) :
    Calls Tryd.prog 7 #[.agg #[cl, tc, ts, .int .i64 3, ro, ao, bk, tk, ky, hi, vl, lm, .int .i64 0, aw, al, an, .slice A ps.length cap, tok]] w fun e w' => e = .returned (.string ⟨(scanL ps).toArray⟩) ∧ Below w.heap.size w w' := by
  have HA := Lib.hid hA
  clear hA
  go_enter Tryd.func7, Tryd.ntmps7
  go_wp2_with (go_at_call 21; refine (itoa_calls (ps.length : Int) (by omega) (by omega) _ (htab.below ?hbb)).mono ?_)
  case hbb => exact (Below.refl _ _).alloc (Nat.le_refl _) _
  rintro e w1 ⟨rfl, hb1⟩
  have c16 : w1.cell? ⟨w.heap.size, 16, none⟩ = some (.slice A ps.length cap) := cell_of_below hb1 (by simp)
  have hz1 : w.heap.size + 1 ≤ w1.heap.size := by have := hb1.size; simpa using this
  have hne1 : w.heap.size ≠ w1.heap.size := by omega
  have c16a := fun o => cell_of_below ((Below.refl w1.heap.size w1).alloc (Nat.le_refl _) o) c16
  have hbw : Below (w.heap.size + 1) w1 w1 := Below.refl _ _
  have hstart : ScanRow (w.heap.size + 1) w1 (.slice (some ⟨w1.heap.size, 0, none⟩) 2 2) (outUpto ps 0) (w1.alloc (.cells #[.string (baOf [112, 97, 105, 114, 115]), .string (baOf (Lib.itoa ps.length))] 9)) := by
    refine ⟨⟨by simp [outUpto], .inr ⟨w1.heap.size, 2, #[.string (baOf [112, 97, 105, 114, 115]), .string (baOf (Lib.itoa ps.length))], by simp [outUpto], hz1, ?_, by simp [outUpto], by unfold maxLen; omega, by simp, by simp [outUpto]⟩⟩, hbw.alloc hz1 _, by simp; omega⟩
    show (w1.heap.push _)[w1.heap.size]? = _
    simp
  have HS := Lib.hid hstart
  clear hstart hbw
  go_wp2_with fail
  go_loopw [5, 74] (fun v i W => ∃ n : Nat, n ≤ ps.length ∧ i = .int .i64 n ∧ ScanRow (w.heap.size + 1) w1 v (outUpto ps n) W) (fun _ i _ => ps.length - (intOf i).toNat)
  case atStart => exact ⟨0, Nat.zero_le _, rfl, HS.out⟩
  case round =>
    obtain ⟨n, hnl, rfl, hrow⟩ := hrel
    by_cases hlt : n < ps.length
    · obtain ⟨b, off, rfl, hcs⟩ := HA.out (by omega)
      obtain ⟨kk, hkk⟩ : ∃ kk, kk = ps[n].1 := ⟨_, rfl⟩
      obtain ⟨vv, hvv⟩ : ∃ vv, vv = ps[n].2 := ⟨_, rfl⟩
      have hb01 : Below w.heap.size w wr := ((Below.refl w.heap.size w).alloc (Nat.le_refl _) _).trans ((hb1.mono (by simp)).trans (hrow.2.1.mono (by omega)))
      have ck : wr.cell? ⟨b, off + n * 2, none⟩ = some (.string kk) := by rw [hkk]; exact cell_of_below hb01 (hcs n hlt).1
      have cv : wr.cell? ⟨b, off + n * 2 + 1, none⟩ = some (.string vv) := by rw [hvv]; exact cell_of_below hb01 (hcs n hlt).2
      have HK := Lib.hid hkk
      have HV := Lib.hid hvv
      clear hkk hvv hcs
      go_wp2_with fail
      obtain ⟨W2, hW2⟩ : ∃ W2, W2 = wr.alloc (.cells #[.string kk, .string vv] 36) := ⟨_, rfl⟩
      obtain ⟨M, hM⟩ : ∃ M, M = wr.heap.size := ⟨_, rfl⟩
      have s0 : W2.cell? ⟨M, 0, none⟩ = some (.string kk) := by rw [hW2, hM]; simp
      have s1 : W2.cell? ⟨M, 1, none⟩ = some (.string vv) := by rw [hW2, hM]; simp
      have s2 : ScanRow (w.heap.size + 1) w1 u5 (outUpto ps n) W2 := by rw [hW2]; exact hrow.alloc _
      rw [← hW2, ← hM]
      clear hW2 hM ck cv
      have h3k : 3 * kk.size ≤ 140737488355328 := by rw [HK.out]; exact (hps _ (List.getElem_mem hlt)).1
      have h3v : 3 * vv.size ≤ 140737488355328 := by rw [HV.out]; exact (hps _ (List.getElem_mem hlt)).2
      obtain ⟨i0, hi, hz0, hz1', hz2⟩ := info_parts Tryd.infoStr
      have hLL := outUpto_len ps n hnl
      have h63 : (outUpto ps n).length + 2 ≤ maxLen := by unfold maxLen; omega
      have hby : ((outUpto ps n).length + 2) * 16 ≤ 140737488355328 := by omega
      have HLL := Lib.hid hLL
      clear hLL
      have a0 := cell_aged s0
      have a1 := cell_aged s1
      refine wp_region_aged_tail 1 7 (by omega) (by kernel_rfl) (by kernel_rfl) ?_
      simp only [List.take_succ_cons, List.take_zero, List.drop_succ_cons, List.drop_zero]
      repeat (go_big_quiet_step ((exact calls_aged (word_calls _ _ (by first | exact h3k | exact h3v)))))
      refine wpQuiet_nil ?_
      rintro w' ⟨p, rfl⟩
      have s3 : ScanRow (w.heap.size + 1) w1 u5 (outUpto ps n) (aged W2 p) := s2.below (aged_below W2 p)
      obtain ⟨W3, hW3⟩ : ∃ W3, W3 = aged W2 p := ⟨_, rfl⟩
      rw [← hW3] at s3
      rw [← hW3]
      clear hW3 a0 a1
      go_wp2_with (at_builtin; refine wpList_append_lies (W3.alloc (.cells #[.string ⟨(wordB kk.data.toList).toArray⟩, .string ⟨(wordB vv.data.toList).toArray⟩] 9)) rfl _ _ 39 rfl (w.heap.size + 1) 9 i0 (.string ⟨#[]⟩) 1 16 Tryd.underlying39 hi hz0 hz1' hz2 rfl (by omega) u5 (outUpto ps n).length ((outUpto ps n).map Value.string) rfl (s3.alloc _).1 ⟨W3.heap.size, 0, none⟩ 2 2 [.string ⟨(wordB kk.data.toList).toArray⟩, .string ⟨(wordB vv.data.toList).toArray⟩] rfl rfl (World.news_of_block (cs := #[.string ⟨(wordB kk.data.toList).toArray⟩, .string ⟨(wordB vv.data.toList).toArray⟩]) (t := 9) (fr := (0, 0)) (heap_alloc_new W3 _)) (by simp [Value.oneCell']) (by omega) h63 hby (s3.alloc _).2.2 (W3.heap.size + 1) (by simp) ?_; intro gg gcap w3 hown3 hgrow hat hlt3)
      have s4 : ScanRow (w.heap.size + 1) w1 (.slice (some ⟨gg, 0, none⟩) ((outUpto ps n).length + 2) gcap) (outUpto ps (n + 1)) w3 := by
        refine ⟨?_, (s3.alloc _).2.1.grown hgrow (s3.alloc _).2.2 (fun k hk => own_base' s3.1 hk), Nat.le_trans (s3.alloc _).2.2 hgrow.size⟩
        rw [outUpto_step ps n hlt, ← HK.out, ← HV.out]
        simpa [baOf] using hown3
      have S4 := Lib.hid s4
      clear s4 hown3 hat
      go_wp2
      refine NoPanic.normal ?_
      go_wp2
      go_roundw
      case rel => exact ⟨n + 1, by omega, by go_num, S4.out⟩
      case measure => simp [intOf]; omega
    · obtain rfl : n = ps.length := by omega
      rw [outUpto_all] at hrow
      obtain ⟨g, gc, rfl, hcap, hgl, hcells⟩ := row_form hrow.1 (by simp [outB])
      have hz9 : (outB ps).length ≤ 140737488355328 := by have := outUpto_len ps ps.length (Nat.le_refl _); rw [outUpto_all] at this; omega
      have hb9 := hrow.2.1
      go_wp2_with fail
      refine (Tryd.strings_Join g 0 gc (outB ps) ⟨#[32]⟩ _ (fun j x hj => by rw [Nat.zero_add]; exact hcells j x hj) hgl hz9 hcap hlen).mono ?_
      rintro e w5 ⟨rfl, hb5⟩
      go_wp2
      go_ret
      refine ⟨rfl, ?_⟩
      exact ((Below.refl w.heap.size w).alloc (Nat.le_refl _) _).trans ((hb1.mono (by simp)).trans ((hb9.mono (by omega)).trans (hb5.mono (by have := hrow.2.2; omega))))
end Go.Proofs.YtconkncoohcdfaaDoor
