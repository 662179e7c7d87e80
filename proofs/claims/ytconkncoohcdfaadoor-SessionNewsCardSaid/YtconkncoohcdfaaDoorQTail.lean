/- A region that draws its order, whose first n operations read or call what only grows the world, and whose last ones stand in one forced order: walked once, in the order of the text. After the kit's own text on tails; no condition. -/
import Derived.Test.YtconkncoohcdfaaDoorBase
import Derived.StillTail
import Derived.Deep.RegionHeld3
namespace Go.Proofs.YtconkncoohcdfaaDoor
open Go

section
variable {P : Program} {ops : Array Oper} {md : Region.Mode} {C : World → Prop}

def wpAnyQL (P : Program) (md : Region.Mode) (ops : Array Oper) (C : World → Prop) (n : Nat) (L : Array Bool → Act → Prop) : Nat → Array Bool → Act → Prop
  | 0, listed, a => L listed a
  | f + 1, listed, a =>
    Region.ready md ops listed ≠ [] ∧ ∀ i ∈ Region.ready md ops listed, i < n ∧ qOp P ops C i (wpAnyQL P md ops C n L f (listed.setIfInBounds i true)) a

theorem wpAny_of_qhead {n g : Nat} {L : Array Bool → Act → Prop} {Q' : Exit → Act → World → Prop} (hL : ∀ listed a w, C w → L listed a → wpAny P md ops Q' g listed a w) :
    ∀ (f : Nat) (listed : Array Bool) (a : Act) (w : World), C w → wpAnyQL P md ops C n L f listed a → wpAny P md ops Q' (f + g) listed a w
  | 0, listed, a, w, hw, h => by rw [Nat.zero_add]; exact hL _ _ _ hw h
  | f + 1, listed, a, w, hw, h => by
    rw [show f + 1 + g = (f + g) + 1 by omega]
    exact ⟨fun h0 => absurd h0 h.1, fun i hi => wpOp_of_qOp hw (fun a' w' hw' h' => wpAny_of_qhead hL f _ a' w' hw' h') (h.2 i hi).2⟩

/-- each head from m on is waited for by a later head or by the tail's first. -/
def sinkFrom (md : Region.Mode) (ops : Array Oper) (m n : Nat) : Bool :=
  (List.range n).all fun i => decide (i < m) || (List.range (n + 1)).any fun j => decide (i < j) && Region.waitsFor md ops j i

theorem tail_waits_from {m n : Nat} {listed : Array Bool} (hs : sinkFrom md ops m n = true) (hc : Region.chainB md ops n = true) (hn : n < ops.size) (inv : HeadInv md ops n listed) :
    ∀ (d i : Nat), n - i = d → m ≤ i → i < n → listed.getD i true = false → ∀ t, n ≤ t → t ∉ Region.ready md ops listed := by
  intro d
  induction d using Nat.strongRecOn with
  | _ d ih =>
    intro i hd hmi hi hun t ht hr
    obtain ⟨_, ot, hot, hall⟩ := mem_ready.1 hr
    have htlt : t < ops.size := (Array.getElem?_eq_some_iff.1 hot).1
    by_cases htn : t = n
    · subst htn
      have h1 := List.all_eq_true.1 hs i (List.mem_range.2 hi)
      simp only [Bool.or_eq_true, decide_eq_true_eq] at h1
      have h1 := h1.resolve_left (by omega)
      obtain ⟨j, hj, hj2⟩ := List.any_eq_true.1 h1
      simp only [Bool.and_eq_true, decide_eq_true_eq] at hj2
      obtain ⟨oj, hoj, e, he, hb, hon⟩ := Region.waitsFor_spec hj2.2
      have hjle : j ≤ t := by have := List.mem_range.1 hj; omega
      by_cases hjt : j = t
      · subst hjt
        have : oj = ot := Option.some.inj (hoj.symm.trans hot)
        subst this
        have h2 := hall e he hb
        rw [hon, getD_both hun] at h2
        cases h2
      · cases hl : listed.getD j false with
        | true =>
          have h2 := inv.closed j oj hoj hl e he hb
          rw [hon, getD_both hun] at h2
          cases h2
        | false =>
          have hjs : j < listed.size := by rw [inv.size]; omega
          exact ih (t - j) (by omega) j rfl (by omega) (by omega) (getD_in hjs hl) t (Nat.le_refl _) hr
    · have h1 := List.all_eq_true.1 hc t (List.mem_range.2 htlt)
      simp only [Bool.or_eq_true, decide_eq_true_eq] at h1
      rcases h1 with h1 | h1
      · omega
      · obtain ⟨o', ho', e, he, hb, hon⟩ := Region.waitsFor_spec h1
        have : o' = ot := Option.some.inj (ho'.symm.trans hot)
        subst this
        have h2 := hall e he hb
        rw [hon, getD_both (inv.tail (t - 1) (by omega) (by omega))] at h2
        cases h2

theorem wpAnyQL_first {m n i : Nat} {oi : Oper} {v : Value} {L : Array Bool → Act → Prop} (hi : ops[i]? = some oi) (hsel : ∀ (j : Nat) (o : Oper) cs b, ops[j]? = some o → o.op ≠ .select cs b)
    (hs : sinkFrom md ops m n = true) (hc : Region.chainB md ops n = true) (hn : n < ops.size) (hmi : m ≤ i) (hin : i < n)
    (hdone : ∀ listed a, L listed a → ∀ j ∈ Region.ready md ops listed, n ≤ j) :
    ∀ (f : Nat) (listed : Array Bool) (a : Act), HeadInv md ops n listed →
      (∀ j oj, ops[j]? = some oj → j ≠ i → listed.getD j true = false → (∀ e ∈ oj.after, Region.binds md e = true → e.on ≠ i) → oi.apart ops oj = true) →
      i ∈ Region.ready md ops listed → YieldsIn P ops C oi v a →
      wpAnyQL P md ops C n L f (listed.setIfInBounds i true) (a.put oi.dst v) → wpAnyQL P md ops C n L (f + 1) listed a := by
  intro f
  induction f with
  | zero =>
    intro listed a inv _ hr hy H
    have hun := (mem_ready.1 hr).1
    refine ⟨fun h => (by rw [h] at hr; cases hr), fun j hj => ?_⟩
    have hjn : j < n := by
      rcases Nat.lt_or_ge j n with h | h
      · exact h
      · exact absurd hj (tail_waits_from hs hc hn inv _ i rfl hmi hin hun j h)
    refine ⟨hjn, ?_⟩
    by_cases hji : j = i
    · subst hji; exact hy.qOp hi H
    · have := hdone _ _ H j (ready_mono hj hji)
      omega
  | succ f ih =>
    intro listed a inv hfree hr hy H
    have hun := (mem_ready.1 hr).1
    refine ⟨fun h => (by rw [h] at hr; cases hr), fun j hj => ?_⟩
    have hjn : j < n := by
      rcases Nat.lt_or_ge j n with h | h
      · exact h
      · exact absurd hj (tail_waits_from hs hc hn inv _ i rfl hmi hin hun j h)
    refine ⟨hjn, ?_⟩
    by_cases hji : j = i
    · subst hji; exact hy.qOp hi H
    · have h1 := (H.2 j (ready_mono hj hji)).2
      obtain ⟨hjun, oj, hoj, hall⟩ := mem_ready.1 hj
      have hnot : ∀ e ∈ oj.after, Region.binds md e = true → e.on ≠ i := fun e he hb heq => by
        have h1 := hall e he hb
        rw [heq, getD_both hun] at h1
        cases h1
      have h2 := qOp_put hoj (hfree j oj hoj hji hjun hnot) (fun cs b => hsel i oi cs b hi) (fun cs b => hsel j oj cs b hoj) hy h1
      have hfree' : ∀ k ok, ops[k]? = some ok → k ≠ i → (listed.setIfInBounds j true).getD k true = false →
          (∀ e ∈ ok.after, Region.binds md e = true → e.on ≠ i) → oi.apart ops ok = true := fun k ok hk hki hun hno => by
        refine hfree k ok hk hki ?_ hno
        by_cases hjk : j = k
        · subst hjk; exact hjun
        · rw [getD_set_ne true hjk] at hun; exact hun
      refine qOp_mono (fun a' h3 => ih (listed.setIfInBounds j true) a' (inv.set hj hjn) hfree' (ready_mono hr (Ne.symm hji)) h3.1 ?_) h2
      rw [Array.setIfInBounds_comm _ _ hji]
      exact h3.2

theorem wpAnyQL_lex {m n g : Nat} {Lq : Act → Prop} (hsel : Region.noSelect ops = true) (hs : sinkFrom md ops m n = true) (hc : Region.chainB md ops n = true) (hn : n < ops.size) :
    ∀ (l : List Oper) (k : Nat) (listed : Array Bool) (a : Act), m ≤ k → (∀ j, j < l.length → l[j]? = ops[k + j]?) → k + l.length = n → HeadInv md ops n listed →
    Region.lexHead md ops g l.length k listed = true → wpQuiet P ops C Lq l a →
    wpAnyQL P md ops C n (fun listed' a' => Region.seqB md ops g n listed' = true ∧ Lq a') l.length listed a
  | [], k, listed, a, _, _, hk, _, hB, h => by
    have : k = n := by simpa using hk
    subst this
    exact ⟨by simpa [Region.lexHead] using hB, h⟩
  | o :: l, k, listed, a, hmk, hl, hk, inv, hB, h => by
    have h0 : ops[k]? = some o := by simpa using (hl 0 (by simp)).symm
    simp only [List.length_cons, Region.lexHead, Bool.and_eq_true] at hB
    obtain ⟨⟨hr, hf⟩, hB'⟩ := hB
    have hkn : k < n := by simp only [List.length_cons] at hk; omega
    have hr' : k ∈ Region.ready md ops listed := by simpa using hr
    have hst : qOp P ops C k (wpQuiet P ops C Lq l) a := by unfold qOp; simp only [h0]; exact h
    obtain ⟨v, hy, hK⟩ := yieldsIn_of_qOp h0 hst
    exact wpAnyQL_first h0 (Region.noSelect_spec hsel) hs hc hn hmk hkn (fun listed' a' hL => seqB_ready hL.1) l.length listed a inv (Region.free_spec h0 hf) hr' hy
      (wpAnyQL_lex hsel hs hc hn l (k + 1) _ _ (by omega) (fun j hj => by have := hl (j + 1) (by simp; omega); simpa [Nat.add_assoc, Nat.add_comm 1 j] using this) (by simp only [List.length_cons] at hk; omega) (inv.set hr' hkn) hB' hK)

/-- The first operations are moves: what they leave in the frame. -/
def putMoves (a : Act) : List Oper → Act
  | [] => a
  | o :: l => match o.op with
    | .move x => putMoves (a.put o.dst (a.eval x)) l
    | _ => putMoves a l

def Region.moveB (o : Oper) : Bool := o.guard.isNone && match o.op with
  | .move _ => true
  | _ => false

theorem wpAnyH_of_any {Q : Exit → Act → World → Prop} : ∀ (fuel : Nat) (listed : Array Bool) (a : Act) (w : World), wpAny P md ops Q fuel listed a w → wpAnyH P md ops Q (fun _ => True) fuel listed a w
  | 0, _, _, _, h => h
  | fuel + 1, _, _, _, h => ⟨h.1, fun i hi => wpOp_mono (fun a' w' h' => ⟨trivial, wpAnyH_of_any fuel _ a' w' h'⟩) (h.2 i hi)⟩

/-- The Bool of a walk in the order of the text: m moves first, then heads, then a forced tail. -/
def lexMovesB (md : Region.Mode) (ops : Array Oper) (n : Nat) : Nat → Nat → Array Bool → Bool
  | 0, k, listed => Region.lexHead md ops (ops.size - n) (n - k) k listed
  | f + 1, k, listed => (match ops[k]? with | some o => Region.moveB o | none => false) && (Region.ready md ops listed).contains k && Region.free md ops listed k && lexMovesB md ops n f (k + 1) (listed.setIfInBounds k true)

theorem wpAny_moves {Q : Exit → Act → World → Prop} {m n : Nat} (hsel : Region.noSelect ops = true) (hn : n < ops.size)
    (hQ : ∀ c a w, ¬ Q (.panic c) a w)
    (hrest : ∀ listed a w, C w → HeadInv md ops n listed → Region.lexHead md ops (ops.size - n) (n - m) m listed = true →
      wpQuiet P ops C (fun a' => ∀ w', C w' → wpList P ops Q (ops.toList.drop n) a' w') ((ops.toList.drop m).take (n - m)) a → wpAny P md ops Q (ops.size - m) listed a w) :
    ∀ (l : List Oper) (k : Nat) (listed : Array Bool) (a : Act) (w : World), C w → (∀ j, j < l.length → l[j]? = ops[k + j]?) → k + l.length = m → m ≤ n → HeadInv md ops n listed →
    lexMovesB md ops n l.length k listed = true →
    wpQuiet P ops C (fun a' => ∀ w', C w' → wpList P ops Q (ops.toList.drop n) a' w') ((ops.toList.drop m).take (n - m)) (putMoves a l) → wpAny P md ops Q (ops.size - k) listed a w
  | [], k, listed, a, w, hC, _, hk, hmn, inv, hB, h => by
    have : k = m := by simpa using hk
    subst this
    exact hrest listed a w hC inv hB h
  | o :: l, k, listed, a, w, hC, hl, hk, hmn, inv, hB, h => by
    have h0 : ops[k]? = some o := by simpa using (hl 0 (by simp)).symm
    simp only [List.length_cons, lexMovesB, h0, Bool.and_eq_true] at hB
    obtain ⟨⟨⟨hmv, hr⟩, hf⟩, hB'⟩ := hB
    have hkm : k < m := by simp only [List.length_cons] at hk; omega
    unfold Region.moveB at hmv
    simp only [Bool.and_eq_true] at hmv
    obtain ⟨hgd, hmv⟩ := hmv
    have hgd' : o.guard = none := by simpa using hgd
    cases hop : o.op with
    | move x =>
      have hy : YieldsIf P ops (fun _ => True) o (a.eval x) a := Or.inl ⟨by simp [Region.wanted, hgd'], fun w' _ => BigFrame.run_move x hop w'⟩
      have hrec := wpAny_moves hsel hn hQ hrest l (k + 1) (listed.setIfInBounds k true) (a.put o.dst (a.eval x)) w hC (fun j hj => by have := hl (j + 1) (by simp; omega); simpa [Nat.add_assoc, Nat.add_comm 1 j] using this)
        (by simp only [List.length_cons] at hk; omega) hmn (inv.set (by simpa using hr) (by omega)) hB' (by simpa [putMoves, hop] using h)
      have hsz : ops.size - k = (ops.size - (k + 1)) + 1 := by omega
      rw [hsz]
      refine wpAny_of_held _ _ _ _ (wpAnyH_take h0 hsel hf hr (fun c a w h => absurd h (hQ c _ w)) hy trivial (wpAnyH_of_any _ _ _ _ hrec))
    | _ => simp [hop] at hmv

theorem quiet_moves {Lq : Act → Prop} {w : World} (hw : C w) : ∀ (l rest : List Oper) (a : Act), (∀ o ∈ l, Region.moveB o = true) → wpQuiet P ops C Lq (l ++ rest) a → wpQuiet P ops C Lq rest (putMoves a l)
  | [], _, _, _, h => h
  | o :: l, rest, a, hm, h => by
    have hmv := hm o (by simp)
    unfold Region.moveB at hmv
    simp only [Bool.and_eq_true] at hmv
    obtain ⟨hgd, hmv⟩ := hmv
    have hgd' : o.guard = none := by simpa using hgd
    cases hop : o.op with
    | move x =>
      have hwant : Region.wanted o (yielded ops a.tmps) = true := by simp [Region.wanted, hgd']
      simp only [List.cons_append, wpQuiet, hwant, if_true] at h
      obtain ⟨v, hv, hk⟩ := h
      have h1 := hv w hw
      unfold Oper.quietAt at h1
      rw [BigFrame.run_move x hop w] at h1
      obtain ⟨_, rfl⟩ := h1
      have := quiet_moves hw l rest _ (fun o' ho' => hm o' (List.mem_cons_of_mem _ ho')) hk
      simpa [putMoves, hop] using this
    | _ => simp [hop] at hmv

theorem lexMoves_moves {n : Nat} : ∀ (l : List Oper) (k : Nat) (listed : Array Bool), (∀ j, j < l.length → l[j]? = ops[k + j]?) → lexMovesB md ops n l.length k listed = true → ∀ o ∈ l, Region.moveB o = true
  | [], _, _, _, _, o, ho => by cases ho
  | x :: l, k, listed, hl, hB, o, ho => by
    have h0 : ops[k]? = some x := by simpa using (hl 0 (by simp)).symm
    simp only [List.length_cons, lexMovesB, h0, Bool.and_eq_true] at hB
    obtain ⟨⟨⟨hmv, hr⟩, hf⟩, hB'⟩ := hB
    rcases List.mem_cons.1 ho with rfl | ho
    · exact hmv
    · exact lexMoves_moves l (k + 1) _ (fun j hj => by have := hl (j + 1) (by simp; omega); simpa [Nat.add_assoc, Nat.add_comm 1 j] using this) hB' o ho

theorem wp_region_quiet_tail {id : Nat} {Q : Exit → Act → World → Prop} {a : Act} {w : World} {l : List Oper} (m n : Nat) (hmn : m ≤ n) (hm : P.follows .mixedOrders = true)
    (hB : (Region.noSelect l.toArray && decide (n < l.length) && sinkFrom .any l.toArray m n && Region.chainB .any l.toArray n && lexMovesB .any l.toArray n m 0 (Array.replicate l.length false)) = true) (hC : C { w with drawn := w.drawn + 1 })
    (h : wpQuiet P l.toArray C (fun a' => ∀ w', C w' → wpList P l.toArray (NoPanic Q) (l.drop n) a' w') (l.take n) a) : (Code.region id l.toArray true).wp P Q a w := by
  simp only [Bool.and_eq_true, decide_eq_true_eq] at hB
  obtain ⟨⟨⟨⟨hsel, hn⟩, hs⟩, hc⟩, hlex⟩ := hB
  refine wp_region_noPanic (wp_region_any hm ?_)
  have inv0 : HeadInv .any l.toArray n (Array.replicate l.toArray.size false) :=
    ⟨by simp, fun j oj _ hl => (by rw [getD_replicate_false] at hl; cases hl), fun t _ ht => getD_in (by simpa using ht) (getD_replicate_false _ _)⟩
  have htl : (l.take m).length = m := by simp; omega
  have hmoves : ∀ o ∈ l.take m, Region.moveB o = true := lexMoves_moves (ops := l.toArray) (md := .any) (n := n) (l.take m) 0 _ (fun j hj => by
      have hj' : j < m := by rw [htl] at hj; exact hj
      simp [hj']) (by rw [htl]; simpa using hlex)
  have hsplit : l.take n = l.take m ++ (l.drop m).take (n - m) := by
    have : n = m + (n - m) := by omega
    conv => lhs; rw [this]
    rw [List.take_add]
  have h := quiet_moves hC (l.take m) ((l.drop m).take (n - m)) a hmoves (by rw [← hsplit]; exact h)
  have key := wpAny_moves (P := P) (md := .any) (C := C) (Q := NoPanic Q) (m := m) (n := n) hsel (by simpa using hn) (fun _ _ _ h => h) (fun listed a' w' hw' inv hlh hq => by
    have hlen : ((l.drop m).take (n - m)).length = n - m := by simp; omega
    have H := wpAnyQL_lex (md := .any) (g := l.toArray.size - n) (C := C) hsel hs hc (by simpa using hn) ((l.drop m).take (n - m)) m listed a' (Nat.le_refl _) (fun j hj => by
      have hj' : j < n - m := by rw [hlen] at hj; exact hj
      rw [List.getElem?_take, if_pos hj', List.getElem?_drop]
      simp) (by rw [hlen]; omega) inv (by rw [hlen]; exact hlh) hq
    have := wpAny_of_qhead (Q' := NoPanic Q) (g := l.toArray.size - n) (fun listed a' w' hw' hL => by
      have hdl : (l.drop n).length = l.toArray.size - n := by simp
      rw [← hdl]
      exact wpAny_of_seq (l.drop n) n listed a' w' (fun j => by simp) (by rw [hdl]; exact hL.1) (hL.2 w' hw')) ((l.drop m).take (n - m)).length _ a' _ hw' H
    rw [hlen] at this
    have e : n - m + (l.toArray.size - n) = l.toArray.size - m := by simp; omega
    rw [e] at this
    exact this) (l.take m) 0 (Array.replicate l.toArray.size false) a _ hC (fun j hj => by
      have hj' : j < m := by rw [htl] at hj; exact hj
      simp [hj']) (by simpa using htl) hmn inv0 (by rw [htl]; simpa using hlex) h
  simpa using key
end

/-- At the class of worlds that have only grown: m moves, then what reads or calls, then from n on a forced tail. -/
theorem wp_region_aged_tail {P : Program} {id : Nat} {Q : Exit → Act → World → Prop} {a : Act} {w : World} {l : List Oper} (m n : Nat) (hmn : m ≤ n) (hm : P.follows .mixedOrders = true)
    (hB : (Region.noSelect l.toArray && decide (n < l.length) && sinkFrom .any l.toArray m n && Region.chainB .any l.toArray n && lexMovesB .any l.toArray n m 0 (Array.replicate l.length false)) = true)
    (h : wpQuiet P l.toArray (fun w' => ∃ p : AgedBy, w' = aged w p) (fun a' => ∀ w', (∃ p : AgedBy, w' = aged w p) → wpList P l.toArray (NoPanic Q) (l.drop n) a' w') (l.take n) a) : (Code.region id l.toArray true).wp P Q a w :=
  wp_region_quiet_tail (C := fun w' => ∃ p : AgedBy, w' = aged w p) m n hmn hm hB ⟨⟨w.drawn + 1, #[]⟩, by simp [aged]⟩ h
end Go.Proofs.YtconkncoohcdfaaDoor
