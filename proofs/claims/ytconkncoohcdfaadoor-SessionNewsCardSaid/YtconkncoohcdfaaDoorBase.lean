/- General words used by all later texts: a world that has only grown (new blocks, draws), regions whose calls only grow the world, walked once in the order of the text, and frames said by a set of blocks. No condition. -/
import Derived.Test.YtconkncoohcdfaaDoorProg
import Derived.WalkKit
import Derived.WalkSpells
import Derived.WalkLawsBesides
import Derived.KernelRfl
import Derived.BigQuiet
import Derived.Deep.QuietTactic
import Derived.Lib.Hide
namespace Go.Proofs.YtconkncoohcdfaaDoor
open Go.RowKit

/-- How far a world has grown: the count of draws, the new blocks. -/
structure AgedBy where
  n : Nat
  os : Array Obj
  deriving Inhabited

def aged (w : World) (p : AgedBy) : World := { w with heap := w.heap ++ p.os, drawn := p.n }

theorem aged_self (w : World) : aged w ⟨w.drawn, #[]⟩ = w := by simp [aged]

theorem aged_below (w : World) (p : AgedBy) : Below w.heap.size w (aged w p) :=
  ⟨rfl, rfl, rfl, by simp [aged], fun k hk => by simp [aged, Array.getElem?_append, hk]⟩

theorem array_split (a b : Array Obj) (h1 : a.size ≤ b.size) (h2 : ∀ k, k < a.size → b[k]? = a[k]?) : ∃ c, b = a ++ c := by
  refine ⟨b.extract a.size b.size, ?_⟩
  apply Array.ext_getElem?
  intro k
  rw [Array.getElem?_append]
  split
  · rename_i hk; exact h2 k hk
  · rename_i hk
    rw [Array.getElem?_extract]
    have : a.size + (k - a.size) = k := by omega
    simp only [this]
    split
    · rfl
    · rename_i h
      rw [Array.getElem?_eq_none (by omega)]

theorem below_aged {w w' : World} (h : Below w.heap.size w w') : ∃ p : AgedBy, w' = aged w p := by
  obtain ⟨os, hos⟩ := array_split w.heap w'.heap h.size (fun k hk => h.block k hk)
  refine ⟨⟨w'.drawn, os⟩, ?_⟩
  obtain ⟨h1, h2, h3, h4, h5⟩ := w'
  have e1 := h.os
  have e2 := h.tape
  have e3 := h.output
  simp only at e1 e2 e3 hos
  subst e1 e2 e3 hos
  rfl

theorem aged_aged (w : World) (p q : AgedBy) : ∃ r : AgedBy, aged (aged w p) q = aged w r :=
  ⟨⟨q.n, p.os ++ q.os⟩, by simp [aged, Array.append_assoc]⟩

theorem cell_aged {w : World} {a : Addr} {v : Value} (h : w.cell? a = some v) (p : AgedBy) : (aged w p).cell? a = some v :=
  ((aged_below w p).cell (World.block_lt_of_cell? w a h)).trans h

theorem wp_region_aged {P : Program} {id : Nat} {Q : Exit → Act → World → Prop} {a : Act} {w : World} {l : List Oper} (hm : P.follows .mixedOrders = true) (hB : Region.lexB .any l.toArray = true)
    (h : wpQuiet P l.toArray (fun w' => ∃ p : AgedBy, w' = aged w p) (fun a' => ∀ w', (∃ p : AgedBy, w' = aged w p) → Q .normal a' w') l a) : (Code.region id l.toArray true).wp P Q a w :=
  wp_region_quiet (C := fun w' => ∃ p : AgedBy, w' = aged w p) hm hB ⟨⟨w.drawn + 1, #[]⟩, by simp [aged]⟩ (by simpa using h)

/-- A callee's contract, met in a world that has grown. -/
theorem calls_aged {P : Program} {f : FuncId} {args : Array Value} {w : World} {p : AgedBy} {v : Value}
    (h : Calls P f args (aged w p) fun e w' => e = .returned v ∧ Below (aged w p).heap.size (aged w p) w') :
    Calls P f args (aged w p) fun e w'' => e = .returned v ∧ ∃ q : AgedBy, w'' = aged w q :=
  h.mono fun _ _ ⟨he, hb⟩ => ⟨he, by
    obtain ⟨q, rfl⟩ := below_aged hb
    exact aged_aged w p q⟩

theorem calls_aged_same {P : Program} {f : FuncId} {args : Array Value} {w : World} {p : AgedBy} {v : Value}
    (h : Calls P f args (aged w p) fun e w' => e = .returned v ∧ w' = aged w p) :
    Calls P f args (aged w p) fun e w'' => e = .returned v ∧ ∃ q : AgedBy, w'' = aged w q :=
  h.mono fun _ _ ⟨he, hb⟩ => ⟨he, ⟨p, hb⟩⟩

/-- Only blocks of F, and new ones, differ. -/
structure Only (F : Nat → Prop) (w w' : World) : Prop where
  os : w'.os = w.os
  tape : w'.tape = w.tape
  output : w'.output = w.output
  size : w.heap.size ≤ w'.heap.size
  block : ∀ k, k < w.heap.size → ¬ F k → w'.heap[k]? = w.heap[k]?

theorem Only.refl (F : Nat → Prop) (w : World) : Only F w w := ⟨rfl, rfl, rfl, Nat.le_refl _, fun _ _ _ => rfl⟩
theorem Only.trans {F G : Nat → Prop} {a b c : World} (h : Only F a b) (k : Only G b c) (hG : ∀ i, G i → F i ∨ a.heap.size ≤ i) : Only F a c :=
  ⟨k.os.trans h.os, k.tape.trans h.tape, k.output.trans h.output, Nat.le_trans h.size k.size, fun i hi hF =>
    (k.block i (Nat.lt_of_lt_of_le hi h.size) (fun hg => (hG i hg).elim hF (fun h1 => absurd hi (by omega)))).trans (h.block i hi hF)⟩
theorem Only.mono {F G : Nat → Prop} {w w' : World} (h : Only F w w') (hFG : ∀ k, k < w.heap.size → F k → G k) : Only G w w' :=
  ⟨h.os, h.tape, h.output, h.size, fun k hk hg => h.block k hk (fun hf => hg (hFG k hk hf))⟩
theorem Only.of_below {F : Nat → Prop} {w w' : World} (h : Below w.heap.size w w') : Only F w w' := ⟨h.os, h.tape, h.output, h.size, fun k hk _ => h.block k hk⟩
theorem Only.below {F : Nat → Prop} {w w' : World} {B : Nat} (h : Only F w w') (hB : ∀ k, F k → B ≤ k) (hw : B ≤ w.heap.size) : Below B w w' :=
  ⟨h.os, h.tape, h.output, h.size, fun k hk => h.block k (by omega) (fun hf => by have := hB k hf; omega)⟩
theorem Only.setCell {F : Nat → Prop} {a w : World} (h : Only F a w) {p : Addr} (hp : F p.block ∨ a.heap.size ≤ p.block) (u : Value) : Only F a (w.setCell p u) :=
  ⟨h.os, h.tape, h.output, by simpa [World.setCell] using h.size, fun k hk hf => (Below.heap_setCell _ _ _ _ (fun e => hp.elim (fun hp => hf (by rw [e]; exact hp)) (fun hp => by omega))).trans (h.block k hk hf)⟩
theorem Only.alloc {F : Nat → Prop} {a w : World} (h : Only F a w) (o : Obj) : Only F a (w.alloc o) :=
  ⟨h.os, h.tape, h.output, Nat.le_trans h.size (by simp), fun k hk hf => (Below.heap_alloc _ _ _ (Nat.lt_of_lt_of_le hk h.size)).trans (h.block k hk hf)⟩
theorem Only.drew {F : Nat → Prop} {a w : World} (h : Only F a w) : Only F a w.drew := ⟨h.os, h.tape, h.output, h.size, h.block⟩
theorem Only.cell {F : Nat → Prop} {w w' : World} (h : Only F w w') {p : Addr} (hp : p.block < w.heap.size) (hf : ¬ F p.block) : w'.cell? p = w.cell? p :=
  World.cell?_of_block (w := w) (h.block p.block hp hf)
end Go.Proofs.YtconkncoohcdfaaDoor
