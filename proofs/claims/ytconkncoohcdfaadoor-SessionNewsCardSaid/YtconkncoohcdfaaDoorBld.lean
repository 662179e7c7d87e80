/- strings.Builder in a block of its own, its footprint said: WriteByte and String. For at most 2^47 bytes. -/
import Derived.Test.YtconkncoohcdfaaDoorBuild
import Derived.Maps.AppendAt
namespace Go.Proofs.YtconkncoohcdfaaDoor
open Go.RowKit
set_option linter.unusedSimpArgs false
set_option linter.unusedVariables false
set_option maxRecDepth 100000

/-- A builder: block b; its buffer's value v holds the bytes l. -/
structure Bld (w : World) (b : Nat) (v : Value) (l : List UInt8) : Prop where
  blk : w.heap[b]? = some (.cells #[.pointer none, v] 118 (0, 0)) ∨ w.heap[b]? = some (.cells #[.pointer (some ⟨b, 0, none⟩), v] 118 (0, 0))
  own : w.ownsRow 0 5 1 v l.length (Lib.byteCells l)
  ne : v.ownBlock ≠ some b

theorem Bld.is {w : World} {b : Nat} {v : Value} {l : List UInt8} (h : Bld w b v l) : Lib.IsBuilder 118 5 0 b (Lib.byteCells l) w := by
  have ho := h.own
  have hl : (Lib.byteCells l).length = l.length := by simp [Lib.byteCells]
  rcases h.blk with hb | hb
  · exact Or.inl ⟨Nat.zero_le _, v, hb, by rw [hl]; exact ho, h.ne⟩
  · exact Or.inr ⟨Nat.zero_le _, v, hb, by rw [hl]; exact ho, h.ne⟩

theorem Bld.isAt {w : World} {b : Nat} {v : Value} {l : List UInt8} (h : Bld w b v l) (B : Nat) (hB : B ≤ b) (hv : ∀ g, v.ownBlock = some g → B ≤ g) : Lib.IsBuilder 118 5 B b (Lib.byteCells l) w := by
  have hl : (Lib.byteCells l).length = l.length := by simp [Lib.byteCells]
  have ho : w.ownsRow B 5 1 v (Lib.byteCells l).length (Lib.byteCells l) := by
    rw [hl]
    obtain ⟨h1, h2⟩ := h.own
    refine ⟨h1, ?_⟩
    rcases h2 with h2 | ⟨g, cap, cur, rfl, hg, r⟩
    · exact .inl h2
    · exact .inr ⟨g, cap, cur, rfl, hv g rfl, r⟩
  rcases h.blk with hb | hb
  · exact Or.inl ⟨hB, v, hb, ho, h.ne⟩
  · exact Or.inr ⟨hB, v, hb, ho, h.ne⟩

theorem Bld.lt {w : World} {b : Nat} {v : Value} {l : List UInt8} (h : Bld w b v l) : b < w.heap.size := by
  rcases Nat.lt_or_ge b w.heap.size with h' | h'
  · exact h'
  · rcases h.blk with hb | hb <;> simp [Array.getElem?_eq_none h'] at hb

theorem ownsRow_same {w w' : World} {B e size n : Nat} {v : Value} {xs : List Value} (h : w.ownsRow B e size v n xs) (hm : ∀ k, v.ownBlock = some k → w'.heap[k]? = w.heap[k]?) : w'.ownsRow B e size v n xs := by
  obtain ⟨h1, h2⟩ := h
  refine ⟨h1, ?_⟩
  rcases h2 with h2 | ⟨g, cap, cur, rfl, hg, hh, r⟩
  · exact .inl h2
  · exact .inr ⟨g, cap, cur, rfl, hg, (hm g (by simp [Value.ownBlock])).trans hh, r⟩

theorem ownsRow_lt {w : World} {B e size n : Nat} {v : Value} {xs : List Value} (h : w.ownsRow B e size v n xs) {k : Nat} (hk : v.ownBlock = some k) : k < w.heap.size := by
  rcases h.2 with ⟨rfl, _⟩ | ⟨g, cap, cur, rfl, hb, hh, _⟩
  · simp [Value.ownBlock] at hk
  · have : g = k := by simpa [Value.ownBlock] using hk
    subst this
    exact (Array.getElem?_eq_some_iff.1 hh).1

/-- What is not of the builder may change. -/
theorem Bld.kept {w w' : World} {b : Nat} {v : Value} {l : List UInt8} (h : Bld w b v l) {F : Nat → Prop} (ho : Only F w w') (hb : ¬ F b) (hv : ∀ k, v.ownBlock = some k → ¬ F k) : Bld w' b v l :=
  ⟨by rw [ho.block b h.lt hb]; exact h.blk, ownsRow_same h.own (fun k hk => ho.block k (ownsRow_lt h.own hk) (hv k hk)), h.ne⟩

theorem Bld.fresh (w : World) : Bld (w.alloc (.cells #[.pointer none, .slice none 0 0] 118)) w.heap.size (.slice none 0 0) [] :=
  ⟨Or.inl (by show (w.heap.push _)[w.heap.size]? = _; simp), World.ownsRow_nil _ _ _ _, by simp [Value.ownBlock]⟩

theorem copyCheck_bld (b : Nat) (v : Value) (l : List UInt8) (w : World) (h : Bld w b v l) :
    Calls Tryd.prog 75 #[.pointer (some ⟨b, 0, none⟩)] w fun e w' => e = .returned (.tuple #[]) ∧
      w'.heap[b]? = some (.cells #[.pointer (some ⟨b, 0, none⟩), v] 118 (0, 0)) ∧ Only (· = b) w w' ∧ w'.heap.size = w.heap.size := by
  have hlt := h.lt
  have L : Lays.n240 Tryd.prog Tryd.wb_ren := { Tryd.wb with }
  rcases h.blk with hb | hb
  · refine (Any.Builder_copyCheck_fresh L Tryd.wbX72 b w (by rw [Lib.cell_of_heap hb]; rfl) (by simp [World.shape?, hb]; rfl) (Lib.frozen_of_heap hb 0)).mono ?_
    rintro e w' ⟨rfl, rfl⟩
    refine ⟨rfl, ?_, Only.setCell (F := (· = b)) (p := ⟨b, 0, none⟩) (Only.refl _ _) (Or.inl rfl) _, by simp [World.setCell]⟩
    simp only [World.setCell, Array.getElem?_modify, if_pos, hb, Option.map_some]
    rfl
  · refine (Any.Builder_copyCheck_used L Tryd.wbX72 b w (by rw [Lib.cell_of_heap hb]; rfl)).mono ?_
    rintro e w' ⟨rfl, rfl⟩
    exact ⟨rfl, hb, Only.refl _ _, rfl⟩

theorem heap_set1 {w : World} {b : Nat} {x v u : Value} {T : Nat} (h : w.heap[b]? = some (.cells #[x, v] T (0, 0))) :
    (w.setCell ⟨b, 1, none⟩ u).heap[b]? = some (.cells #[x, u] T (0, 0)) := by
  simp only [World.setCell, Array.getElem?_modify, if_pos, h, Option.map_some]
  rfl

set_option maxHeartbeats 1000000 in
theorem writeByte_bld (b : Nat) (v : Value) (l : List UInt8) (c : UInt8) (w : World) (h : Bld w b v l) (hlen : l.length + 1 ≤ 140737488355328) :
    Calls Tryd.prog 48 #[.pointer (some ⟨b, 0, none⟩), .int .u8 (c.toNat : Int)] w fun e w' => e = .returned .nilIface ∧
      ∃ v', Bld w' b v' (l ++ [c]) ∧ Only (fun k => k = b ∨ v.ownBlock = some k) w w' ∧ (v'.ownBlock = v.ownBlock ∨ ∃ g, v'.ownBlock = some g ∧ w.heap.size ≤ g) := by
  obtain ⟨i0, hi, hz0, hz1, hz2⟩ := info_parts Tryd.wbX.infoByte
  have hlt0 := h.lt
  have hne := h.ne
  have hown0 := Lib.hid h.own
  have hlen' : (Lib.byteCells l).length = l.length := by simp [Lib.byteCells]
  go_enter Tryd.func48, Tryd.ntmps48
  go_wp2_with (go_at_call 75; refine (copyCheck_bld b v l _ h).mono ?_)
  rintro e w1 ⟨rfl, hbk, hb1, hs1⟩
  have c0 : w1.cell? ⟨b, 0, none⟩ = some (.pointer (some ⟨b, 0, none⟩)) := by rw [Lib.cell_of_heap hbk]; rfl
  have c1 : w1.cell? ⟨b, 1, none⟩ = some v := by rw [Lib.cell_of_heap hbk]; rfl
  have hown : w1.ownsRow 0 5 1 v (Lib.byteCells l).length (Lib.byteCells l) := by
    rw [hlen']
    exact ownsRow_same hown0.out (fun k hk => hb1.block k (ownsRow_lt hown0.out hk) (fun e => hne (by rw [hk, e])))
  clear hlen'
  have HS1 := Lib.hid hs1
  clear hs1
  go_wp2_with (at_builtin; refine wpList_append_own_at _ rfl _ _ 116 rfl 0 5 i0 (.int .u8 0) 1 1 Tryd.underlying116 hi hz0 hz1 hz2 rfl (by decide) _ _ _ rfl (hown.alloc _) ⟨w1.heap.size, 0, none⟩ 1 1 [.int .u8 (c.toNat : Int)] rfl rfl ?c1 ?c2 ?c3 ?c4 ?c5 ?_)
  case c1 =>
    intro j u hj
    match j, hj with
    | 0, hj => simp at hj; subst hj; simp [Addr.add]
  case c2 => intro u hu; simp at hu; subst hu; rfl
  case c3 => simp [Lib.byteCells]; unfold maxLen; omega
  case c4 => simp [Lib.byteCells]; omega
  case c5 => simp
  intro v' w2 hown' hgrow _ hat
  have hlt : b < w1.heap.size := by rw [HS1.out]; exact hlt0
  have hb2 : w2.heap[b]? = some (.cells #[.pointer (some ⟨b, 0, none⟩), v] 118 (0, 0)) := by
    rw [hgrow.block b (by simp; omega) (fun e => hne e.symm), Lib.alloc_old w1 _ b hlt]
    exact hbk
  have d0 : w2.cell? ⟨b, 0, none⟩ = some (.pointer (some ⟨b, 0, none⟩)) := by rw [Lib.cell_of_heap hb2]; rfl
  have d1 : w2.cell? ⟨b, 1, none⟩ = some v := by rw [Lib.cell_of_heap hb2]; rfl
  have f1 : w2.frozen? ⟨b, 1, none⟩ = false := Lib.frozen_of_heap hb2 1
  obtain ⟨g, cap, rfl⟩ : ∃ g cap, v' = .slice (some ⟨g, 0, none⟩) ((Lib.byteCells l).length + 1) cap := by
    rcases hown'.2 with ⟨_, h0⟩ | ⟨g, cap, cur, hv, _⟩
    · omega
    · exact ⟨g, cap, hv⟩
  have hsz := hgrow.size
  have HAT := Lib.hid hat
  clear hat
  go_wp2
  go_ret
  have hgb : g ≠ b := by
    rcases HAT.out with e | e
    · rintro rfl; exact hne (by rw [← e]; rfl)
    · have : g = w1.heap.size + 1 := by simpa [Value.ownBlock] using e
      omega
  refine ⟨rfl, _, ⟨Or.inr (heap_set1 hb2), ?_, ?_⟩, ?_, ?_⟩
  · refine ownsRow_same (w := w2) ?_ (fun k hk => Below.heap_setCell _ _ _ _ ?_)
    · have : Lib.byteCells (l ++ [c]) = Lib.byteCells l ++ [.int .u8 (c.toNat : Int)] := by simp [Lib.byteCells]
      rw [this]
      simpa [Lib.byteCells] using hown'
    · have : g = k := by simpa [Value.ownBlock] using hk
      simp; omega
  · simp only [Value.ownBlock]
    intro e
    exact hgb (by simpa using e)
  · refine Only.setCell ?_ (Or.inl (Or.inl rfl)) _
    have hO1 : Only (fun k => k = b ∨ v.ownBlock = some k) w (w1.alloc (.cells #[.int .u8 (c.toNat : Int)] 5)) := (hb1.mono (fun k _ h => Or.inl h)).alloc _
    exact hO1.trans (G := fun k => v.ownBlock = some k) ⟨hgrow.os, hgrow.tape, hgrow.output, hgrow.size, fun k hk hf => hgrow.block k hk (fun e => hf e.symm)⟩ (fun i hi => Or.inl (Or.inr hi))
  · rcases HAT.out with e | e
    · exact Or.inl e
    · exact Or.inr ⟨_, e, by rw [← HS1.out]; simp⟩

theorem writeByte_any (x : UInt8) (b : Nat) (v : Value) (l : List UInt8) (c : Int) (hx : c = (x.toNat : Int)) (w : World) (h : Bld w b v l) (hlen : l.length + 1 ≤ 140737488355328) :
    Calls Tryd.prog 48 #[.pointer (some ⟨b, 0, none⟩), .int .u8 c] w fun e w' => e = .returned .nilIface ∧
      ∃ v', Bld w' b v' (l ++ [x]) ∧ Only (fun k => k = b ∨ v.ownBlock = some k) w w' ∧ (v'.ownBlock = v.ownBlock ∨ ∃ g, v'.ownBlock = some g ∧ w.heap.size ≤ g) := by
  subst hx
  exact writeByte_bld b v l x w h hlen
end Go.Proofs.YtconkncoohcdfaaDoor
