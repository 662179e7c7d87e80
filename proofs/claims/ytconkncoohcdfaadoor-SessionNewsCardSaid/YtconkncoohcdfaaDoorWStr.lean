/- strings.Builder's WriteString, its buffer among the blocks behind a given one: what it writes, what it leaves. For at most 2^47 bytes. -/
import Derived.Test.YtconkncoohcdfaaDoorBld
import Derived.Lib.AppendStr
namespace Go.Proofs.YtconkncoohcdfaaDoor
open Go.RowKit
set_option linter.unusedSimpArgs false
set_option linter.unusedVariables false
set_option maxRecDepth 100000

/-- A builder in block b, its buffer's value v (the bytes l) among the blocks from Bs on. -/
structure BldAt (w : World) (Bs b : Nat) (v : Value) (l : List UInt8) : Prop where
  blk : w.heap[b]? = some (.cells #[.pointer none, v] 118 (0, 0)) ∨ w.heap[b]? = some (.cells #[.pointer (some ⟨b, 0, none⟩), v] 118 (0, 0))
  own : w.ownsRow Bs 5 1 v l.length (Lib.byteCells l)
  lt : b < Bs
  le : Bs ≤ w.heap.size

theorem BldAt.far {w : World} {Bs b : Nat} {v : Value} {l : List UInt8} (h : BldAt w Bs b v l) {g : Nat} (hg : v.ownBlock = some g) : Bs ≤ g := by
  rcases h.own.2 with ⟨rfl, _⟩ | ⟨g', cap, cur, rfl, hb, _⟩
  · simp [Value.ownBlock] at hg
  · have : g' = g := by simpa [Value.ownBlock] using hg
    omega
theorem BldAt.ne {w : World} {Bs b : Nat} {v : Value} {l : List UInt8} (h : BldAt w Bs b v l) : v.ownBlock ≠ some b := fun e => by
  have := h.far e
  have := h.lt
  omega
theorem BldAt.bld {w : World} {Bs b : Nat} {v : Value} {l : List UInt8} (h : BldAt w Bs b v l) : Bld w b v l := by
  refine ⟨h.blk, ?_, h.ne⟩
  obtain ⟨h1, h2⟩ := h.own
  refine ⟨h1, ?_⟩
  rcases h2 with h2 | ⟨g, cap, cur, hv, hg, r⟩
  · exact .inl h2
  · exact .inr ⟨g, cap, cur, hv, Nat.zero_le _, r⟩
/-- What is neither the builder nor its buffer may change. -/
theorem BldAt.kept {w w' : World} {Bs b : Nat} {v : Value} {l : List UInt8} (h : BldAt w Bs b v l) (hb : Below w.heap.size w w') : BldAt w' Bs b v l :=
  ⟨by rw [hb.block b (Nat.lt_of_lt_of_le h.lt h.le)]; exact h.blk, ownsRow_same h.own (fun k hk => hb.block k (ownsRow_lt h.own hk)), h.lt, Nat.le_trans h.le hb.size⟩

set_option maxHeartbeats 1000000 in
theorem writeString_at (Bs b : Nat) (v : Value) (l : List UInt8) (s : ByteArray) (w : World) (h : BldAt w Bs b v l) (hlen : l.length + s.size ≤ 140737488355328) :
    Calls Tryd.prog 51 #[.pointer (some ⟨b, 0, none⟩), .string s] w fun e w' => e = .returned (.tuple #[.int .i64 s.size, .nilIface]) ∧
      ∃ v', BldAt w' Bs b v' (l ++ s.data.toList) ∧ Only (fun k => k = b ∨ Bs ≤ k) w w' := by
  obtain ⟨i0, hi, hz0, hz1, hz2⟩ := info_parts Tryd.wbX.infoByte
  have hlt0 := h.lt
  have hle0 := h.le
  have hfar := fun g hg => h.far (g := g) hg
  have hown0 := Lib.hid h.own
  have hlen' : (Lib.byteCells l).length = l.length := by simp [Lib.byteCells]
  have HFAR := Lib.hid hfar
  clear hfar
  go_enter Tryd.func51, Tryd.ntmps51
  go_wp2_with (go_at_call 75; refine (copyCheck_bld b v l _ h.bld).mono ?_)
  rintro e w1 ⟨rfl, hbk, hb1, hs1⟩
  have c0 : w1.cell? ⟨b, 0, none⟩ = some (.pointer (some ⟨b, 0, none⟩)) := by rw [Lib.cell_of_heap hbk]; rfl
  have c1 : w1.cell? ⟨b, 1, none⟩ = some v := by rw [Lib.cell_of_heap hbk]; rfl
  have hown : w1.ownsRow Bs 5 1 v (Lib.byteCells l).length (Lib.byteCells l) := by
    rw [hlen']
    exact ownsRow_same hown0.out (fun k hk => hb1.block k (ownsRow_lt hown0.out hk) (fun e => by have := HFAR.out k hk; omega))
  clear hlen'
  have HS1 := Lib.hid hs1
  clear hs1
  go_wp2_with (at_builtin; refine Lib.wpList_append_own_string _ rfl _ _ 116 9 rfl Bs 5 i0 Tryd.underlying116 Tryd.underlying9 hi hz0 hz1 hz2 _ _ _ rfl hown s rfl ?c3 ?c4 ?c5 ?_)
  case c3 => simp [Lib.byteCells]; unfold maxLen; omega
  case c4 => simp [Lib.byteCells]; omega
  case c5 => rw [HS1.out]; exact hle0
  intro v' w2 hown' hgrow _
  have hlt : b < w1.heap.size := by rw [HS1.out]; omega
  have hne : v.ownBlock ≠ some b := fun e => by have := HFAR.out b e; omega
  have hb2 : w2.heap[b]? = some (.cells #[.pointer (some ⟨b, 0, none⟩), v] 118 (0, 0)) := by
    rw [hgrow.block b hlt (fun e => hne e.symm)]
    exact hbk
  have d0 : w2.cell? ⟨b, 0, none⟩ = some (.pointer (some ⟨b, 0, none⟩)) := by rw [Lib.cell_of_heap hb2]; rfl
  have d1 : w2.cell? ⟨b, 1, none⟩ = some v := by rw [Lib.cell_of_heap hb2]; rfl
  have f1 : w2.frozen? ⟨b, 1, none⟩ = false := Lib.frozen_of_heap hb2 1
  have hsz := hgrow.size
  have HO := Lib.hid hown'
  have HG := Lib.hid hgrow
  have HNE := Lib.hid hne
  have hform : v' = .slice none 0 0 ∨ ∃ g cap, v' = .slice (some ⟨g, 0, none⟩) ((Lib.byteCells l).length + s.size) cap := by
    rcases hown'.2 with ⟨e, _⟩ | ⟨g, cap, cur, e, _⟩
    · exact .inl e
    · exact .inr ⟨g, cap, e⟩
  clear hown' hgrow hown hne
  have fin : ∀ u, u = v' → ∀ W, W = w2.setCell ⟨b, 1, none⟩ u → ∃ v', BldAt W Bs b v' (l ++ s.data.toList) ∧ Only (fun k => k = b ∨ Bs ≤ k) w W := by
    rintro u rfl W rfl
    have hown' := HO.out
    refine ⟨u, ⟨Or.inr (heap_set1 hb2), ?_, hlt0, by simp [World.setCell]; have := HS1.out; omega⟩, ?_⟩
    · refine ownsRow_same (w := w2) ?_ (fun k hk => Below.heap_setCell _ _ _ _ ?_)
      · rw [Lib.byteCells_append, ← Lib.strCells_eq]
        simpa [Lib.byteCells] using hown'
      · rcases hown'.2 with ⟨e, _⟩ | ⟨g, cap, cur, e, hg, _⟩
        · rw [e] at hk; simp [Value.ownBlock] at hk
        · rw [e] at hk
          have : g = k := by simpa [Value.ownBlock] using hk
          simp
          omega
    · refine Only.setCell ?_ (Or.inl (Or.inl rfl)) _
      have hO1 : Only (fun k => k = b ∨ Bs ≤ k) w w1 := hb1.mono (fun k _ h => Or.inl h)
      exact hO1.trans (G := fun k => v.ownBlock = some k) ⟨HG.out.os, HG.out.tape, HG.out.output, HG.out.size, fun k hk hf => HG.out.block k hk (fun e => hf e.symm)⟩ (fun i hi => Or.inl (Or.inr (HFAR.out i hi)))
  have HF := Lib.hid fin
  clear fin
  rcases hform with e | ⟨g, cap, e⟩
  · have HE := Lib.hid e.symm
    rw [e]
    clear e
    go_wp2
    go_ret2
    exact ⟨rfl, HF.out _ HE.out _ rfl⟩
  · have HE := Lib.hid e.symm
    rw [e]
    clear e
    go_wp2
    go_ret2
    exact ⟨rfl, HF.out _ HE.out _ rfl⟩
end Go.Proofs.YtconkncoohcdfaaDoor
