/- What gate.Parse answers to any line: the operation that writes it, or the refusal. -/
import Derived.Test.YtconkncoohcdfaaDoorRd3
import Derived.Lib.SplitLaws
namespace Go.Proofs.YtconkncoohcdfaaDoor
open Go.RowKit
set_option linter.unusedSimpArgs false
set_option linter.unusedVariables false
set_option maxRecDepth 100000
attribute [local go_sem ↓] Go.wp_at_zero Go.wp_at_succ

theorem splitK_sp : ∀ s : List UInt8, Lib.splitK [32] 0 (s.count 32) s = splitSp s
  | [] => rfl
  | b :: l => by
    have ih := splitK_sp l
    by_cases hb : b = 32
    · subst hb
      rw [show ((32 : UInt8) :: l).count 32 = l.count 32 + 1 by simp]
      have hix : Lib.index ((32 : UInt8) :: l) [32] = 0 := by rw [Lib.index]; simp [List.isPrefixOf]
      unfold Lib.splitK
      rw [hix]
      simp only [splitSp, if_true]
      simp [ih]
    · have hp : ([32] : List UInt8).isPrefixOf (b :: l) = false := by simp [List.isPrefixOf, Ne.symm hb]
      have hix : Lib.index (b :: l) [32] = if Lib.index l [32] == -1 then -1 else Lib.index l [32] + 1 := by rw [Lib.index, hp]; simp
      rw [show (b :: l).count 32 = l.count 32 by simp [List.count_cons, hb]]
      unfold splitSp
      rw [if_neg hb, ← ih]
      cases hk : l.count 32 with
      | zero => rfl
      | succ k =>
        obtain ⟨j, hj⟩ := Lib.index_of_count (s := l) (old := [32]) (by rw [Lib.count_one]; omega)
        have hj1 : ((j : Int) == -1) = false := beq_eq_false_iff_ne.2 (by omega)
        have hix' : Lib.index (b :: l) [32] = ((j + 1 : Nat) : Int) := by rw [hix, hj, hj1]; simp
        have hj2 : (((j + 1 : Nat) : Int) == -1) = false := beq_eq_false_iff_ne.2 (by omega)
        unfold Lib.splitK
        rw [hix', hj, hj1, hj2]
        simp
theorem split_fields (s : ByteArray) : (Lib.splitB ⟨#[32]⟩ 0 (Lib.countB s ⟨#[32]⟩) s).map (·.data.toList) = splitSp s.data.toList := by
  rw [Lib.splitB_data, ← splitK_sp, ← Lib.count_one]

theorem splitSp_small : ∀ (l : List UInt8), (∀ x ∈ splitSp l, x.length ≤ l.length) ∧ (splitSp l).length ≤ l.length + 1
  | [] => ⟨by simp [splitSp], by simp [splitSp]⟩
  | c :: r => by
    have ih := splitSp_small r
    unfold splitSp
    split
    · refine ⟨fun x hx => ?_, by simp; omega⟩
      rcases List.mem_cons.1 hx with h | h
      · subst h; simp
      · have := ih.1 x h
        simp
        omega
    · split
      · exact ⟨by simp, by simp⟩
      · rename_i h t e
        rw [e] at ih
        refine ⟨fun x hx => ?_, by have := ih.2; simp at this ⊢; omega⟩
        rcases List.mem_cons.1 hx with hh | hh
        · subst hh
          have := ih.1 h (by simp)
          simp
          omega
        · have := ih.1 x (List.mem_cons_of_mem _ hh)
          simp
          omega

def opL (o : OpP) : Array Value := opC o.k o.ro o.ao o.bk ⟨o.tk.toArray⟩ ⟨o.ky.toArray⟩ ⟨o.hi.toArray⟩ ⟨o.vl.toArray⟩ o.lm
/-- what a Parse returns -/
def parseV (r : Option OpP) : Value := match r with
  | some o => .tuple #[.agg (opL o), .int .i64 0]
  | none => .tuple #[.agg zeroOp, .int .i64 210]
theorem opL_opB (k : Int) (ro ao bk : Bool) (tk ky hi vl : ByteArray) (lm : Int) : opL (opB k ro ao bk tk ky hi vl lm) = opC k ro ao bk tk ky hi vl lm := rfl

/-- the library's bound on strings lies in the world -/
def MaxIn (w : World) : Prop := ∃ m, w.cell? ⟨3, 0, none⟩ = some (.int .i64 m)
theorem MaxIn.below {w w' : World} (h : MaxIn w) (hb : Below w.heap.size w w') : MaxIn w' := by
  obtain ⟨m, hm⟩ := h
  exact ⟨m, cell_of_below hb hm⟩

set_option maxHeartbeats 2000000 in
theorem parse_long (s : ByteArray) (w : World) (hs : (400 : Int) < (s.size : Int)) :
    Calls Tryd.prog 19 #[.string s] w fun e w' => e = .returned (parseV none) ∧ Below w.heap.size w w' := by
  go_enter Tryd.func19, Tryd.ntmps19
  go_wp2
  (try simp only [Exit.inBlock, Exit.then])
  refine bodyPost_ret (results_row_tmp rfl _ _ w.heap.size 27 zeroOp (0, 0) _ rfl (heap_alloc_new w _) Tryd.underlying27 rfl info_op) rfl ?_
  exact ⟨rfl, (Below.refl _ _).alloc (Nat.le_refl _) _⟩

theorem set_same {w : World} {g : Nat} {t : TypeId} {cs : Array Value} (h : w.heap[g]? = some (.cells cs t (0, 0))) (i : Nat) (v : Value) (hv : cs[i]? = some v) : w.setCell ⟨g, i, none⟩ v = w := by
  have hcs : cs.setIfInBounds i v = cs := by
    apply Array.ext_getElem?
    intro j
    rw [Array.getElem?_setIfInBounds]
    split
    · rename_i e
      subst e
      split
      · exact hv.symm
      · rename_i hlt
        rw [Array.getElem?_eq_none (by omega)]
    · rfl
  have hh : (w.setCell ⟨g, i, none⟩ v).heap = w.heap := by
    apply Array.ext_getElem?
    intro j
    by_cases hj : j = g
    · subst hj
      rw [put_block h i v hcs, h]
    · exact Below.heap_setCell _ _ _ _ hj
  cases w
  simpa [World.setCell] using hh

set_option maxHeartbeats 4000000 in
theorem parse_short (s : ByteArray) (w : World) (hs : (s.size : Int) ≤ 400) (hm : MaxIn w) (he : ErrsIn w) (htab : Pow w) :
    Calls Tryd.prog 19 #[.string s] w fun e w' => e = .returned (parseV (readP (splitSp s.data.toList))) ∧ Below w.heap.size w w' := by
  obtain ⟨fs, hfs⟩ : ∃ fs, fs = Lib.splitB ⟨#[32]⟩ 0 (Lib.countB s ⟨#[32]⟩) s := ⟨_, rfl⟩
  have hlen : fs.length = Lib.countB s ⟨#[32]⟩ + 1 := by rw [hfs]; exact Lib.splitB_all _ (by decide) 0 _ _ rfl
  have hmap : fs.map (·.data.toList) = splitSp s.data.toList := by rw [hfs]; exact split_fields s
  obtain ⟨m, hmm⟩ := hm.below ((Below.refl w.heap.size w).alloc (Nat.le_refl _) (.cells zeroOp 27))
  have hcall := Tryd.strings_Split s ⟨#[32]⟩ m _ (by omega) hmm (by decide)
  rw [← hfs, ← hlen] at hcall
  have hsm := splitSp_small s.data.toList
  have hss : s.data.toList.length = s.size := by simp
  rw [← hmap, hss] at hsm
  have hszs : ∀ x ∈ fs, x.size ≤ 1000000000 := fun x hx => by
    have := hsm.1 x.data.toList (List.mem_map_of_mem hx)
    have e : x.data.toList.length = x.size := by simp
    omega
  have hfl : fs.length ≤ 1000000000 := by have := hsm.2; simp at this; omega
  have hne : fs ≠ [] := by intro e; rw [e] at hlen; simp at hlen
  have hap : Apart (w.heap.size + 1 + 1) := by
    obtain ⟨⟨_, h1, _⟩, ⟨_, h2, _⟩⟩ := he
    have l1 := World.block_lt_of_cell? w _ h1
    have l2 := World.block_lt_of_cell? w _ h2
    have l3 : 2 < w.heap.size := by
      have hg : Tryd.prog.globalNamed "internal/strconv.uint64pow10" = some 2 := by kernel_rfl
      have h := htab
      unfold Pow Lib.TabIs World.var? at h
      rw [hg] at h
      simp only [Option.bind_some] at h
      rcases Nat.lt_or_ge 2 w.heap.size with h' | h'
      · exact h'
      · simp [Array.getElem?_eq_none h'] at h
    simp only at l1 l2
    exact ⟨by omega, by omega, by omega⟩
  obtain ⟨k, ro, ao, bk, tk, ky, hi, vl, lm, ok, bad', hread, hrc⟩ := fread_calls (w.heap.size + 1 + 1) (w.heap.size + 1) fs hne hszs hfl hap
  rw [hmap] at hread
  have HREAD := Lib.hid hread
  have HRC := Lib.hid hrc
  obtain ⟨wX, hX⟩ : ∃ wX, wX = ((w.alloc (.cells zeroOp 27)).alloc (.cells (fs.map Value.string).toArray 9)).alloc (.cells #[.slice (some ⟨w.heap.size + 1, 0, none⟩) fs.length fs.length, .bool false] 112) := ⟨_, rfl⟩
  have hBX : Below w.heap.size w wX := by rw [hX]; exact (((Below.refl _ _).alloc (Nat.le_refl _) _).alloc (by simp) _).alloc (by simp; omega) _
  have zX : wX.heap.size = w.heap.size + 3 := by rw [hX]; simp
  have rX : wX.heap[w.heap.size]? = some (.cells zeroOp 27 (0, 0)) := by
    rw [hX, Below.heap_alloc _ _ _ (by simp; omega)]
    exact low_block _ _ _ _ _
  have lX : wX.heap[w.heap.size + 1]? = some (.cells (fs.map Value.string).toArray 9 (0, 0)) := by
    rw [hX, Below.heap_alloc _ _ _ (by simp)]
    exact top_block _ _ _ _ _
  have fX : wX.heap[w.heap.size + 1 + 1]? = some (.cells #[.slice (some ⟨w.heap.size + 1, 0, none⟩) fs.length fs.length, .bool false] 112 (0, 0)) := by
    rw [hX]
    have h := heap_alloc_new ((w.alloc (.cells zeroOp 27)).alloc (.cells (fs.map Value.string).toArray 9)) (.cells #[.slice (some ⟨w.heap.size + 1, 0, none⟩) fs.length fs.length, .bool false] 112)
    rwa [show ((w.alloc (.cells zeroOp 27)).alloc (.cells (fs.map Value.string).toArray 9)).heap.size = w.heap.size + 1 + 1 by simp] at h
  have hFs : Fs (w.heap.size + 1 + 1) (w.heap.size + 1) fs false wX :=
    ⟨block_cell fX 0, block_cell fX 1, fun j hj => by rw [block_cell lX j]; simp [hj], by omega, block_frozen fX 1⟩
  have HFS := Lib.hid hFs
  have HRX := Lib.hid rX
  have HZX := Lib.hid zX
  have HBX := Lib.hid hBX
  have HHX := Lib.hid hX
  have HC := Lib.hid hcall
  clear hcall hm hmm hfs hlen hmap hsm hss hszs hfl hne hap hread hrc hX hBX zX rX lX fX hFs
  unfold zeroOp at HC HHX
  go_enter Tryd.func19, Tryd.ntmps19
  go_wp2_with fail
  refine HC.out.mono ?_
  rintro e w1 ⟨rfl, rfl⟩
  clear HC
  go_wp2_with fail
  rw [← HHX.out]
  clear HHX
  refine (HRC.out wX HFS.out (he.below HBX.out) (htab.below HBX.out)).mono ?_
  rintro e w2 ⟨rfl, hF2, hx2⟩
  have z2 := hx2.size
  have zX := HZX.out
  have R2 := Lib.hid ((hx2.block w.heap.size (by omega) (by omega)).trans HRX.out)
  have hb2 : Below w.heap.size w w2 := HBX.out.trans (hx2.below (fun k hk => by omega) (by omega))
  have c1 := hF2.c1
  have z3 : w.heap.size + 3 ≤ w2.heap.size := by omega
  have H2 := Lib.hid hF2
  have HX2 := Lib.hid hx2
  have HB2 := Lib.hid hb2
  clear hF2 hx2 hb2 HRC HFS HRX HZX z2 zX he htab
  have hst1 := storeCells_row (P := Tryd.prog) (w2.alloc (.cells zeroOp 27)) w2.heap.size 27 zeroOp (opC k ro ao bk tk ky hi vl lm) (heap_alloc_new w2 _) rfl (by simp [opC, Value.oneCell'])
  obtain ⟨w3, h3⟩ : ∃ w3, w3 = (w2.alloc (.cells zeroOp 27)).setRow w2.heap.size (opC k ro ao bk tk ky hi vl lm) := ⟨_, rfl⟩
  have hO3 : Only (fun k => w2.heap.size ≤ k) w2 w3 := by rw [h3]; exact Only.setRow ((Only.refl _ _).alloc _) (.inl (Nat.le_refl _)) _
  have T3 := Lib.hid (show w3.heap[w2.heap.size]? = some (.cells (opC k ro ao bk tk ky hi vl lm) 27 (0, 0)) by rw [h3]; exact row_block (heap_alloc_new w2 _))
  have R3 := Lib.hid ((hO3.block w.heap.size (by omega) (by omega)).trans R2.out)
  have H3 := H2.out.same (hO3.block (w.heap.size + 1 + 1) (by omega) (by omega)) (hO3.block (w.heap.size + 1) (by omega) (by omega))
  have d1 := H3.c1
  have HB3 := Lib.hid (HB2.out.trans (hO3.below (B := w.heap.size) (fun k hk => by omega) (by omega)))
  have z4 : w.heap.size + 3 ≤ w3.heap.size := by have := hO3.size; omega
  rw [← h3] at hst1
  unfold zeroOp at hst1
  clear h3 hO3 H3 c1
  have hbadcase : (ok = true ∧ bad' = false) ∨ (ok = false ∨ bad' = true) := by cases ok <;> cases bad' <;> simp
  rcases hbadcase with ⟨rfl, rfl⟩ | hbad
  · have hst2 := storeCells_row (P := Tryd.prog) w3 w.heap.size 27 zeroOp (opC k ro ao bk tk ky hi vl lm) R3.out rfl (by simp [opC, Value.oneCell'])
    go_wp2_with ((refine wpList_load_row rfl _ _ rfl w2.heap.size rfl 27 (opC k ro ao bk tk ky hi vl lm) (0, 0) _ T3.out Tryd.underlying27 rfl info_op ?_))
    (try simp only [Exit.inBlock, Exit.then])
    refine bodyPost_ret (results_row_tmp rfl _ _ w.heap.size 27 (opC k ro ao bk tk ky hi vl lm) (0, 0) _ rfl (row_block R3.out) Tryd.underlying27 rfl info_op) rfl ?_
    refine ⟨?_, (Only.setRow (F := fun k => w.heap.size ≤ k) (Only.of_below HB3.out) (.inl (Nat.le_refl _)) _).below (fun k hk => hk) (Nat.le_refl _)⟩
    rw [HREAD.out, if_pos (by simp)]
    rfl
  · have hst2 := storeCells_row (P := Tryd.prog) w3 w.heap.size 27 zeroOp zeroOp R3.out rfl (by simp [zeroOp, Value.oneCell'])
    have hnone : readP (splitSp s.data.toList) = none := by
      rw [HREAD.out, if_neg]
      rintro ⟨rfl, rfl⟩
      simp at hbad
    have HN := Lib.hid hnone
    clear hnone
    clear hst2
    have q0 : w3.cell? ⟨w.heap.size, 0, none⟩ = some (.int .i64 0) := block_cell R3.out 0
    have f0 := block_frozen R3.out 0
    have e0 := set_same R3.out 0 (.int .i64 0) rfl
    have q1 : w3.cell? ⟨w.heap.size, 1, none⟩ = some (.bool false) := block_cell R3.out 1
    have f1 := block_frozen R3.out 1
    have e1 := set_same R3.out 1 (.bool false) rfl
    have q2 : w3.cell? ⟨w.heap.size, 2, none⟩ = some (.bool false) := block_cell R3.out 2
    have f2 := block_frozen R3.out 2
    have e2 := set_same R3.out 2 (.bool false) rfl
    have q3 : w3.cell? ⟨w.heap.size, 3, none⟩ = some (.bool false) := block_cell R3.out 3
    have f3 := block_frozen R3.out 3
    have e3 := set_same R3.out 3 (.bool false) rfl
    have q4 : w3.cell? ⟨w.heap.size, 4, none⟩ = some (.string ⟨#[]⟩) := block_cell R3.out 4
    have f4 := block_frozen R3.out 4
    have e4 := set_same R3.out 4 (.string ⟨#[]⟩) rfl
    have q5 : w3.cell? ⟨w.heap.size, 5, none⟩ = some (.string ⟨#[]⟩) := block_cell R3.out 5
    have f5 := block_frozen R3.out 5
    have e5 := set_same R3.out 5 (.string ⟨#[]⟩) rfl
    have q6 : w3.cell? ⟨w.heap.size, 6, none⟩ = some (.string ⟨#[]⟩) := block_cell R3.out 6
    have f6 := block_frozen R3.out 6
    have e6 := set_same R3.out 6 (.string ⟨#[]⟩) rfl
    have q7 : w3.cell? ⟨w.heap.size, 7, none⟩ = some (.string ⟨#[]⟩) := block_cell R3.out 7
    have f7 := block_frozen R3.out 7
    have e7 := set_same R3.out 7 (.string ⟨#[]⟩) rfl
    have q8 : w3.cell? ⟨w.heap.size, 8, none⟩ = some (.int .i64 0) := block_cell R3.out 8
    have f8 := block_frozen R3.out 8
    have e8 := set_same R3.out 8 (.int .i64 0) rfl
    cases ok
    · go_wp2
      (try simp only [Exit.inBlock, Exit.then])
      refine bodyPost_ret (results_row_tmp rfl _ _ w.heap.size 27 zeroOp (0, 0) _ rfl R3.out Tryd.underlying27 rfl info_op) rfl ?_
      exact ⟨by rw [HN.out]; rfl, HB3.out⟩
    · cases bad'
      · simp at hbad
      · go_wp2
        (try simp only [Exit.inBlock, Exit.then])
        refine bodyPost_ret (results_row_tmp rfl _ _ w.heap.size 27 zeroOp (0, 0) _ rfl R3.out Tryd.underlying27 rfl info_op) rfl ?_
        exact ⟨by rw [HN.out]; rfl, HB3.out⟩
end Go.Proofs.YtconkncoohcdfaaDoor
