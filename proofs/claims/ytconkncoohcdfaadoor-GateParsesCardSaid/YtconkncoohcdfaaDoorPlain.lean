/- Plain laws of the gate's lines, no program in sight: the line of an operation, the fields of a line, the operation that a line spells; each line spells at most one operation, and that one writes it. -/
import Derived.Test.YtconkncoohcdfaaDoorVis
namespace Go.Proofs.YtconkncoohcdfaaDoor
set_option linter.unusedSimpArgs false
set_option linter.unusedVariables false
set_option maxRecDepth 100000

/-! ## words -/
theorem escB_cons (c : UInt8) (h : itselfB c = true) : escB c = [c] := by simp [escB, h]
theorem escB_esc (c : UInt8) (h : itselfB c = false) : escB c = [37, hexD (c.toNat / 16), hexD (c.toNat % 16)] := by simp [escB, h]
theorem not_itself_37 : itselfB 37 = false := by decide
theorem hexD_inj {a b : Nat} (ha : a < 16) (hb : b < 16) (h : hexD a = hexD b) : a = b := by
  have h1 := hexD_num a ha
  have h2 := hexD_num b hb
  rw [h, h2] at h1
  split at h1 <;> split at h1 <;> omega
theorem u8_eq {a b : UInt8} (h1 : a.toNat / 16 = b.toNat / 16) (h2 : a.toNat % 16 = b.toNat % 16) : a = b := by
  apply UInt8.toNat_inj.1
  omega
/-- a prefix code -/
theorem escB_pre {c d : UInt8} {x y : List UInt8} (h : escB c ++ x = escB d ++ y) : c = d ∧ x = y := by
  by_cases hc : itselfB c = true
  · by_cases hd : itselfB d = true
    · rw [escB_cons c hc, escB_cons d hd] at h
      simp only [List.cons_append, List.nil_append, List.cons.injEq] at h
      exact h
    · have hd' : itselfB d = false := by simpa using hd
      rw [escB_cons c hc, escB_esc d hd'] at h
      simp only [List.cons_append, List.nil_append, List.cons.injEq] at h
      rw [h.1, not_itself_37] at hc
      cases hc
  · have hc' : itselfB c = false := by simpa using hc
    by_cases hd : itselfB d = true
    · rw [escB_esc c hc', escB_cons d hd] at h
      simp only [List.cons_append, List.nil_append, List.cons.injEq] at h
      rw [← h.1, not_itself_37] at hd
      cases hd
    · have hd' : itselfB d = false := by simpa using hd
      rw [escB_esc c hc', escB_esc d hd'] at h
      simp only [List.cons_append, List.nil_append, List.cons.injEq, true_and] at h
      have hcl := c.toNat_lt
      have hdl := d.toNat_lt
      exact ⟨u8_eq (hexD_inj (by omega) (by omega) h.1) (hexD_inj (by omega) (by omega) h.2.1), h.2.2⟩
theorem escB_ne (c : UInt8) : escB c ≠ [] := by unfold escB; split <;> simp
theorem wordL_cons (c : UInt8) (l : List UInt8) : wordL (c :: l) = escB c ++ wordL l := rfl
theorem wordL_nil_iff {l : List UInt8} : wordL l = [] ↔ l = [] := by
  cases l with
  | nil => simp [wordL]
  | cons c l => rw [wordL_cons]; simp [escB_ne]
theorem wordL_inj : ∀ {a b : List UInt8}, wordL a = wordL b → a = b
  | [], b, h => (wordL_nil_iff.1 h.symm).symm
  | c :: a, [], h => wordL_nil_iff.1 h
  | c :: a, d :: b, h => by
    rw [wordL_cons, wordL_cons] at h
    obtain ⟨rfl, h2⟩ := escB_pre h
    rw [wordL_inj h2]
/-- what is read so far is the beginning of what can be read at all -/
theorem wordL_rest {b r t : List UInt8} (h : wordL b ++ r = wordL t) : ∃ t', t = b ++ t' ∧ r = wordL t' := by
  induction b generalizing t with
  | nil => exact ⟨t, rfl, by simpa [wordL] using h⟩
  | cons c b ih =>
    cases t with
    | nil =>
      rw [wordL_cons, show wordL [] = [] from rfl, List.append_eq_nil_iff, List.append_eq_nil_iff] at h
      exact absurd h.1.1 (escB_ne c)
    | cons d t =>
      rw [wordL_cons, wordL_cons, List.append_assoc] at h
      obtain ⟨rfl, h2⟩ := escB_pre h
      obtain ⟨t', rfl, h3⟩ := ih h2
      exact ⟨t', rfl, h3⟩
theorem wordL_ne_37 (t : List UInt8) : wordL t ≠ [37] := by
  cases t with
  | nil => simp [wordL]
  | cons c t =>
    intro h
    rw [wordL_cons] at h
    by_cases hc : itselfB c = true
    · rw [escB_cons c hc] at h
      simp only [List.cons_append, List.nil_append, List.cons.injEq] at h
      rw [h.1, not_itself_37] at hc
      cases hc
    · rw [escB_esc c (by simpa using hc)] at h
      simp at h
theorem wordB_inj {a b : List UInt8} (h : wordB a = wordB b) : a = b := by
  unfold wordB at h
  split at h <;> split at h
  · simp_all
  · exact absurd h.symm (wordL_ne_37 b)
  · exact absurd h (wordL_ne_37 a)
  · exact wordL_inj h
theorem wordB_ne (a : List UInt8) : wordB a ≠ [] := by
  unfold wordB
  split
  · simp
  · simp [wordL_nil_iff, *]
theorem wordB_eq {t w : List UInt8} (h37 : w ≠ [37]) : wordB t = w ↔ t ≠ [] ∧ wordL t = w := by
  unfold wordB
  split
  · rename_i h
    subst h
    simp [Ne.symm h37]
  · rename_i h
    simp [h]
theorem blank_word (a : List UInt8) : (32 : UInt8) ∉ wordB a := by
  have h : ∀ l : List UInt8, (32 : UInt8) ∉ wordL l := by
    intro l hl
    obtain ⟨c, _, hc⟩ := List.mem_flatMap.1 hl
    by_cases hi : itselfB c = true
    · rw [escB_cons c hi] at hc
      have : c = 32 := (List.mem_singleton.1 hc).symm
      subst this
      exact absurd hi (by decide)
    · rw [escB_esc c (by simpa using hi)] at hc
      have hcl := c.toNat_lt
      have n1 := hexD_num (c.toNat / 16) (by omega)
      have n2 := hexD_num (c.toNat % 16) (by omega)
      simp only [List.mem_cons, List.mem_nil_iff, or_false] at hc
      rcases hc with h | h | h
      · exact absurd h (by decide)
      · rw [← h] at n1
        have e : ((32 : UInt8).toNat : Int) = 32 := rfl
        rw [e] at n1
        split at n1 <;> omega
      · rw [← h] at n2
        have e : ((32 : UInt8).toNat : Int) = 32 := rfl
        rw [e] at n2
        split at n2 <;> omega
  unfold wordB
  split
  · decide
  · exact h a

open Classical in
/-- the text of a word, if it is one -/
noncomputable def unwordP (w : List UInt8) : Option (List UInt8) := if h : ∃ t, wordB t = w then some h.choose else none
theorem unwordP_iff {w t : List UInt8} : unwordP w = some t ↔ wordB t = w := by
  unfold unwordP
  constructor
  · intro h
    split at h
    · rename_i hx
      simp only [Option.some.injEq] at h
      rw [← h]
      exact hx.choose_spec
    · cases h
  · intro h
    have hx : ∃ t, wordB t = w := ⟨t, h⟩
    rw [dif_pos hx]
    rw [wordB_inj (hx.choose_spec.trans h.symm)]
theorem unwordP_word (t : List UInt8) : unwordP (wordB t) = some t := unwordP_iff.2 rfl

/-! ## numerals -/
def valD (l : List UInt8) : Nat := l.foldl (fun v c => v * 10 + (c.toNat - 48)) 0
theorem valD_snoc (l : List UInt8) (c : UInt8) : valD (l ++ [c]) = valD l * 10 + (c.toNat - 48) := by simp [valD]
theorem digB_val (u : Nat) : (digB u).toNat - 48 = u % 10 := by
  unfold digB
  rw [UInt8.toNat_ofNat']
  omega
theorem valD_dec : ∀ u : Nat, valD (Lib.decDigits u) = u := by
  intro u
  induction u using Nat.strongRecOn with
  | _ u ih =>
    rw [decPre_eq, valD_snoc, digB_val]
    unfold decPre
    split
    · simp [valD]; omega
    · rw [ih _ (by omega)]; omega
theorem dec_inj {a b : Nat} (h : Lib.decDigits a = Lib.decDigits b) : a = b := by
  rw [← valD_dec a, ← valD_dec b, h]
theorem dec_digit : ∀ (u : Nat), ∀ c ∈ Lib.decDigits u, 48 ≤ c.toNat ∧ c.toNat ≤ 57 := by
  intro u
  induction u using Nat.strongRecOn with
  | _ u ih =>
    intro c hc
    rw [decPre_eq, List.mem_append] at hc
    rcases hc with h | h
    · unfold decPre at h
      split at h
      · cases h
      · exact ih _ (by omega) c h
    · have : c = digB u := by simpa using h
      subst this
      unfold digB
      rw [UInt8.toNat_ofNat']
      omega
theorem blank_dec (u : Nat) : (32 : UInt8) ∉ Lib.decDigits u := fun h => by
  have := (dec_digit u 32 h).1
  exact absurd this (by decide)
theorem dec_ne (u : Nat) : Lib.decDigits u ≠ [] := by rw [decPre_eq]; simp

/-- what an int holds -/
def fits (n : Nat) : Prop := (n : Int) < 9223372036854775808
open Classical in
noncomputable def numP (l : List UInt8) : Option Nat := if h : ∃ n : Nat, fits n ∧ Lib.decDigits n = l then some h.choose else none
theorem numP_of {l : List UInt8} {n : Nat} (h1 : fits n) (h2 : Lib.decDigits n = l) : numP l = some n := by
  have hx : ∃ n : Nat, fits n ∧ Lib.decDigits n = l := ⟨n, h1, h2⟩
  unfold numP
  rw [dif_pos hx]
  rw [dec_inj (hx.choose_spec.2.trans h2.symm)]
theorem numP_spec {l : List UInt8} {n : Nat} (h : numP l = some n) : fits n ∧ Lib.decDigits n = l := by
  unfold numP at h
  split at h
  · rename_i hx
    have h := Option.some.inj h
    rw [← h]
    exact hx.choose_spec
  · cases h
theorem numP_dec {l : List UInt8} {n : Nat} (h : numP l = some n) : Lib.decDigits n = l := (numP_spec h).2
theorem numP_fits {l : List UInt8} {n : Nat} (h : numP l = some n) : (n : Int) < 9223372036854775808 := (numP_spec h).1

/-! ## fields -/
def splitSp : List UInt8 → List (List UInt8)
  | [] => [[]]
  | c :: r => if c = 32 then [] :: splitSp r else match splitSp r with
    | [] => [[c]]
    | h :: t => (c :: h) :: t
def joinSp : List (List UInt8) → List UInt8
  | [] => []
  | [a] => a
  | a :: b :: r => a ++ 32 :: joinSp (b :: r)
theorem splitSp_ne (s : List UInt8) : splitSp s ≠ [] := by
  cases s with
  | nil => simp [splitSp]
  | cons c r =>
    unfold splitSp
    split
    · simp
    · split <;> simp
theorem joinSp_cons (c : UInt8) (h : List UInt8) (t : List (List UInt8)) : joinSp ((c :: h) :: t) = c :: joinSp (h :: t) := by
  cases t <;> simp [joinSp]
theorem join_split : ∀ s : List UInt8, joinSp (splitSp s) = s
  | [] => rfl
  | c :: r => by
    have ih := join_split r
    unfold splitSp
    split
    · rename_i h
      subst h
      obtain ⟨a, t, e⟩ := List.exists_cons_of_ne_nil (splitSp_ne r)
      rw [e] at ih ⊢
      simp [joinSp, ih]
    · split
      · rename_i h
        exact absurd h (splitSp_ne r)
      · rename_i h t e
        rw [e] at ih
        rw [joinSp_cons, ih]
theorem splitSp_plain : ∀ {a : List UInt8}, (32 : UInt8) ∉ a → splitSp a = [a]
  | [], _ => rfl
  | c :: a, h => by
    have hc : c ≠ 32 := fun e => h (by simp [e])
    have ha : (32 : UInt8) ∉ a := fun e => h (by simp [e])
    unfold splitSp
    rw [if_neg hc, splitSp_plain ha]
theorem splitSp_app : ∀ {a : List UInt8} (b : List UInt8), (32 : UInt8) ∉ a → splitSp (a ++ 32 :: b) = a :: splitSp b
  | [], b, _ => by simp [splitSp]
  | c :: a, b, h => by
    have hc : c ≠ 32 := fun e => h (by simp [e])
    have ha : (32 : UInt8) ∉ a := fun e => h (by simp [e])
    rw [List.cons_append]
    conv => lhs; unfold splitSp
    rw [if_neg hc, splitSp_app b ha]

/-! ## operations and their lines -/
structure OpP where
  k : Int
  ro : Bool
  ao : Bool
  bk : Bool
  tk : List UInt8
  ky : List UInt8
  hi : List UInt8
  vl : List UInt8
  lm : Int
  deriving DecidableEq

abbrev vBegin : List UInt8 := [98, 101, 103, 105, 110]
abbrev vAt : List UInt8 := [97, 116]
abbrev vRo : List UInt8 := [114, 111]
abbrev vRw : List UInt8 := [114, 119]
abbrev vGet : List UInt8 := [103, 101, 116]
abbrev vDel : List UInt8 := [100, 101, 108]
abbrev vPut : List UInt8 := [112, 117, 116]
abbrev vScan : List UInt8 := [115, 99, 97, 110]
abbrev vRscan : List UInt8 := [114, 115, 99, 97, 110]
abbrev vCommit : List UInt8 := [99, 111, 109, 109, 105, 116]
abbrev vAbort : List UInt8 := [97, 98, 111, 114, 116]

def bareP (o : OpP) : OpP :=
  if o.k = 1 then ⟨1, o.ro, o.ao, false, o.tk, [], [], [], 0⟩
  else if o.k = 2 ∨ o.k = 5 then ⟨o.k, false, false, false, [], o.ky, [], [], 0⟩
  else if o.k = 3 then ⟨3, false, false, o.bk, [], o.ky, o.hi, [], o.lm⟩
  else if o.k = 4 then ⟨4, false, false, false, [], o.ky, [], o.vl, 0⟩
  else ⟨o.k, false, false, false, [], [], [], [], 0⟩

def lineP (o : OpP) : List UInt8 :=
  if o.k = 1 then
    (if o.ao = true then (if o.ro = true then vBegin ++ 32 :: (vAt ++ 32 :: wordB o.tk) else []) else if o.ro = true then vBegin ++ 32 :: (vRo ++ 32 :: wordB o.tk) else vBegin ++ 32 :: (vRw ++ 32 :: wordB o.tk))
  else if o.k = 2 then vGet ++ 32 :: wordB o.ky
  else if o.k = 5 then vDel ++ 32 :: wordB o.ky
  else if o.k = 4 then vPut ++ 32 :: (wordB o.ky ++ 32 :: wordB o.vl)
  else if o.k = 3 then (if o.lm < 0 then [] else (if o.bk = true then vRscan else vScan) ++ 32 :: (wordB o.ky ++ 32 :: (wordB o.hi ++ 32 :: Lib.decDigits o.lm.toNat)))
  else if o.k = 6 then vCommit
  else if o.k = 7 then vAbort
  else []

def big (n : Nat) : Prop := 400 < n
instance (n : Nat) : Decidable (big n) := inferInstanceAs (Decidable (400 < n))
def requestP (o : OpP) : Option (List UInt8) := if o ≠ bareP o ∨ lineP o = [] ∨ big (lineP o).length then none else some (lineP o)
theorem requestP_iff {o : OpP} {s : List UInt8} : requestP o = some s ↔ o = bareP o ∧ lineP o = s ∧ s ≠ [] ∧ s.length ≤ 400 := by
  unfold requestP
  constructor
  · intro h
    split at h
    · cases h
    · rename_i hn
      have h := Option.some.inj h
      subst h
      refine ⟨?_, rfl, fun e => hn (.inr (.inl e)), Nat.le_of_not_lt fun e => hn (.inr (.inr e))⟩
      exact Classical.byContradiction fun e => hn (.inl e)
  · rintro ⟨h1, h2, h3, h4⟩
    subst h2
    rw [if_neg]
    rintro (e | e | e)
    · exact e h1
    · exact h3 e
    · exact absurd h4 (Nat.not_le_of_lt e)

/-! ## gate.Parse -/
def fld (fs : List (List UInt8)) (i : Nat) : List UInt8 := fs.getD i []
open Classical in
noncomputable def readP (fs : List (List UInt8)) : Option OpP :=
  if fld fs 0 = vBegin ∧ fs.length = 3 then
    (if fld fs 1 = vAt ∨ fld fs 1 = vRo ∨ fld fs 1 = vRw then (unwordP (fld fs 2)).map fun t => ⟨1, decide (fld fs 1 = vAt) || decide (fld fs 1 = vRo), decide (fld fs 1 = vAt), false, t, [], [], [], 0⟩ else none)
  else if (fld fs 0 = vRscan ∨ fld fs 0 = vScan) ∧ fs.length = 4 then
    (unwordP (fld fs 1)).bind fun ky => (unwordP (fld fs 2)).bind fun hi => (numP (fld fs 3)).map fun (lm : Nat) => ⟨3, false, false, decide (fld fs 0 = vRscan), [], ky, hi, [], (lm : Int)⟩
  else if fld fs 0 = vGet ∧ fs.length = 2 then (unwordP (fld fs 1)).map fun ky => ⟨2, false, false, false, [], ky, [], [], 0⟩
  else if fld fs 0 = vPut ∧ fs.length = 3 then (unwordP (fld fs 1)).bind fun ky => (unwordP (fld fs 2)).map fun vl => ⟨4, false, false, false, [], ky, [], vl, 0⟩
  else if fld fs 0 = vDel ∧ fs.length = 2 then (unwordP (fld fs 1)).map fun ky => ⟨5, false, false, false, [], ky, [], [], 0⟩
  else if fld fs 0 = vCommit ∧ fs.length = 1 then some ⟨6, false, false, false, [], [], [], [], 0⟩
  else if fld fs 0 = vAbort ∧ fs.length = 1 then some ⟨7, false, false, false, [], [], [], [], 0⟩
  else none
noncomputable def parseP (s : List UInt8) : Option OpP := if big s.length then none else readP (splitSp s)

theorem len1 {fs : List (List UInt8)} (h : fs.length = 1) : fs = [fld fs 0] := by
  match fs, h with
  | [a], _ => rfl
theorem len2 {fs : List (List UInt8)} (h : fs.length = 2) : fs = [fld fs 0, fld fs 1] := by
  match fs, h with
  | [a, b], _ => rfl
theorem len3 {fs : List (List UInt8)} (h : fs.length = 3) : fs = [fld fs 0, fld fs 1, fld fs 2] := by
  match fs, h with
  | [a, b, c], _ => rfl
theorem len4 {fs : List (List UInt8)} (h : fs.length = 4) : fs = [fld fs 0, fld fs 1, fld fs 2, fld fs 3] := by
  match fs, h with
  | [a, b, c, d], _ => rfl

/-- what is read writes the fields again -/
theorem readP_writes {fs : List (List UInt8)} {o : OpP} (h : readP fs = some o) : o = bareP o ∧ lineP o = joinSp fs ∧ lineP o ≠ [] := by
  unfold readP at h
  split at h
  · rename_i hc
    rw [len3 hc.2]
    split at h
    · rename_i hm
      simp only [Option.map_eq_some_iff] at h
      obtain ⟨t, ht, rfl⟩ := h
      have hw := unwordP_iff.1 ht
      rcases hm with e | e | e <;> (rw [hc.1, e]; simp [bareP, lineP, joinSp, hw])
    · cases h
  split at h
  · rename_i _ hc
    rw [len4 hc.2]
    simp only [Option.bind_eq_some_iff, Option.map_eq_some_iff] at h
    obtain ⟨ky, h1, hi, h2, lm, h3, rfl⟩ := h
    have w1 := unwordP_iff.1 h1
    have w2 := unwordP_iff.1 h2
    have w3 := numP_dec h3
    have hlm : ¬ ((lm : Nat) : Int) < 0 := by omega
    rcases hc.1 with e | e <;> (rw [e]; simp [bareP, lineP, joinSp, w1, w2, w3, hlm])
  split at h
  · rename_i _ _ hc
    rw [len2 hc.2]
    simp only [Option.map_eq_some_iff] at h
    obtain ⟨ky, h1, rfl⟩ := h
    have w1 := unwordP_iff.1 h1
    rw [hc.1]
    simp [bareP, lineP, joinSp, w1]
  split at h
  · rename_i _ _ _ hc
    rw [len3 hc.2]
    simp only [Option.bind_eq_some_iff, Option.map_eq_some_iff] at h
    obtain ⟨ky, h1, vl, h2, rfl⟩ := h
    have w1 := unwordP_iff.1 h1
    have w2 := unwordP_iff.1 h2
    rw [hc.1]
    simp [bareP, lineP, joinSp, w1, w2]
  split at h
  · rename_i _ _ _ _ hc
    rw [len2 hc.2]
    simp only [Option.map_eq_some_iff] at h
    obtain ⟨ky, h1, rfl⟩ := h
    have w1 := unwordP_iff.1 h1
    rw [hc.1]
    simp [bareP, lineP, joinSp, w1]
  split at h
  · rename_i _ _ _ _ _ hc
    rw [len1 hc.2]
    simp only [Option.some.injEq] at h
    subst h
    rw [hc.1]
    simp [bareP, lineP, joinSp]
  split at h
  · rename_i _ _ _ _ _ _ hc
    rw [len1 hc.2]
    simp only [Option.some.injEq] at h
    subst h
    rw [hc.1]
    simp [bareP, lineP, joinSp]
  · cases h

/-- the fields of an operation's line -/
def fieldsP (o : OpP) : List (List UInt8) :=
  if o.k = 1 then (if o.ao = true then [vBegin, vAt, wordB o.tk] else if o.ro = true then [vBegin, vRo, wordB o.tk] else [vBegin, vRw, wordB o.tk])
  else if o.k = 2 then [vGet, wordB o.ky]
  else if o.k = 5 then [vDel, wordB o.ky]
  else if o.k = 4 then [vPut, wordB o.ky, wordB o.vl]
  else if o.k = 3 then [if o.bk = true then vRscan else vScan, wordB o.ky, wordB o.hi, Lib.decDigits o.lm.toNat]
  else if o.k = 6 then [vCommit]
  else [vAbort]
theorem split_line {o : OpP} (h : lineP o ≠ []) : splitSp (lineP o) = fieldsP o := by
  unfold lineP at h ⊢
  unfold fieldsP
  split
  · split
    · split
      · rw [splitSp_app _ (by decide), splitSp_app _ (by decide), splitSp_plain (blank_word _)]
      · rename_i h1 h2 h3
        rw [if_pos h1, if_pos h2, if_neg h3] at h
        exact absurd rfl h
    · split <;> rw [splitSp_app _ (by decide), splitSp_app _ (by decide), splitSp_plain (blank_word _)]
  split
  · rw [splitSp_app _ (by decide), splitSp_plain (blank_word _)]
  split
  · rw [splitSp_app _ (by decide), splitSp_plain (blank_word _)]
  split
  · rw [splitSp_app _ (by decide), splitSp_app _ (blank_word _), splitSp_plain (blank_word _)]
  split
  · split
    · rename_i h1 h2 h3 h4 h5 h6
      rw [if_neg h1, if_neg h2, if_neg h3, if_neg h4, if_pos h5, if_pos h6] at h
      exact absurd rfl h
    · split <;> rw [splitSp_app _ (by decide), splitSp_app _ (blank_word _), splitSp_app _ (blank_word _), splitSp_plain (blank_dec _)]
  split
  · rw [splitSp_plain (by decide)]
  split
  · rw [splitSp_plain (by decide)]
  · rename_i h1 h2 h3 h4 h5 h6 h7
    rw [if_neg h1, if_neg h2, if_neg h3, if_neg h4, if_neg h5, if_neg h6, if_neg h7] at h
    exact absurd rfl h
theorem kinds_of_line {o : OpP} (h : lineP o ≠ []) : o.k = 1 ∨ o.k = 2 ∨ o.k = 3 ∨ o.k = 4 ∨ o.k = 5 ∨ o.k = 6 ∨ o.k = 7 := by
  unfold lineP at h
  repeat' split at h
  all_goals first
    | exact absurd rfl h
    | omega
theorem line_limit {o : OpP} (h : lineP o ≠ []) (hk : o.k = 3) : 0 ≤ o.lm := by
  unfold lineP at h
  rw [if_neg (by omega), if_neg (by omega), if_neg (by omega), if_neg (by omega), if_pos hk] at h
  split at h
  · exact absurd rfl h
  · omega
theorem line_at {o : OpP} (h : lineP o ≠ []) (hk : o.k = 1) (ha : o.ao = true) : o.ro = true := by
  unfold lineP at h
  rw [if_pos hk, if_pos ha] at h
  split at h
  · assumption
  · exact absurd rfl h

theorem readP_line {o : OpP} (hb : o = bareP o) (hl : lineP o ≠ []) (hlm : o.lm < 9223372036854775808) : readP (fieldsP o) = some o := by
  rcases kinds_of_line hl with hk | hk | hk | hk | hk | hk | hk
  · have ha := line_at hl hk
    obtain ⟨k, ro, ao, bk, tk, ky, hi, vl, lm⟩ := o
    simp only at hk ha
    subst hk
    simp [bareP] at hb
    obtain ⟨rfl, rfl, rfl, rfl, rfl⟩ := hb
    cases ao <;> cases ro <;> simp_all [fieldsP, readP, fld, unwordP_word]
  · obtain ⟨k, ro, ao, bk, tk, ky, hi, vl, lm⟩ := o
    simp only at hk
    subst hk
    simp [bareP] at hb
    obtain ⟨rfl, rfl, rfl, rfl, rfl, rfl, rfl⟩ := hb
    simp [fieldsP, readP, fld, unwordP_word]
  · have h0 := line_limit hl hk
    obtain ⟨k, ro, ao, bk, tk, ky, hi, vl, lm⟩ := o
    simp only at hk h0 hlm
    subst hk
    simp [bareP] at hb
    obtain ⟨rfl, rfl, rfl, rfl⟩ := hb
    have hn : numP (Lib.decDigits lm.toNat) = some lm.toNat := numP_of (by show ((lm.toNat : Nat) : Int) < 9223372036854775808; omega) rfl
    have ht : ((lm.toNat : Nat) : Int) = lm := by omega
    cases bk <;> simp [fieldsP, readP, fld, unwordP_word, hn, ht]
  · obtain ⟨k, ro, ao, bk, tk, ky, hi, vl, lm⟩ := o
    simp only at hk
    subst hk
    simp [bareP] at hb
    obtain ⟨rfl, rfl, rfl, rfl, rfl, rfl⟩ := hb
    simp [fieldsP, readP, fld, unwordP_word]
  · obtain ⟨k, ro, ao, bk, tk, ky, hi, vl, lm⟩ := o
    simp only at hk
    subst hk
    simp [bareP] at hb
    obtain ⟨rfl, rfl, rfl, rfl, rfl, rfl, rfl⟩ := hb
    simp [fieldsP, readP, fld, unwordP_word]
  · obtain ⟨k, ro, ao, bk, tk, ky, hi, vl, lm⟩ := o
    simp only at hk
    subst hk
    simp [bareP] at hb
    obtain ⟨rfl, rfl, rfl, rfl, rfl, rfl, rfl, rfl⟩ := hb
    simp [fieldsP, readP, fld]
  · obtain ⟨k, ro, ao, bk, tk, ky, hi, vl, lm⟩ := o
    simp only at hk
    subst hk
    simp [bareP] at hb
    obtain ⟨rfl, rfl, rfl, rfl, rfl, rfl, rfl, rfl⟩ := hb
    simp [fieldsP, readP, fld]

theorem readP_lm {fs : List (List UInt8)} {o : OpP} (h : readP fs = some o) : o.lm < 9223372036854775808 := by
  unfold readP at h
  repeat' split at h
  all_goals first
    | (cases h; done)
    | (simp only [Option.map_eq_some_iff] at h; obtain ⟨_, _, rfl⟩ := h; simp; done)
    | (simp only [Option.some.injEq] at h; subst h; simp; done)
    | (simp only [Option.bind_eq_some_iff, Option.map_eq_some_iff] at h; obtain ⟨_, _, _, _, rfl⟩ := h; simp; done)
    | (simp only [Option.bind_eq_some_iff, Option.map_eq_some_iff] at h; obtain ⟨_, _, _, _, n, hn, rfl⟩ := h; have := numP_fits hn; simp only; omega)

/-- what gate.Parse reads out of a line is the operation that writes it -/
theorem parse_spec {s : List UInt8} {o : OpP} : parseP s = some o ↔ requestP o = some s ∧ o.lm < 9223372036854775808 := by
  rw [requestP_iff]
  unfold parseP
  constructor
  · intro h
    split at h
    · cases h
    · obtain ⟨h1, h2, h3⟩ := readP_writes h
      rw [join_split] at h2
      rename_i hs
      exact ⟨⟨h1, h2, by rw [← h2]; exact h3, Nat.le_of_not_lt hs⟩, readP_lm h⟩
  · rintro ⟨⟨h1, rfl, h3, h4⟩, h5⟩
    rw [if_neg (show ¬ big _ from Nat.not_lt_of_le h4), split_line h3]
    exact readP_line h1 h3 h5
end Go.Proofs.YtconkncoohcdfaaDoor
