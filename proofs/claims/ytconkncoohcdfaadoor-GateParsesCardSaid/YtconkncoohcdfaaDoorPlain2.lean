/- Plain laws, no program in sight: what the document's lenient reading gives back of a word, of a numeral, of a line that some operation writes. -/
import Derived.Test.YtconkncoohcdfaaDoorPlain
namespace Go.Proofs.YtconkncoohcdfaaDoor
set_option linter.unusedSimpArgs false
set_option linter.unusedVariables false
set_option maxRecDepth 100000

def digV (c : UInt8) : Nat := if 48 ≤ c.toNat ∧ c.toNat ≤ 57 then c.toNat - 48 else if 97 ≤ c.toNat ∧ c.toNat ≤ 102 then c.toNat - 87 else 16
def decL : List UInt8 → List UInt8
  | [] => []
  | [a] => [a]
  | [a, b] => [a, b]
  | a :: b :: c :: r => if a = 37 then UInt8.ofNat (digV b * 16 + digV c) :: decL r else a :: decL (b :: c :: r)
theorem decL_plain {a : UInt8} {r : List UInt8} (h : a ≠ 37 ∨ r.length < 2) : decL (a :: r) = a :: decL r := by
  match r, h with
  | [], _ => rfl
  | [b], _ => rfl
  | b :: c :: r, h =>
    have ha : a ≠ 37 := h.resolve_right (by simp)
    conv => lhs; unfold decL
    rw [if_neg ha]
theorem decL_esc (b c : UInt8) (r : List UInt8) : decL (37 :: b :: c :: r) = UInt8.ofNat (digV b * 16 + digV c) :: decL r := by
  conv => lhs; unfold decL
  rw [if_pos rfl]
theorem digV_hexD (n : Nat) (h : n < 16) : digV (hexD n) = n := by
  have h1 := hexD_num n h
  unfold digV
  split at h1
  · rw [if_pos ⟨by omega, by omega⟩]; omega
  · rw [if_neg (by omega), if_pos ⟨by omega, by omega⟩]; omega
theorem digV_lt (c : UInt8) : digV c ≤ 16 := by unfold digV; split <;> (try split) <;> omega
theorem decL_word : ∀ t : List UInt8, decL (wordL t) = t
  | [] => rfl
  | c :: t => by
    have hcl := c.toNat_lt
    rw [wordL_cons]
    by_cases hc : itselfB c = true
    · have h37 : c ≠ 37 := fun e => by rw [e, not_itself_37] at hc; cases hc
      rw [escB_cons c hc, List.cons_append, List.nil_append, decL_plain (.inl h37), decL_word t]
    · rw [escB_esc c (by simpa using hc)]
      simp only [List.cons_append, List.nil_append]
      rw [decL_esc, digV_hexD _ (by omega), digV_hexD _ (by omega), decL_word t]
      congr 1
      apply UInt8.toNat_inj.1
      rw [UInt8.toNat_ofNat']
      omega
/-- what the lenient reading takes for the text -/
def unR (w : List UInt8) : List UInt8 := if w = [37] then [] else decL w
theorem unR_word (t : List UInt8) : unR (wordB t) = t := by
  unfold unR wordB
  split
  · rename_i h
    rw [if_pos rfl, h]
  · rw [if_neg (wordL_ne_37 t), decL_word]
theorem unwordP_unR (w : List UInt8) : unwordP w = if wordB (unR w) = w then some (unR w) else none := by
  split
  · rename_i h
    exact unwordP_iff.2 h
  · rename_i h
    cases hu : unwordP w with
    | none => rfl
    | some t =>
      have ht := unwordP_iff.1 hu
      have : unR w = t := by rw [← ht, unR_word]
      rw [this] at h
      exact absurd ht h

/-- the digits added up, round the end where it must -/
def numW (l : List UInt8) : Int := l.foldl (fun v c => (v * 10 + (c.toNat : Int) - 48) % 18446744073709551616) 0
theorem numW_snoc (l : List UInt8) (c : UInt8) : numW (l ++ [c]) = (numW l * 10 + (c.toNat : Int) - 48) % 18446744073709551616 := by simp [numW]
theorem numW_range (l : List UInt8) : 0 ≤ numW l ∧ numW l < 18446744073709551616 := by
  rcases List.eq_nil_or_concat l with rfl | ⟨a, c, rfl⟩
  · exact ⟨by decide, by decide⟩
  · rw [List.concat_eq_append, numW_snoc]
    omega
theorem numW_dec : ∀ u : Nat, (u : Int) < 9223372036854775808 → numW (Lib.decDigits u) = u := by
  intro u
  induction u using Nat.strongRecOn with
  | _ u ih =>
    intro hu
    have hd : ((digB u).toNat : Int) = 48 + ((u % 10 : Nat) : Int) := by
      unfold digB
      rw [UInt8.toNat_ofNat']
      omega
    rw [decPre_eq, numW_snoc, hd]
    unfold decPre
    split
    · rw [show numW [] = 0 from rfl]
      omega
    · rw [ih _ (by omega) (by omega)]
      omega
/-- the number as an int -/
def sgn (v : Int) : Int := if v < 9223372036854775808 then v else v - 18446744073709551616
def numR (fs : List (List UInt8)) : Int := if 3 < fs.length then sgn (numW (fld fs 3)) else 0
theorem numR_lt (fs : List (List UInt8)) : numR fs < 9223372036854775808 := by
  unfold numR
  split
  · have := numW_range (fld fs 3)
    unfold sgn
    split <;> omega
  · decide
noncomputable def unr (fs : List (List UInt8)) (i : Nat) : List UInt8 := if i < fs.length then (unwordP (fld fs i)).getD [] else []

noncomputable def guessP (fs : List (List UInt8)) : OpP :=
  if fld fs 0 = vBegin then
    ⟨1, (decide (1 < fs.length) && decide (fld fs 1 = vAt)) || (decide (1 < fs.length) && decide (fld fs 1 = vRo)), decide (1 < fs.length) && decide (fld fs 1 = vAt), false, unr fs 2, [], [], [], 0⟩
  else if fld fs 0 = vGet then ⟨2, false, false, false, [], unr fs 1, [], [], 0⟩
  else if fld fs 0 = vDel then ⟨5, false, false, false, [], unr fs 1, [], [], 0⟩
  else if fld fs 0 = vPut then ⟨4, false, false, false, [], unr fs 1, [], unr fs 2, 0⟩
  else if fld fs 0 = vScan ∨ fld fs 0 = vRscan then ⟨3, false, false, decide (fld fs 0 = vRscan), [], unr fs 1, unr fs 2, [], numR fs⟩
  else if fld fs 0 = vCommit then ⟨6, false, false, false, [], [], [], [], 0⟩
  else if fld fs 0 = vAbort then ⟨7, false, false, false, [], [], [], [], 0⟩
  else ⟨0, false, false, false, [], [], [], [], 0⟩
theorem guessP_lm (fs : List (List UInt8)) : (guessP fs).lm < 9223372036854775808 := by
  unfold guessP
  repeat' split
  all_goals first
    | exact numR_lt fs
    | (simp; done)

theorem guessP_line {o : OpP} (hb : o = bareP o) (hl : lineP o ≠ []) (hlm : o.lm < 9223372036854775808) : guessP (fieldsP o) = o := by
  rcases kinds_of_line hl with hk | hk | hk | hk | hk | hk | hk
  · have ha := line_at hl hk
    obtain ⟨k, ro, ao, bk, tk, ky, hi, vl, lm⟩ := o
    simp only at hk ha
    subst hk
    simp [bareP] at hb
    obtain ⟨rfl, rfl, rfl, rfl, rfl⟩ := hb
    cases ao <;> cases ro <;> simp_all [fieldsP, guessP, fld, unr, unwordP_word]
  · obtain ⟨k, ro, ao, bk, tk, ky, hi, vl, lm⟩ := o
    simp only at hk
    subst hk
    simp [bareP] at hb
    obtain ⟨rfl, rfl, rfl, rfl, rfl, rfl, rfl⟩ := hb
    simp [fieldsP, guessP, fld, unr, unwordP_word]
  · have h0 := line_limit hl hk
    obtain ⟨k, ro, ao, bk, tk, ky, hi, vl, lm⟩ := o
    simp only at hk h0 hlm
    subst hk
    simp [bareP] at hb
    obtain ⟨rfl, rfl, rfl, rfl⟩ := hb
    have ht : ((lm.toNat : Nat) : Int) = lm := by omega
    have hn : numW (Lib.decDigits lm.toNat) = lm := by rw [numW_dec _ (by omega)]; exact ht
    have hs : sgn lm = lm := by unfold sgn; rw [if_pos hlm]
    cases bk <;> simp [fieldsP, guessP, fld, unr, unwordP_word, numR, hn, hs]
  · obtain ⟨k, ro, ao, bk, tk, ky, hi, vl, lm⟩ := o
    simp only at hk
    subst hk
    simp [bareP] at hb
    obtain ⟨rfl, rfl, rfl, rfl, rfl, rfl⟩ := hb
    simp [fieldsP, guessP, fld, unr, unwordP_word]
  · obtain ⟨k, ro, ao, bk, tk, ky, hi, vl, lm⟩ := o
    simp only at hk
    subst hk
    simp [bareP] at hb
    obtain ⟨rfl, rfl, rfl, rfl, rfl, rfl, rfl⟩ := hb
    simp [fieldsP, guessP, fld, unr, unwordP_word]
  · obtain ⟨k, ro, ao, bk, tk, ky, hi, vl, lm⟩ := o
    simp only at hk
    subst hk
    simp [bareP] at hb
    obtain ⟨rfl, rfl, rfl, rfl, rfl, rfl, rfl, rfl⟩ := hb
    simp [fieldsP, guessP, fld]
  · obtain ⟨k, ro, ao, bk, tk, ky, hi, vl, lm⟩ := o
    simp only at hk
    subst hk
    simp [bareP] at hb
    obtain ⟨rfl, rfl, rfl, rfl, rfl, rfl, rfl, rfl⟩ := hb
    simp [fieldsP, guessP, fld]

open Classical in
/-- the document's Parse -/
noncomputable def parseR (s : List UInt8) : Option OpP := if big s.length then none else if requestP (guessP (splitSp s)) = some s then some (guessP (splitSp s)) else none
theorem parseR_eq (s : List UInt8) : parseR s = parseP s := by
  unfold parseR
  split
  · rename_i h
    unfold parseP
    rw [if_pos h]
  · split
    · rename_i h
      exact (parse_spec.2 ⟨h, guessP_lm _⟩).symm
    · rename_i h
      cases hp : parseP s with
      | none => rfl
      | some o =>
        obtain ⟨h1, h2⟩ := parse_spec.1 hp
        obtain ⟨hb, hl, hne, _⟩ := requestP_iff.1 h1
        have : guessP (splitSp s) = o := by
          rw [← hl, split_line (by rw [hl]; exact hne), guessP_line hb (by rw [hl]; exact hne) h2]
        rw [this] at h
        exact absurd h1 h

/-- what gate.Request writes ahead of its test -/
def writtenP (o : OpP) : List UInt8 :=
  if o.k = 1 then vBegin ++ 32 :: ((if o.ao = true then vAt else if o.ro = true then vRo else vRw) ++ 32 :: wordB o.tk)
  else if o.k = 2 then vGet ++ 32 :: wordB o.ky
  else if o.k = 3 then (if o.bk = true then vRscan else vScan) ++ 32 :: (wordB o.ky ++ 32 :: (wordB o.hi ++ 32 :: Lib.itoa o.lm))
  else if o.k = 4 then vPut ++ 32 :: (wordB o.ky ++ 32 :: wordB o.vl)
  else if o.k = 5 then vDel ++ 32 :: wordB o.ky
  else if o.k = 6 then vCommit
  else if o.k = 7 then vAbort
  else []
theorem written_line {o : OpP} (h : lineP o ≠ []) : writtenP o = lineP o := by
  have h1 := @line_at o h
  have h3 := @line_limit o h
  rcases kinds_of_line h with hk | hk | hk | hk | hk | hk | hk
  · have h1 := h1 hk
    cases ha : o.ao <;> cases hr : o.ro <;> simp_all [writtenP, lineP]
  · simp [writtenP, lineP, hk]
  · have h3 := h3 hk
    have hn : ¬ o.lm < 0 := by omega
    have ht : Lib.itoa o.lm = Lib.decDigits o.lm.toNat := by
      have : o.lm = (o.lm.toNat : Int) := by omega
      conv => lhs; rw [this]
      rw [Lib.itoa_nonneg]
    cases hb : o.bk <;> simp [writtenP, lineP, hk, hn, ht, hb]
  · simp [writtenP, lineP, hk]
  · simp [writtenP, lineP, hk]
  · simp [writtenP, lineP, hk]
  · simp [writtenP, lineP, hk]
open Classical in
/-- gate.Request -/
noncomputable def requestG (o : OpP) : Option (List UInt8) := if writtenP o = [] ∨ big (writtenP o).length then none else if parseP (writtenP o) = some o then some (writtenP o) else none
theorem requestG_eq (o : OpP) (hlm : o.lm < 9223372036854775808) : requestG o = requestP o := by
  unfold requestG
  cases hr : requestP o with
  | none =>
    split
    · rfl
    · split
      · rename_i h
        have := (parse_spec.1 h).1
        rw [hr] at this
        cases this
      · rfl
  | some s =>
    obtain ⟨hb, hl, hne, hle⟩ := requestP_iff.1 hr
    have hw : writtenP o = s := by rw [written_line (by rw [hl]; exact hne), hl]
    rw [hw, if_neg, if_pos (parse_spec.2 ⟨hr, hlm⟩)]
    rintro (e | e)
    · exact hne e
    · exact absurd hle (Nat.not_le_of_lt e)
end Go.Proofs.YtconkncoohcdfaaDoor
