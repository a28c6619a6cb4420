/- The plain law of the scanner: the program's reader and the reference's one read alike. No condition, no program in sight. -/
import Derived.Test.YtcogfalhodjmfaaGreatDoorLexRM
namespace Go.Proofs.YtcogfalhodjmfaaGreatDoor
open Kiln

/- THE REFERENCE's named and one -/
def namedO : Option (Bytes × List Bytes × Nat) → Rd
  | none => .error 44
  | some (t, pa, n) => .ok (2, t, pa, n)
def namedK (l : Bytes) : Nat := if letterB (atB l 0) then cntB wordB l else cntB signB l
def namedR (l : Bytes) : Rd := if resB (l.take (namedK l)) then .ok (1, l.take (namedK l), [], namedK l) else namedO (nameC [] 0 l)

def numR (l : Bytes) : Rd :=
  if 0 < cntB wordB (l.drop (numEnd l).1) then .error 43 else if 4096 < (numEnd l).1 then .error 2 else .ok ((numEnd l).2, l.take (numEnd l).1, [], (numEnd l).1)

def punctL : Bytes := [40, 41, 91, 93, 123, 125, 44, 59, 95]

def oneR (l : Bytes) : Rd :=
  if atB l 0 == 34 then quotedR 0 6 l
  else if atB l 0 == 35 && atB l 1 == 34 then quotedR 1 7 l
  else if digitB (atB l 0) || atB l 0 == 126 && digitB (atB l 1) then numR l
  else if atB l 0 == 39 then .ok (3, l.take (cntB wordB l), [], cntB wordB l)
  else if atB l 0 == 46 && atB l 1 == 46 && atB l 2 == 46 then .ok (1, [46, 46, 46], [], 3)
  else if punctL.contains (atB l 0) then .ok (1, l.take 1, [], 1)
  else if letterB (atB l 0) || signB (atB l 0) then namedR l
  else .error 40

/- facts on single bytes, by looking at all of them -/
theorem all_u8 {p : UInt8 → Bool} (h : ∀ n, n < 256 → p n.toUInt8 = true) (c : UInt8) : p c = true := by
  have := h c.toNat c.toNat_lt
  rwa [show c.toNat.toUInt8 = c by simp] at this

theorem letter_facts (c : UInt8) (h : letterB c = true) : (c == 34) = false ∧ (c == 35) = false ∧ digitB c = false ∧ (c == 126) = false ∧ (c == 39) = false ∧ (c == 46) = false ∧ punctL.contains c = false ∧ wordB c = true ∧ signB c = false := by
  have := all_u8 (p := fun c => !letterB c || ((!(c == 34)) && (!(c == 35)) && (!digitB c) && (!(c == 126)) && (!(c == 39)) && (!(c == 46)) && (!punctL.contains c) && wordB c && !signB c)) (by decide +kernel) c
  simp only [h, Bool.not_true, Bool.false_or, Bool.and_eq_true, Bool.not_eq_true'] at this
  obtain ⟨⟨⟨⟨⟨⟨⟨⟨a, b⟩, c⟩, d⟩, e⟩, f⟩, g⟩, i⟩, j⟩ := this
  exact ⟨a, b, c, d, e, f, g, i, j⟩

theorem digit_facts (c : UInt8) (h : digitB c = true) : letterB c = false ∧ (c == 34) = false ∧ (c == 35) = false ∧ signB c = false := by
  have := all_u8 (p := fun c => !digitB c || ((!letterB c) && (!(c == 34)) && (!(c == 35)) && (!signB c))) (by decide +kernel) c
  simp only [h, Bool.not_true, Bool.false_or, Bool.and_eq_true, Bool.not_eq_true'] at this
  obtain ⟨⟨⟨a, b⟩, c⟩, d⟩ := this
  exact ⟨a, b, c, d⟩

theorem sign_facts (c : UInt8) (h : signB c = true) : letterB c = false ∧ digitB c = false ∧ (c == 34) = false ∧ (c == 39) = false ∧ (c == 46) = false ∧ punctL.contains c = false := by
  have := all_u8 (p := fun c => !signB c || ((!letterB c) && (!digitB c) && (!(c == 34)) && (!(c == 39)) && (!(c == 46)) && (!punctL.contains c))) (by decide +kernel) c
  simp only [h, Bool.not_true, Bool.false_or, Bool.and_eq_true, Bool.not_eq_true'] at this
  obtain ⟨⟨⟨⟨⟨a, b⟩, c⟩, d⟩, e⟩, f⟩ := this
  exact ⟨a, b, c, d, e, f⟩

theorem punct_res (c : UInt8) (h1 : letterB c = false) (h2 : signB c = false) : resB [c] = punctL.contains c := by
  have := all_u8 (p := fun c => letterB c || signB c || (resB [c] == punctL.contains c)) (by decide +kernel) c
  simpa [h1, h2] using this

theorem atB_cons (l : Bytes) (h : l ≠ []) : l = atB l 0 :: l.drop 1 := by
  cases l with
  | nil => exact absurd rfl h
  | cons c l => rfl

theorem cnt_atB {p : UInt8 → Bool} (h0 : p 0 = false) (l : Bytes) : decide (0 < cntB p l) = p (atB l 0) := by
  cases l with
  | nil => rw [show atB [] 0 = 0 from rfl, h0]; rfl
  | cons c l => rw [show atB (c :: l) 0 = c from rfl]; cases h : p c <;> simp [cntB, h]

theorem num_eq (l : Bytes) : numberP l = numR l := by
  have h := cnt_atB (p := wordB) (by decide) (l.drop (numEnd l).1)
  rw [atB_add] at h
  simp only [Nat.add_zero] at h
  unfold numberP numR
  simp only []
  rw [← h]
  by_cases h1 : 0 < cntB wordB (l.drop (numEnd l).1) <;> simp [h1]

theorem nameC_word {l : Bytes} (h : letterB (atB l 0) = true) (path : List Bytes) (n : Nat) : nameC path n l =
    if resB (l.take (cntB wordB l)) then none
    else if atB l (cntB wordB l) != 46 then some (l.take (cntB wordB l), path, n + cntB wordB l)
    else nameC (path ++ [l.take (cntB wordB l)]) (n + cntB wordB l + 1) (l.drop (cntB wordB l + 1)) := by
  obtain ⟨_, _, hd, _, _, _, _, hw, _⟩ := letter_facts _ h
  have hk : 0 < cntB wordB l := cnt_pos hw (by decide)
  have hwd : nWd l = true := by unfold nWd; rw [h]; simpa using hk
  have hK : nK l = cntB wordB l := by unfold nK; rw [if_pos hwd]
  rw [nameC_eq, hK, hwd, hd]
  have h0 : decide (cntB wordB l = 0) = false := by rw [decide_eq_false_iff_not]; omega
  simp [h0]

theorem nameC_sign {l : Bytes} (h : letterB (atB l 0) = false) (path : List Bytes) (n : Nat) : nameC path n l =
    if cntB signB l = 0 || resB (l.take (cntB signB l)) then none else some (l.take (cntB signB l), path, n + cntB signB l) := by
  have hwd : nWd l = false := by unfold nWd; rw [h]; simp
  have hK : nK l = cntB signB l := by unfold nK; rw [if_neg (by simp [hwd])]
  rw [nameC_eq, hK, hwd]
  by_cases h0 : cntB signB l = 0
  · simp [h0]
  · have hs : signB (atB l 0) = true := by rw [← cnt_atB (p := signB) (by decide)]; simp; omega
    obtain ⟨_, hd, _⟩ := sign_facts _ hs
    rw [hd]; simp

theorem word_eq : ∀ (f : Nat) (path : List Bytes) (n : Nat) (l : Bytes), l.length < f → letterB (atB l 0) = true →
    wordP f path n l = if resB (l.take (cntB wordB l)) && path.isEmpty then .ok (1, l.take (cntB wordB l), [], n + cntB wordB l) else namedO (nameC path n l)
  | 0, _, _, _, h, _ => by omega
  | f + 1, path, n, l, hf, h => by
    rw [nameC_word h]
    simp only [wordP]
    by_cases hr : resB (l.take (cntB wordB l)) = true
    · rw [hr]
      cases path with
      | nil => simp
      | cons a p => simp [namedO]
    · have hr : resB (l.take (cntB wordB l)) = false := by simpa using hr
      rw [hr]
      simp only [Bool.false_eq_true, if_false, Bool.false_and]
      by_cases h46 : (atB l (cntB wordB l) == 46) = true
      · have hne : (atB l (cntB wordB l) != 46) = false := by simpa using h46
        have hlt := atB_len (l := l) (k := cntB wordB l) (c := 46) (by simpa using h46) (by decide)
        rw [if_pos h46, hne, if_neg Bool.false_ne_true]
        generalize hL : l.drop (cntB wordB l + 1) = r
        have hlr : r.length < f := by rw [← hL, List.length_drop]; omega
        by_cases hlt : letterB (atB r 0) = true
        · rw [if_pos hlt, word_eq f _ _ r hlr hlt]
          simp
        · have hlt : letterB (atB r 0) = false := by simpa using hlt
          rw [if_neg (ne_true_of_eq_false hlt), nameC_sign hlt]
          by_cases hg : (decide (cntB signB r = 0) || resB (r.take (cntB signB r))) = true
          · rw [if_pos hg, if_pos hg]; rfl
          · rw [if_neg hg, if_neg hg]; rfl
      · have h46' : (atB l (cntB wordB l) == 46) = false := by simpa using h46
        have hne : (atB l (cntB wordB l) != 46) = true := by simpa using h46
        rw [if_neg h46, hne, if_pos rfl]; rfl

theorem charR_eq (l : Bytes) : charP l = quotedR 1 7 l := by
  unfold charP quotedR quotedC
  simp only [show 1 + 1 = 2 from rfl]
  rw [quotedP_fuel (l.length + 1) ((l.drop 2).length + 1) _ _ _ (by rw [List.length_drop]; omega) (by omega)]
  generalize quotedP ((l.drop 2).length + 1) (l.drop 2) [] 2 = r
  cases r with
  | none => rfl
  | some p =>
    obtain ⟨t, n⟩ := p
    show (if t.length = 1 then _ else (.error 42 : Rd)) = if 7 = 7 ∧ t.length ≠ 1 then (.error 42 : Rd) else _
    by_cases h : t.length = 1
    · rw [if_pos h, if_neg (fun e => e.2 h), if_neg (by omega)]
    · rw [if_neg h, if_pos ⟨rfl, h⟩]

theorem textR_eq (l : Bytes) : textP l = quotedR 0 6 l := by
  unfold textP quotedR quotedC
  simp only [show 0 + 1 = 1 from rfl]
  rw [quotedP_fuel (l.length + 1) ((l.drop 1).length + 1) _ _ _ (by rw [List.length_drop]; omega) (by omega)]
  generalize quotedP ((l.drop 1).length + 1) (l.drop 1) [] 1 = r
  cases r with
  | none => rfl
  | some p =>
    obtain ⟨t, n⟩ := p
    exact (if_neg (t := (.error 42 : Rd)) (fun e : 6 = 7 ∧ t.length ≠ 1 => absurd e.1 (by decide))).symm

theorem read_one (l : Bytes) : readP l = oneR l := by
  by_cases hl : letterB (atB l 0) = true
  · obtain ⟨h34, h35, hd, h126, h39, h46, hp, hw, _⟩ := letter_facts _ hl
    unfold readP oneR namedR namedK
    simp only [hl, h34, h35, hd, h126, h39, h46, hp, Bool.false_and, Bool.or_false, Bool.true_or, Bool.false_eq_true, if_false, if_true]
    rw [word_eq _ _ _ _ (by omega) hl]
    simp
  have hl : letterB (atB l 0) = false := by simpa using hl
  by_cases hd : digitB (atB l 0) = true
  · obtain ⟨_, h34, h35, _⟩ := digit_facts _ hd
    unfold readP oneR
    simp only [hl, h34, h35, hd, Bool.false_and, Bool.true_or, Bool.false_eq_true, if_false, if_true]
    exact num_eq l
  have hd : digitB (atB l 0) = false := by simpa using hd
  by_cases hs : signB (atB l 0) = true
  · obtain ⟨_, _, h34, h39, h46, hp⟩ := sign_facts _ hs
    unfold readP oneR signP
    simp only [hl, hd, hs, h34, h39, h46, hp, Bool.or_true, Bool.false_or, Bool.false_and, Bool.false_eq_true, if_false, if_true]
    rw [pre2 l 35 34 (by decide) (by decide)]
    have hq : (atB l 0 == 126 && digitB (atB l 1)) = true → (atB l 0 == 35 && atB l 1 == 34) = false := by
      intro h; simp only [Bool.and_eq_true, beq_iff_eq] at h; rw [h.1]; rfl
    by_cases h1 : (atB l 0 == 126 && digitB (atB l 1)) = true
    · rw [if_pos h1, hq h1, if_neg Bool.false_ne_true, if_pos h1]; exact num_eq l
    · rw [if_neg h1]
      by_cases h2 : (atB l 0 == 35 && atB l 1 == 34) = true
      · rw [if_pos h2, if_pos h2]; exact charR_eq l
      · rw [if_neg h2, if_neg h2, if_neg h1]
        unfold namedR namedK
        rw [hl, nameC_sign hl]
        have hk : 0 < cntB signB l := cnt_pos hs (by decide)
        have h0 : decide (cntB signB l = 0) = false := by rw [decide_eq_false_iff_not]; omega
        simp only [h0, Bool.false_or, Bool.false_eq_true, if_false]
        by_cases hr : resB (l.take (cntB signB l)) = true
        · rw [if_pos hr, if_pos hr]
        · rw [if_neg hr, if_neg hr, if_neg hr]; simp [namedO]
  have hs : signB (atB l 0) = false := by simpa using hs
  have h126 : (atB l 0 == 126) = false := by
    rw [beq_eq_false_iff_ne]; intro e; rw [e] at hs; revert hs; decide
  have h35 : (atB l 0 == 35) = false := by
    rw [beq_eq_false_iff_ne]; intro e; rw [e] at hs; revert hs; decide
  by_cases h34 : (atB l 0 == 34) = true
  · unfold readP oneR
    simp only [hl, hd, hs, h126, h34, Bool.or_false, Bool.false_eq_true, if_false, if_true]
    exact textR_eq l
  have h34 : (atB l 0 == 34) = false := by simpa using h34
  by_cases h39 : (atB l 0 == 39) = true
  · have hne : l ≠ [] := by rintro rfl; revert h39; decide
    have hk : cntB wordB l = 1 + cntB wordB (l.drop 1) := by
      conv => lhs; rw [atB_cons l hne]
      rw [show atB l 0 = 39 by simpa using h39]
      rw [show cntB wordB (39 :: l.drop 1) = cntB wordB (l.drop 1) + 1 from rfl]; omega
    unfold readP oneR tyvarP
    simp only [hl, hd, hs, h126, h34, h35, h39, Bool.or_false, Bool.false_and, Bool.false_eq_true, if_false, if_true]
    rw [hk]
  have h39 : (atB l 0 == 39) = false := by simpa using h39
  unfold readP oneR otherP
  simp only [hl, hd, hs, h126, h34, h35, h39, Bool.or_false, Bool.false_and, Bool.false_eq_true, if_false]
  by_cases hne : l = []
  · subst hne; rfl
  have hp3 : [46, 46, 46].isPrefixOf l = (atB l 0 == 46 && atB l 1 == 46 && atB l 2 == 46) := by
    match l with
    | [] => rfl
    | [a] => simp [List.isPrefixOf, atB]
    | [a, b] => simp [List.isPrefixOf, atB]
    | a :: b :: c :: l =>
      simp only [List.isPrefixOf, atB, List.getD_cons_zero, List.getD_cons_succ, Bool.and_true]
      rw [u8_comm 46 a, u8_comm 46 b, u8_comm 46 c, Bool.and_assoc]
  by_cases h3 : (atB l 0 == 46 && atB l 1 == 46 && atB l 2 == 46) = true
  · rw [hp3, if_pos h3, if_pos h3]
    have : l.take 3 = [46, 46, 46] := by
      simp only [Bool.and_eq_true, beq_iff_eq] at h3
      obtain ⟨⟨a, b⟩, c⟩ := h3
      match l with
      | [] => exact absurd rfl hne
      | [x] => simp [atB] at b
      | [x, y] => simp [atB] at c
      | x :: y :: z :: l => simp [atB] at a b c; rw [a, b, c]; rfl
    rw [this]; rfl
  · rw [hp3, if_neg h3, if_neg h3]
    have h1 : l.take 1 = [atB l 0] := by
      cases l with
      | nil => exact absurd rfl hne
      | cons c l => rfl
    rw [h1, punct_res _ hl hs]

end Go.Proofs.YtcogfalhodjmfaaGreatDoor
