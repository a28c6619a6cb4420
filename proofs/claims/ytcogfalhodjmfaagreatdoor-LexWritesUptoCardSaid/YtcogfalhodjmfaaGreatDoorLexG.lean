/- Plain laws of the scanner: a token is read the same wherever its bytes stand ahead of a blank or the end; what is written is read again. No program in sight. -/
import Derived.Test.YtcogfalhodjmfaaGreatDoorLexFi
import Derived.Test.YtcogfalhodjmfaaGreatDoorLexSz
namespace Go.Proofs.YtcogfalhodjmfaaGreatDoor
open Kiln

theorem all_u8G {p : UInt8 → Bool} (h : ∀ n, n < 256 → p n.toUInt8 = true) (c : UInt8) : p c = true := by
  have := h c.toNat c.toNat_lt
  rwa [show c.toNat.toUInt8 = c by simp] at this

theorem cnt_char {p : UInt8 → Bool} (h0 : p 0 = false) : ∀ {l : Bytes} {c : Nat}, (∀ i, i < c → p (atB l i) = true) → p (atB l c) = false → cntB p l = c
  | [], 0, _, _ => rfl
  | [], c + 1, h1, _ => by have := h1 0 (by omega); rw [show atB [] 0 = 0 from rfl, h0] at this; cases this
  | b :: l, 0, _, h2 => by simp [cntB, show p b = false from h2]
  | b :: l, c + 1, h1, h2 => by
    have hb : p b = true := h1 0 (by omega)
    have := cnt_char h0 (l := l) (c := c) (fun i hi => h1 (i + 1) (by omega)) h2
    simp [cntB, hb, this]
theorem cnt_in {p : UInt8 → Bool} : ∀ (l : Bytes) (i : Nat), i < cntB p l → p (atB l i) = true
  | [], i, h => by simp [cntB] at h
  | b :: l, i, h => by
    by_cases hb : p b = true
    · simp only [cntB, hb, if_true] at h
      cases i with
      | zero => exact hb
      | succ i => exact cnt_in l i (by omega)
    · simp [cntB, hb] at h
theorem cnt_stop {p : UInt8 → Bool} (h0 : p 0 = false) : ∀ (l : Bytes), p (atB l (cntB p l)) = false
  | [] => h0
  | b :: l => by
    by_cases hb : p b = true
    · simp only [cntB, hb, if_true]; exact cnt_stop h0 l
    · simp only [cntB, hb]; simpa [atB] using hb

def stopB (c : UInt8) : Bool := c == 0 || blankB c
theorem stop_facts (c : UInt8) (h : stopB c = true) : wordB c = false ∧ digitB c = false ∧ hexB c = false ∧ signB c = false ∧ letterB c = false ∧ (c == 46) = false ∧ (c == 69) = false ∧ (c == 101) = false ∧ (c == 126) = false ∧ (c == 120) = false ∧ (c == 48) = false ∧ (c == 34) = false ∧ (c == 42) = false := by
  have := all_u8G (p := fun c => !stopB c || (!wordB c && !digitB c && !hexB c && !signB c && !letterB c && !(c == 46) && !(c == 69) && !(c == 101) && !(c == 126) && !(c == 120) && !(c == 48) && !(c == 34) && !(c == 42))) (by decide +kernel) c
  simp only [h, Bool.not_true, Bool.false_or, Bool.and_eq_true, Bool.not_eq_true'] at this
  obtain ⟨⟨⟨⟨⟨⟨⟨⟨⟨⟨⟨⟨a, b⟩, c⟩, d⟩, e⟩, f⟩, g⟩, i⟩, j⟩, k⟩, l⟩, m⟩, o⟩ := this
  exact ⟨a, b, c, d, e, f, g, i, j, k, l, m, o⟩

/-- l' begins as l does, n bytes long, and then stops -/
structure Cut (n : Nat) (l l' : Bytes) : Prop where
  take : l'.take n = l.take n
  len : n ≤ l'.length
  lenl : n ≤ l.length
  stop : stopB (atB l' n) = true

theorem atB_take (l : Bytes) {n i : Nat} (h : i < n) : atB (l.take n) i = atB l i := by
  unfold atB
  rw [List.getD_eq_getElem?_getD, List.getD_eq_getElem?_getD, List.getElem?_take_of_lt h]

theorem Cut.same {n : Nat} {l l' : Bytes} (C : Cut n l l') {i : Nat} (h : i < n) : atB l' i = atB l i := by
  rw [← atB_take l' h, C.take, atB_take l h]

theorem Cut.drop {n : Nat} {l l' : Bytes} (C : Cut n l l') {j : Nat} (h : j ≤ n) : Cut (n - j) (l.drop j) (l'.drop j) := by
  refine ⟨?_, ?_, ?_, ?_⟩
  · have := C.take
    rw [show n = j + (n - j) by omega, List.take_add, List.take_add] at this
    exact (List.append_inj this (by rw [List.length_take, List.length_take, Nat.min_eq_left (Nat.le_trans h C.len), Nat.min_eq_left (Nat.le_trans h C.lenl)])).2
  · have := C.len; rw [List.length_drop]; omega
  · have := C.lenl; rw [List.length_drop]; omega
  · rw [atB_addF, show j + (n - j) = n by omega]; exact C.stop

theorem Cut.taken {n : Nat} {l l' : Bytes} (C : Cut n l l') {j : Nat} (h : j ≤ n) : l'.take j = l.take j := by
  have := congrArg (List.take j) C.take
  rwa [List.take_take, List.take_take, Nat.min_eq_left h] at this

theorem Cut.cnt {p : UInt8 → Bool} (h0 : p 0 = false) {n : Nat} {l l' : Bytes} (C : Cut n l l') (hs : p (atB l' n) = false) {j : Nat} (h : j + cntB p (l.drop j) ≤ n) : cntB p (l'.drop j) = cntB p (l.drop j) := by
  refine cnt_char h0 (fun i hi => ?_) ?_
  · rw [atB_addF, C.same (by omega), ← atB_addF]; exact cnt_in _ _ hi
  · rw [atB_addF]
    by_cases hlt : j + cntB p (l.drop j) < n
    · rw [C.same hlt, ← atB_addF]; exact cnt_stop h0 _
    · rw [show j + cntB p (l.drop j) = n by omega]; exact hs

theorem Cut.cnt0 {p : UInt8 → Bool} (h0 : p 0 = false) {n : Nat} {l l' : Bytes} (C : Cut n l l') (hs : p (atB l' n) = false) (h : cntB p l ≤ n) : cntB p l' = cntB p l := by
  have := C.cnt h0 hs (j := 0) (by simpa using h)
  simpa using this

theorem word_cut : ∀ (f g : Nat) (path : List Bytes) (m : Nat) (l l' : Bytes) {k : Nat} {t : Bytes} {pa : List Bytes} {n : Nat}, l'.length < g → wordP f path m l = .ok (k, t, pa, n) → Cut (n - m) l l' → wordP g path m l' = .ok (k, t, pa, n)
  | 0, _, _, _, _, _, _, _, _, _, _, h, _ => by simp [wordP] at h
  | _, 0, _, _, _, _, _, _, _, _, h, _, _ => by omega
  | f + 1, g + 1, path, m, l, l', k, t, pa, n, hg, h, C => by
    obtain ⟨sw, sd, sh, ss, sl, s46, _⟩ := stop_facts _ C.stop
    have hk := wordP_len _ _ _ _ h
    have hkl : cntB wordB l ≤ n - m := by omega
    simp only [wordP] at h ⊢
    rw [C.cnt0 (by decide) sw hkl, C.taken hkl]
    by_cases h1 : resB (l.take (cntB wordB l)) = true
    · rw [if_pos h1] at h ⊢; exact h
    rw [if_neg h1] at h ⊢
    by_cases h2 : (atB l (cntB wordB l) == 46) = true
    · rw [if_pos h2] at h
      have hlt : cntB wordB l < n - m := by
        split at h
        · have := (wordP_len _ _ _ _ h).1; omega
        · split at h
          · cases h
          · simp only [Except.ok.injEq, Prod.mk.injEq] at h; omega
      rw [C.same hlt, if_pos h2]
      have D := C.drop (j := cntB wordB l + 1) hlt
      have hgl : (l'.drop (cntB wordB l + 1)).length < g := by have := C.len; rw [List.length_drop]; omega
      generalize hr : l.drop (cntB wordB l + 1) = r at *
      generalize l'.drop (cntB wordB l + 1) = r' at *
      have hn0 : 0 < n - m - (cntB wordB l + 1) := by
        split at h
        · rename_i hlet
          have h3 := (wordP_len _ _ _ _ h).1
          have h4 : 0 < cntB wordB r := cnt_pos (by
            have := all_u8G (p := fun c => !letterB c || wordB c) (by decide +kernel) (atB r 0)
            simpa [hlet] using this) (by decide)
          omega
        · split at h
          · cases h
          · rename_i h5
            simp only [Bool.or_eq_true, decide_eq_true_eq, not_or] at h5
            simp only [Except.ok.injEq, Prod.mk.injEq] at h; omega
      rw [D.same hn0]
      by_cases h3 : letterB (atB r 0) = true
      · rw [if_pos h3] at h ⊢
        exact word_cut f g _ _ r r' hgl h (by rw [show n - (m + cntB wordB l + 1) = n - m - (cntB wordB l + 1) by omega]; exact D)
      · rw [if_neg h3] at h ⊢
        by_cases h4 : (decide (cntB signB r = 0) || resB (r.take (cntB signB r))) = true
        · rw [if_pos h4] at h; cases h
        · rw [if_neg h4] at h
          have hc : cntB signB r ≤ n - m - (cntB wordB l + 1) := by
            simp only [Except.ok.injEq, Prod.mk.injEq] at h; omega
          obtain ⟨_, _, _, ss', _⟩ := stop_facts _ D.stop
          rw [D.cnt0 (by decide) ss' hc, D.taken hc, if_neg h4]; exact h
    · rw [if_neg h2] at h
      have hn : n - m = cntB wordB l := by simp only [Except.ok.injEq, Prod.mk.injEq] at h; omega
      rw [if_neg (by rw [← hn, s46]; exact Bool.false_ne_true)]; exact h

theorem num_cut {l l' : Bytes} (hw : wordB (atB l (numEnd l).1) = false) (C : Cut (numEnd l).1 l l') (h1 : 1 ≤ (numEnd l).1) : numEnd l' = numEnd l := by
  obtain ⟨sw, sd, sh, ss, sl, s46, s69, s101, s126, s120, s48, _⟩ := stop_facts _ C.stop
  generalize hN : (numEnd l).1 = N at *
  revert hN
  unfold numEnd
  simp only []
  rw [C.same (show 0 < N by omega)]
  generalize hf : (if atB l 0 == 126 then 1 else 0 : Nat) = f
  have hf1 : f ≤ 1 := by rw [← hf]; split <;> omega
  by_cases hx : ([48, 120].isPrefixOf (l.drop f) && decide (0 < cntB hexB (l.drop (f + 2)))) = true
  · rw [if_pos hx]
    intro hN
    simp only at hN
    have hx' := hx
    simp only [Bool.and_eq_true, decide_eq_true_eq] at hx
    have hpre : [48, 120].isPrefixOf (l'.drop f) = true := by
      have h2 := hx.1
      rw [pre2F _ 48 120 (by decide) (by decide), atB_addF, atB_addF] at h2 ⊢
      rw [C.same (by omega), C.same (by omega)]; exact h2
    rw [C.cnt (by decide) sh (j := f + 2) (by omega), hpre]
    simp [hx.2]
  · rw [if_neg hx]
    generalize he : f + cntB digitB (l.drop f) = e0
    have hx' : ([48, 120].isPrefixOf (l.drop f) && decide (0 < cntB hexB (l.drop (f + 2)))) = false := eq_false_of_ne_true hx
    generalize hd : cntB digitB (l.drop (e0 + 1)) = d
    generalize hp : (if atB l e0 == 46 && decide (0 < d) then (e0 + 1 + d, 5) else (e0, 4) : Nat × Nat) = p
    generalize hM : p.1 + 1 + (if atB l (p.1 + 1) == 126 then 1 else 0 : Nat) = M
    generalize hE : cntB digitB (l.drop M) = E
    have hpe : e0 ≤ p.1 := by rw [← hp]; split <;> simp <;> omega
    intro hN
    have hE0 : (atB l p.1 == 69 || atB l p.1 == 101) = true → 0 < E := by
      intro hEe
      refine Classical.byContradiction fun h0 => ?_
      rw [if_neg (by simp [h0])] at hN
      rw [← hN] at hw
      simp only [Bool.or_eq_true, beq_iff_eq] at hEe
      rcases hEe with h | h <;> (rw [h] at hw; revert hw; decide)
    have hpN : p.1 ≤ N ∧ ((atB l p.1 == 69 || atB l p.1 == 101) = true → M + E = N) ∧ ((atB l p.1 == 69 || atB l p.1 == 101) = false → p.1 = N) := by
      by_cases hEe : (atB l p.1 == 69 || atB l p.1 == 101) = true
      · have h0 := hE0 hEe
        rw [hEe, if_pos (by simp [h0])] at hN
        simp only at hN
        exact ⟨by omega, fun _ => hN, fun h => (by rw [hEe] at h; cases h)⟩
      · have hEf : (atB l p.1 == 69 || atB l p.1 == 101) = false := eq_false_of_ne_true hEe
        rw [hEf] at hN
        simp only [Bool.false_and, Bool.false_eq_true, if_false] at hN
        exact ⟨by omega, fun h => (by rw [hEf] at h; cases h), fun _ => hN⟩
    have heN : e0 ≤ N := by omega
    rw [C.cnt (by decide) sd (j := f) (by omega), he]
    have hX : ([48, 120].isPrefixOf (l'.drop f) && decide (0 < cntB hexB (l'.drop (f + 2)))) = false := by
      by_cases hpre : [48, 120].isPrefixOf (l'.drop f) = true
      · exfalso
        have hpre2 := hpre
        rw [pre2F _ 48 120 (by decide) (by decide)] at hpre2
        simp only [Bool.and_eq_true, beq_iff_eq, atB_addF, Nat.add_zero] at hpre2
        have hfN : f < N := by
          refine Classical.byContradiction fun hk => ?_
          have : f = N := by omega
          rw [this] at hpre2
          rw [hpre2.1] at s48; revert s48; decide
        have hfN2 : f + 1 < N := by
          refine Classical.byContradiction fun hk => ?_
          have : f + 1 = N := by omega
          rw [this] at hpre2
          rw [hpre2.2] at s120; revert s120; decide
        rw [C.same hfN, C.same hfN2] at hpre2
        have hl2 : [48, 120].isPrefixOf (l.drop f) = true := by
          rw [pre2F _ 48 120 (by decide) (by decide), atB_addF, atB_addF, Nat.add_zero, hpre2.1, hpre2.2]; rfl
        have hc1 : cntB digitB (l.drop f) = 1 := by
          refine cnt_char (by decide) (fun i hi => ?_) ?_
          · rw [show i = 0 by omega, atB_addF, Nat.add_zero, hpre2.1]; decide
          · rw [atB_addF, hpre2.2]; decide
        have he1 : e0 = f + 1 := by omega
        have hp1 : p = (e0, 4) := by rw [← hp, he1, hpre2.2]; rfl
        have hpx : atB l p.1 = 120 := by rw [hp1, he1]; exact hpre2.2
        have := hpN.2.2 (by rw [hpx]; decide)
        rw [hp1] at this
        simp only at this
        omega
      · rw [eq_false_of_ne_true hpre]; rfl
    rw [hX, if_neg Bool.false_ne_true]
    have hP : (if atB l' e0 == 46 && decide (0 < cntB digitB (l'.drop (e0 + 1))) then (e0 + 1 + cntB digitB (l'.drop (e0 + 1)), 5) else (e0, 4) : Nat × Nat) = p := by
      by_cases hlt : e0 < N
      · rw [C.same hlt]
        by_cases h4 : (atB l e0 == 46) = true
        · by_cases hd0 : 0 < d
          · have hp1 : p = (e0 + 1 + d, 5) := by rw [← hp, h4, if_pos (by simp [hd0])]
            have hdc : cntB digitB (l'.drop (e0 + 1)) = d := by
              rw [C.cnt (by decide) sd (j := e0 + 1) (by rw [hd]; rw [hp1] at hpN; exact hpN.1), hd]
            rw [hdc, hp]
          · exfalso
            have hp1 : p = (e0, 4) := by rw [← hp, if_neg (by simp [hd0])]
            have := hpN.2.2 (by rw [hp1]; simp only; rw [show atB l e0 = 46 by simpa using h4]; decide)
            rw [hp1] at this; simp only at this; omega
        · have hp1 : p = (e0, 4) := by rw [← hp, if_neg (by simp [h4])]
          rw [hp1, if_neg (by simp [h4])]
      · have heq : e0 = N := by omega
        have hp1 : p = (e0, 4) := by
          rw [← hp]
          split
          · rename_i hh
            exfalso
            have : p = (e0 + 1 + d, 5) := by rw [← hp, if_pos hh]
            rw [this] at hpN
            have := hpN.1
            simp only at this; omega
          · rfl
        rw [hp1, heq, s46]; rfl
    rw [hP]
    by_cases hEe : (atB l p.1 == 69 || atB l p.1 == 101) = true
    · have h0 := hE0 hEe
      have hMN := hpN.2.1 hEe
      have hM1 : p.1 + 1 ≤ M := by omega
      rw [C.same (show p.1 < N by omega), C.same (show p.1 + 1 < N by omega), hM, C.cnt (by decide) sd (j := M) (by rw [hE]; omega), hE]
    · have hEf : (atB l p.1 == 69 || atB l p.1 == 101) = false := eq_false_of_ne_true hEe
      have hpeq := hpN.2.2 hEf
      rw [hEf, hpeq, s69, s101]; simp

theorem number_cut {l l' : Bytes} {k : Nat} {t : Bytes} {pa : List Bytes} {n : Nat} (h : numberP l = .ok (k, t, pa, n)) (h1 : 1 ≤ n) (C : Cut n l l') : numberP l' = .ok (k, t, pa, n) := by
  unfold numberP at h ⊢
  simp only [] at h ⊢
  by_cases hw : wordB (atB l (numEnd l).1) = true
  · rw [if_pos hw] at h; cases h
  rw [if_neg hw] at h
  by_cases h2 : 4096 < (numEnd l).1
  · rw [if_pos h2] at h; cases h
  rw [if_neg h2] at h
  have hp : (numEnd l).1 = n := by simp only [Except.ok.injEq, Prod.mk.injEq] at h; exact h.2.2.2
  obtain ⟨sw, _⟩ := stop_facts _ C.stop
  have hE := num_cut (l := l) (l' := l') (eq_false_of_ne_true hw) (by rw [hp]; exact C) (by omega)
  rw [hE, if_neg (by rw [hp, sw]; exact Bool.false_ne_true), if_neg h2, hp, C.take]
  rw [hp] at h; exact h

theorem based_take {b n : Nat} {l l' : Bytes} (h : 0 ≤ basedP b n l) (ht : l'.take n = l.take n) (hl : n ≤ l'.length) : basedP b n l' = basedP b n l := by
  have hn : n ≤ l.length := by
    refine Classical.byContradiction fun hk => ?_
    unfold basedP at h; rw [if_pos (by omega)] at h; omega
  unfold basedP
  rw [if_neg (show ¬ l'.length < n by omega), if_neg (show ¬ l.length < n by omega), ht]

theorem esc_cut (l l' : Bytes) (h : (escP l).2 ≠ 0) (ht : l'.take (escP l).2 = l.take (escP l).2) (hl : (escP l).2 ≤ l'.length) : escP l' = escP l := by
  have same : ∀ i, i < (escP l).2 → atB l' i = atB l i := fun i hi => by rw [← atB_take l' hi, ht, atB_take l hi]
  have tk : ∀ j, j ≤ (escP l).2 → l'.take j = l.take j := fun j hj => by
    have := congrArg (List.take j) ht
    rwa [List.take_take, List.take_take, Nat.min_eq_left hj] at this
  have hne : l ≠ [] := by rintro rfl; simp [escP] at h
  have hne' : l' ≠ [] := by rintro rfl; simp at hl; omega
  revert h hl same tk
  clear ht
  unfold escP
  rw [if_neg hne', if_neg hne]
  simp only []
  intro h hl same tk
  have s0 := same 0 (by omega)
  rw [s0]
  by_cases h1 : 0 ≤ Go.Lib.indexByte escL (atB l 0)
  · rw [if_pos h1, if_pos h1]
  rw [if_neg h1] at h hl same tk ⊢
  rw [if_neg h1]
  by_cases h2 : (atB l 0 == 34 || atB l 0 == 92) = true
  · rw [if_pos h2, if_pos h2]
  rw [if_neg h2] at h hl same tk ⊢
  rw [if_neg h2]
  by_cases h3 : (atB l 0 == 94) = true
  · rw [if_pos h3] at h hl same tk ⊢
    rw [if_pos h3]
    by_cases h4 : (decide (64 ≤ (atB l 1).toNat) && decide ((atB l 1).toNat ≤ 95)) = true
    · rw [if_pos h4] at same
      rw [same 1 (by simp)]
    · rw [if_neg h4] at h; exact absurd rfl h
  rw [if_neg h3] at h hl same tk ⊢
  rw [if_neg h3]
  by_cases h5 : (atB l 0 == 117) = true
  · rw [if_pos h5] at h hl same tk ⊢
    rw [if_pos h5]
    by_cases h6 : 0 ≤ basedP 16 4 (l.drop 1)
    · rw [if_pos h6] at hl tk
      simp only at hl tk
      have ht5 := tk 5 (Nat.le_refl _)
      have hl5 : 5 ≤ l.length := by
        refine Classical.byContradiction fun hk => ?_
        unfold basedP at h6; rw [if_pos (by rw [List.length_drop]; omega)] at h6; omega
      have : (l'.drop 1).take 4 = (l.drop 1).take 4 := by
        rw [show 5 = 1 + 4 from rfl, List.take_add, List.take_add] at ht5
        exact (List.append_inj ht5 (by rw [List.length_take, List.length_take]; omega)).2
      rw [based_take h6 this (by rw [List.length_drop]; omega)]
    · rw [if_neg h6] at h; exact absurd rfl h
  rw [if_neg h5] at h hl same tk ⊢
  rw [if_neg h5]
  by_cases h7 : digitB (atB l 0) = true
  · rw [if_pos h7] at h hl same tk ⊢
    rw [if_pos h7]
    by_cases h8 : 0 ≤ basedP 10 3 l
    · rw [if_pos h8] at hl tk
      simp only at hl tk
      rw [based_take h8 (tk 3 (Nat.le_refl _)) hl]
    · rw [if_neg h8] at h; exact absurd rfl h
  rw [if_neg h7] at h hl same tk ⊢
  rw [if_neg h7]
  by_cases h9 : (decide (0 < cntB blankB l) && atB l (cntB blankB l) == 92) = true
  · rw [if_pos h9] at hl same
    simp only at hl same
    have h92 : atB l (cntB blankB l) = 92 := by simp only [Bool.and_eq_true, beq_iff_eq] at h9; exact h9.2
    have hc : cntB blankB l' = cntB blankB l := by
      refine cnt_char (by decide) (fun i hi => ?_) ?_
      · rw [same i (by omega)]; exact cnt_in _ _ hi
      · rw [same _ (by omega), h92]; decide
    rw [hc, same (cntB blankB l) (by omega)]
  · rw [if_neg h9] at h; exact absurd rfl h

theorem quoted_cut : ∀ (f g : Nat) (l l' acc : Bytes) (m : Nat) {t : Bytes} {n : Nat}, l'.length < g → quotedP f l acc m = some (t, n) → l'.take (n - m) = l.take (n - m) → n - m ≤ l'.length → quotedP g l' acc m = some (t, n)
  | 0, _, _, _, _, _, _, _, _, h, _, _ => by simp [quotedP] at h
  | _, 0, _, _, _, _, _, _, h, _, _, _ => by omega
  | f + 1, g + 1, [], _, _, _, _, _, _, h, _, _ => by simp [quotedP] at h
  | f + 1, g + 1, c :: r, [], acc, m, t, n, _, h, _, hl => by
    have := (quotedP_len _ _ _ _ h).1
    simp at hl; omega
  | f + 1, g + 1, c :: r, c' :: r', acc, m, t, n, hg, h, ht, hl => by
    have hn := (quotedP_len _ _ _ _ h).1
    obtain ⟨j, hj⟩ : ∃ j, n - m = j + 1 := ⟨n - m - 1, by omega⟩
    rw [hj, List.take_succ_cons, List.take_succ_cons] at ht
    simp only [List.cons.injEq] at ht
    obtain ⟨rfl, ht⟩ := ht
    rw [hj] at hl
    simp only [List.length_cons] at hl hg
    simp only [quotedP] at h ⊢
    by_cases h1 : (c' == 34) = true
    · rw [if_pos h1] at h ⊢; exact h
    rw [if_neg h1] at h ⊢
    by_cases h2 : (decide (c'.toNat < 32) || decide (126 < c'.toNat)) = true
    · rw [if_pos h2] at h; cases h
    rw [if_neg h2] at h ⊢
    by_cases h3 : (c' != 92) = true
    · rw [if_pos h3] at h ⊢
      have hj2 : n - (m + 1) = j := by omega
      exact quoted_cut f g r r' _ _ (by omega) h (by rw [hj2]; exact ht) (by omega)
    rw [if_neg h3] at h ⊢
    by_cases h4 : (escP r).2 = 0
    · rw [if_pos h4] at h; cases h
    rw [if_neg h4] at h
    have hfit := escP_fits r h4
    have h5 := (quotedP_len _ _ _ _ h).1
    have hk : (escP r).2 ≤ j := by omega
    have htk : r'.take (escP r).2 = r.take (escP r).2 := by
      have := congrArg (List.take (escP r).2) ht
      rwa [List.take_take, List.take_take, Nat.min_eq_left hk] at this
    have he := esc_cut r r' h4 htk (by omega)
    rw [he, if_neg h4]
    have hjj : j = (escP r).2 + (n - (m + 1 + (escP r).2)) := by omega
    refine quoted_cut f g _ _ _ _ (by rw [List.length_drop]; omega) h ?_ (by rw [List.length_drop]; omega)
    rw [hjj, List.take_add, List.take_add] at ht
    exact (List.append_inj ht (by rw [List.length_take, List.length_take]; omega)).2

theorem char_cut {l l' : Bytes} {k : Nat} {t : Bytes} {pa : List Bytes} {n : Nat} (h : charP l = .ok (k, t, pa, n)) (C : Cut n l l') : charP l' = .ok (k, t, pa, n) := by
  unfold charP at h ⊢
  cases hq : quotedP (l.length + 1) (l.drop 2) [] 2 with
  | none => rw [hq] at h; cases h
  | some r =>
    obtain ⟨s, m⟩ := r
    rw [hq] at h
    simp only [] at h
    have hm : m = n := by
      split at h
      · simp only [Except.ok.injEq, Prod.mk.injEq] at h; exact h.2.2.2
      · cases h
    subst hm
    have h2 := (quotedP_len _ _ _ _ hq).1
    have D := C.drop (j := 2) (by omega)
    rw [quoted_cut _ (l'.length + 1) _ (l'.drop 2) _ _ (by rw [List.length_drop]; omega) hq D.take D.len]
    exact h

theorem text_cut {l l' : Bytes} {k : Nat} {t : Bytes} {pa : List Bytes} {n : Nat} (h : textP l = .ok (k, t, pa, n)) (C : Cut n l l') : textP l' = .ok (k, t, pa, n) := by
  unfold textP at h ⊢
  cases hq : quotedP (l.length + 1) (l.drop 1) [] 1 with
  | none => rw [hq] at h; cases h
  | some r =>
    obtain ⟨s, m⟩ := r
    rw [hq] at h
    simp only [] at h
    have hm : m = n := by
      split at h
      · cases h
      · simp only [Except.ok.injEq, Prod.mk.injEq] at h; exact h.2.2.2
    subst hm
    have h2 := (quotedP_len _ _ _ _ hq).1
    have D := C.drop (j := 1) (by omega)
    rw [quoted_cut _ (l'.length + 1) _ (l'.drop 1) _ _ (by rw [List.length_drop]; omega) hq D.take D.len]
    exact h

theorem char_two {l : Bytes} {k : Nat} {t : Bytes} {pa : List Bytes} {n : Nat} (h : charP l = .ok (k, t, pa, n)) : 3 ≤ n := by
  unfold charP at h
  split at h
  · cases h
  · rename_i s m hq
    have := (quotedP_len _ _ _ _ hq).1
    split at h
    · simp only [Except.ok.injEq, Prod.mk.injEq] at h; omega
    · cases h

theorem num_two {l : Bytes} (h : (atB l 0 == 126 && digitB (atB l 1)) = true) {k : Nat} {t : Bytes} {pa : List Bytes} {n : Nat} (hr : numberP l = .ok (k, t, pa, n)) : 2 ≤ n := by
  simp only [Bool.and_eq_true] at h
  have hf : (if atB l 0 == 126 then 1 else 0 : Nat) = 1 := if_pos h.1
  have hc : 0 < cntB digitB (l.drop 1) := cnt_pos (by rw [atB_addF]; exact h.2) (by decide)
  have : 2 ≤ (numEnd l).1 := by
    unfold numEnd
    simp only [hf]
    generalize cntB digitB (l.drop 1) = c0 at *
    repeat' split
    all_goals (simp only []; omega)
  unfold numberP at hr
  simp only [] at hr
  split at hr
  · cases hr
  · split at hr
    · cases hr
    · simp only [Except.ok.injEq, Prod.mk.injEq] at hr; omega

/-- a token is read the same wherever its bytes stand ahead of a blank or the end -/
theorem read_cut {l l' : Bytes} {k : Nat} {t : Bytes} {pa : List Bytes} {n : Nat} (hne : l ≠ []) (h : readP l = .ok (k, t, pa, n)) (C : Cut n l l') : readP l' = .ok (k, t, pa, n) := by
  have hn1 := (readP_len hne h).1
  obtain ⟨sw, sd, sh, ss, sl, s46, s69, s101, s126, s120, s48, s34, s42⟩ := stop_facts _ C.stop
  unfold readP at h ⊢
  simp only [] at h ⊢
  rw [C.same (show 0 < n by omega)]
  by_cases c1 : letterB (atB l 0) = true
  · rw [if_pos c1] at h ⊢
    exact word_cut _ _ _ _ _ _ (by omega) h (by simpa using C)
  rw [if_neg c1] at h ⊢
  by_cases c2 : digitB (atB l 0) = true
  · rw [if_pos c2] at h ⊢; exact number_cut h hn1 C
  rw [if_neg c2] at h ⊢
  by_cases c3 : (atB l 0 == 126 || signB (atB l 0)) = true
  · rw [if_pos c3] at h ⊢
    unfold signP at h ⊢
    rw [C.same (show 0 < n by omega)]
    have at1 : 1 < n → atB l' 1 = atB l 1 := fun h => C.same h
    have at1' : ¬ 1 < n → stopB (atB l' 1) = true := fun h => by have := C.stop; rwa [show n = 1 by omega] at this
    by_cases c4 : (atB l 0 == 126 && digitB (atB l 1)) = true
    · rw [if_pos c4] at h
      have h2 := num_two c4 h
      rw [at1 (by omega), if_pos c4]; exact number_cut h hn1 C
    rw [if_neg c4] at h
    have c4' : ¬ (atB l 0 == 126 && digitB (atB l' 1)) = true := by
      by_cases h1 : 1 < n
      · rw [at1 h1]; exact c4
      · have := (stop_facts _ (at1' h1)).2.1
        rw [this]; simp
    rw [if_neg c4']
    have hp : ∀ L : Bytes, [35, 34].isPrefixOf L = (atB L 0 == 35 && atB L 1 == 34) := fun L => pre2F L 35 34 (by decide) (by decide)
    rw [hp] at h ⊢
    rw [C.same (show 0 < n by omega)]
    by_cases c5 : (atB l 0 == 35 && atB l 1 == 34) = true
    · rw [if_pos c5] at h
      have h3 := char_two h
      rw [at1 (by omega), if_pos c5]; exact char_cut h C
    rw [if_neg c5] at h
    have c5' : ¬ (atB l 0 == 35 && atB l' 1 == 34) = true := by
      by_cases h1 : 1 < n
      · rw [at1 h1]; exact c5
      · have := (stop_facts _ (at1' h1)).2.2.2.2.2.2.2.2.2.2.2.1
        rw [this]; simp
    rw [if_neg c5']
    simp only [] at h ⊢
    have hk : cntB signB l = n := by simp only [Except.ok.injEq, Prod.mk.injEq] at h; exact h.2.2.2
    rw [C.cnt0 (by decide) ss (by omega), C.taken (by omega)]; exact h
  rw [if_neg c3] at h ⊢
  by_cases c6 : (atB l 0 == 34) = true
  · rw [if_pos c6] at h ⊢; exact text_cut h C
  rw [if_neg c6] at h ⊢
  by_cases c7 : (atB l 0 == 39) = true
  · rw [if_pos c7] at h ⊢
    unfold tyvarP at h ⊢
    have hk : 1 + cntB wordB (l.drop 1) = n := by simp only [Except.ok.injEq, Prod.mk.injEq] at h; exact h.2.2.2
    rw [C.cnt (by decide) sw (j := 1) (by omega), C.taken (by omega)]; exact h
  rw [if_neg c7] at h ⊢
  unfold otherP at h ⊢
  have hp3 : ∀ L : Bytes, [46, 46, 46].isPrefixOf L = (atB L 0 == 46 && atB L 1 == 46 && atB L 2 == 46) := fun L => by
    match L with
    | [] => rfl
    | [a] => simp [List.isPrefixOf, atB]
    | [a, b] => simp [List.isPrefixOf, atB]
    | a :: b :: c :: L =>
      simp only [List.isPrefixOf, atB, List.getD_cons_zero, List.getD_cons_succ, Bool.and_true]
      rw [u8_commF 46 a, u8_commF 46 b, u8_commF 46 c, Bool.and_assoc]
  rw [hp3] at h ⊢
  rw [C.same (show 0 < n by omega)]
  by_cases c8 : (atB l 0 == 46 && atB l 1 == 46 && atB l 2 == 46) = true
  · have h' : (if resB (l.take 3) then (.ok (1, l.take 3, [], 3) : Rd) else .error 40) = .ok (k, t, pa, n) := by rw [if_pos c8] at h; exact h
    have hn3 : n = 3 := by
      split at h'
      · simp only [Except.ok.injEq, Prod.mk.injEq] at h'; omega
      · cases h'
    rw [C.same (show 1 < n by omega), C.same (show 2 < n by omega), if_pos c8]
    rw [show l.take 3 = l'.take 3 from (C.taken (by omega)).symm] at h'
    exact h'
  · have h' : (if resB (l.take 1) then (.ok (1, l.take 1, [], 1) : Rd) else .error 40) = .ok (k, t, pa, n) := by rw [if_neg c8] at h; exact h
    have hn3 : n = 1 := by
      split at h'
      · simp only [Except.ok.injEq, Prod.mk.injEq] at h'; omega
      · cases h'
    have s1 : (atB l' 1 == 46) = false := by rw [← hn3]; exact s46
    rw [s1, Bool.and_false, Bool.false_and, if_neg Bool.false_ne_true]
    rw [show l.take 1 = l'.take 1 from (C.taken (by omega)).symm] at h'
    exact h'

end Go.Proofs.YtcogfalhodjmfaaGreatDoor
