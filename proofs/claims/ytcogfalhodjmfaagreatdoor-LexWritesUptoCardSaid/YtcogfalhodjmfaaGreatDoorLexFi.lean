/- Plain laws of the scanner: what stands behind a token that has ended changes nothing; the first fault by a byte. No program in sight. -/
import Derived.Test.YtcogfalhodjmfaaGreatDoorLexPl
namespace Go.Proofs.YtcogfalhodjmfaaGreatDoor
open Kiln

theorem u8_commF (x y : UInt8) : (x == y) = (y == x) := by rw [Bool.eq_iff_iff, beq_iff_eq, beq_iff_eq]; exact eq_comm

theorem pre2F (L : Bytes) (x y : UInt8) (hx : x ≠ 0) (hy : y ≠ 0) : [x, y].isPrefixOf L = (atB L 0 == x && atB L 1 == y) := by
  cases L with
  | nil => simp [atB, List.isPrefixOf, hx.symm]
  | cons a L =>
    cases L with
    | nil => simp [atB, List.isPrefixOf, hy.symm]
    | cons b L =>
      simp only [atB, List.isPrefixOf, List.getD_cons_zero, List.getD_cons_succ, Bool.and_true]
      rw [u8_commF x a, u8_commF y b]

theorem atB_addF (L : Bytes) (a b : Nat) : atB (L.drop a) b = atB L (a + b) := by
  unfold atB; rw [List.getD_eq_getElem?_getD, List.getD_eq_getElem?_getD, List.getElem?_drop]

theorem cnt_atBF {p : UInt8 → Bool} (h0 : p 0 = false) (l : Bytes) : decide (0 < cntB p l) = p (atB l 0) := by
  cases l with
  | nil => rw [show atB [] 0 = 0 from rfl, h0]; rfl
  | cons c l => rw [show atB (c :: l) 0 = c from rfl]; cases h : p c <;> simp [cntB, h]

theorem cnt_app {p : UInt8 → Bool} : ∀ {l : Bytes} (m : Bytes), cntB p l < l.length → cntB p (l ++ m) = cntB p l
  | [], _, h => by simp at h
  | c :: l, m, h => by
    simp only [List.cons_append, cntB] at h ⊢
    by_cases hc : p c = true
    · simp only [hc, if_true, List.length_cons] at h ⊢
      rw [cnt_app m (by omega)]
    · simp only [hc]; rfl

theorem atB_app {l : Bytes} (m : Bytes) {i : Nat} (h : i < l.length) : atB (l ++ m) i = atB l i := by
  unfold atB
  rw [List.getD_eq_getElem?_getD, List.getD_eq_getElem?_getD, List.getElem?_append_left h]

theorem take_app {l : Bytes} (m : Bytes) {n : Nat} (h : n ≤ l.length) : (l ++ m).take n = l.take n := List.take_append_of_le_length h
theorem drop_app {l : Bytes} (m : Bytes) {n : Nat} (h : n ≤ l.length) : (l ++ m).drop n = l.drop n ++ m := List.drop_append_of_le_length h

theorem cntd_app {p : UInt8 → Bool} {l : Bytes} (m : Bytes) {k : Nat} (h : k + cntB p (l.drop k) < l.length) : cntB p ((l ++ m).drop k) = cntB p (l.drop k) := by
  rw [drop_app m (by omega), cnt_app m (by rw [List.length_drop]; omega)]

theorem pre_app {q l : Bytes} (m : Bytes) (h : q.length ≤ l.length) : q.isPrefixOf (l ++ m) = q.isPrefixOf l := by
  rw [Bool.eq_iff_iff, List.isPrefixOf_iff_prefix, List.isPrefixOf_iff_prefix]
  constructor
  · intro hp
    exact List.prefix_of_prefix_length_le hp (List.prefix_append l m) h
  · intro hp; exact hp.trans (List.prefix_append l m)

theorem pre_mono {q l : Bytes} (m : Bytes) (h : q.isPrefixOf l = true) : q.isPrefixOf (l ++ m) = true := by
  rw [pre_app m (List.isPrefixOf_iff_prefix.1 h).length_le]; exact h

theorem pre_len {q l : Bytes} (h : q.isPrefixOf l = true) : q.length ≤ l.length := (List.isPrefixOf_iff_prefix.1 h).length_le

theorem based_mono {b n : Nat} {l : Bytes} (m : Bytes) (h : 0 ≤ basedP b n l) : basedP b n (l ++ m) = basedP b n l := by
  have hn : n ≤ l.length := by
    refine Classical.byContradiction fun hk => ?_
    unfold basedP at h; rw [if_pos (by omega)] at h; omega
  unfold basedP
  rw [if_neg (show ¬ (l ++ m).length < n by rw [List.length_append]; omega), if_neg (show ¬ l.length < n by omega), take_app m hn]

theorem esc_mono (l m : Bytes) (h : (escP l).2 ≠ 0) : escP (l ++ m) = escP l := by
  cases l with
  | nil => simp [escP] at h
  | cons c l =>
    revert h
    unfold escP
    rw [if_neg (show ¬ c :: l ++ m = [] by simp), if_neg (show ¬ c :: l = [] by simp)]
    have e0 : atB (c :: l ++ m) 0 = atB (c :: l) 0 := rfl
    simp only [e0]
    generalize hL : c :: l = L
    by_cases h1 : 0 ≤ Go.Lib.indexByte escL (atB L 0)
    · rw [if_pos h1, if_pos h1]; simp
    rw [if_neg h1, if_neg h1]
    by_cases h2 : (atB L 0 == 34 || atB L 0 == 92) = true
    · rw [if_pos h2, if_pos h2]; simp
    rw [if_neg h2, if_neg h2]
    by_cases h3 : (atB L 0 == 94) = true
    · rw [if_pos h3, if_pos h3]
      by_cases h4 : (decide (64 ≤ (atB L 1).toNat) && decide ((atB L 1).toNat ≤ 95)) = true
      · have hl := atB_lt (l := L) (k := 1) rfl (by intro e; rw [e] at h4; revert h4; decide)
        rw [atB_app m hl]; simp
      · rw [if_neg h4]; simp
    rw [if_neg h3, if_neg h3]
    by_cases h5 : (atB L 0 == 117) = true
    · rw [if_pos h5, if_pos h5]
      by_cases h6 : 0 ≤ basedP 16 4 (L.drop 1)
      · rw [drop_app m (by rw [← hL]; simp), based_mono m h6, if_pos h6]; simp
      · rw [if_neg h6]; simp
    rw [if_neg h5, if_neg h5]
    by_cases h7 : digitB (atB L 0) = true
    · rw [if_pos h7, if_pos h7]
      by_cases h8 : 0 ≤ basedP 10 3 L
      · rw [based_mono m h8, if_pos h8]; simp
      · rw [if_neg h8]; simp
    rw [if_neg h7, if_neg h7]
    by_cases h9 : (decide (0 < cntB blankB L) && atB L (cntB blankB L) == 92) = true
    · have hl := atB_lt (l := L) (k := cntB blankB L) (c := 92) (by simp only [Bool.and_eq_true, beq_iff_eq] at h9; exact h9.2) (by decide)
      rw [cnt_app m hl, atB_app m hl]; simp
    · rw [if_neg h9]; simp

theorem quoted_mono (m : Bytes) : ∀ (f g : Nat) (l acc : Bytes) (n : Nat) {r : Bytes × Nat}, l.length < f → (l ++ m).length < g → quotedP f l acc n = some r → quotedP g (l ++ m) acc n = some r
  | 0, _, _, _, _, _, h, _, _ => by omega
  | _, 0, _, _, _, _, _, h, _ => by omega
  | f + 1, g + 1, [], _, _, _, _, _, h => by simp [quotedP] at h
  | f + 1, g + 1, c :: l, acc, n, r, hf, hg, h => by
    simp only [List.cons_append, List.length_cons] at hf hg
    simp only [List.cons_append, quotedP] at h ⊢
    by_cases h1 : (c == 34) = true
    · rw [if_pos h1] at h ⊢; exact h
    rw [if_neg h1] at h ⊢
    by_cases h2 : (decide (c.toNat < 32) || decide (126 < c.toNat)) = true
    · rw [if_pos h2] at h; cases h
    rw [if_neg h2] at h ⊢
    by_cases h3 : (c != 92) = true
    · rw [if_pos h3] at h ⊢
      exact quoted_mono m f g l _ _ (by omega) (by omega) h
    rw [if_neg h3] at h ⊢
    by_cases h4 : (escP l).2 = 0
    · rw [if_pos h4] at h; cases h
    have he := esc_mono l m h4
    have hfit := escP_fits l h4
    rw [if_neg h4] at h
    rw [he, if_neg h4, drop_app m hfit]
    exact quoted_mono m f g _ _ _ (by rw [List.length_drop]; omega) (by rw [List.length_append, List.length_drop]; rw [List.length_append] at hg; omega) h

theorem word_app (m : Bytes) : ∀ (f g : Nat) (path : List Bytes) (n : Nat) (l : Bytes) {k : Nat} {t : Bytes} {pa : List Bytes} {n' : Nat}, l.length < f → (l ++ m).length < g → wordP f path n l = .ok (k, t, pa, n') → n' < n + l.length → wordP g path n (l ++ m) = .ok (k, t, pa, n')
  | 0, _, _, _, _, _, _, _, _, h, _, _, _ => by omega
  | _, 0, _, _, _, _, _, _, _, _, h, _, _ => by omega
  | f + 1, g + 1, path, n, l, k, t, pa, n', hf, hg, h, hn => by
    have hk := (wordP_len _ _ _ _ h).1
    have hkl : cntB wordB l < l.length := by omega
    simp only [wordP] at h ⊢
    rw [cnt_app m hkl, take_app m (Nat.le_of_lt hkl), atB_app m hkl]
    by_cases h1 : resB (l.take (cntB wordB l)) = true
    · rw [if_pos h1] at h ⊢; exact h
    rw [if_neg h1] at h ⊢
    by_cases h2 : (atB l (cntB wordB l) == 46) = true
    · rw [if_pos h2] at h ⊢
      rw [drop_app m hkl]
      generalize hL : l.drop (cntB wordB l + 1) = r at *
      have hr : l.length = cntB wordB l + 1 + r.length := by rw [← hL, List.length_drop]; omega
      have hr0 : 0 < r.length := by
        refine Classical.byContradiction fun h0 => ?_
        have : r = [] := List.eq_nil_of_length_eq_zero (by omega)
        subst this
        simp [letterB, letterI, atB, cntB] at h
      rw [atB_app m hr0]
      rw [List.length_append] at hg
      by_cases h3 : letterB (atB r 0) = true
      · rw [if_pos h3] at h ⊢
        exact word_app m f g _ _ r (by omega) (by rw [List.length_append]; omega) h (by omega)
      · rw [if_neg h3] at h ⊢
        by_cases h4 : (decide (cntB signB r = 0) || resB (r.take (cntB signB r))) = true
        · rw [if_pos h4] at h; cases h
        · rw [if_neg h4] at h
          have hc : cntB signB r < r.length := by
            simp only [Except.ok.injEq, Prod.mk.injEq] at h; omega
          rw [cnt_app m hc, take_app m (Nat.le_of_lt hc), if_neg h4]; exact h
    · rw [if_neg h2] at h ⊢; exact h

theorem num_app {l : Bytes} (m : Bytes) (h46 : ∀ a, l ≠ a ++ [46]) (hn : (numEnd l).1 < l.length) (hw : wordB (atB l (numEnd l).1) = false) (hne : l ≠ []) : numEnd (l ++ m) = numEnd l := by
  have hl0 : 0 < l.length := by cases l with | nil => exact absurd rfl hne | cons c l => simp
  have hlast : ∀ k, atB l k = 46 → k + 1 < l.length := fun k hk => by
    have h1 := atB_lt hk (by decide)
    refine Classical.byContradiction fun h2 => h46 (l.take k) ?_
    have h3 : l.length = k + 1 := by omega
    conv => lhs; rw [← List.take_append_drop k l]
    congr 1
    rw [List.drop_eq_getElem_cons h1, List.drop_of_length_le (by omega)]
    unfold atB at hk
    rw [List.getD_eq_getElem?_getD, List.getElem?_eq_getElem h1] at hk
    simp only [Option.getD_some] at hk
    rw [hk]
  revert hn hw
  unfold numEnd
  simp only []
  rw [atB_app m hl0]
  generalize hf : (if atB l 0 == 126 then 1 else 0 : Nat) = f
  have hf1 : f ≤ 1 := by rw [← hf]; split <;> omega
  by_cases hx : ([48, 120].isPrefixOf (l.drop f) && decide (0 < cntB hexB (l.drop (f + 2)))) = true
  · rw [if_pos hx]
    intro hn _
    simp only at hn
    simp only [Bool.and_eq_true, decide_eq_true_eq] at hx
    have hfl : f ≤ l.length := by have := pre_len hx.1; rw [List.length_drop] at this; simp at this; omega
    rw [drop_app m hfl, pre_mono m hx.1, cntd_app m hn]
    simp [hx.2]
  · rw [if_neg hx]
    generalize he : f + cntB digitB (l.drop f) = e0
    have hx' : ([48, 120].isPrefixOf (l.drop f) && decide (0 < cntB hexB (l.drop (f + 2)))) = false := by simpa using hx
    generalize hd : cntB digitB (l.drop (e0 + 1)) = d
    generalize hp : (if atB l e0 == 46 && decide (0 < d) then (e0 + 1 + d, 5) else (e0, 4) : Nat × Nat) = p
    generalize hM : p.1 + 1 + (if atB l (p.1 + 1) == 126 then 1 else 0 : Nat) = M
    generalize hE : cntB digitB (l.drop M) = E
    have hpe : e0 ≤ p.1 := by rw [← hp]; split <;> simp <;> omega
    intro hn hw
    have hpl : p.1 < l.length := by
      revert hn
      split
      · intro hn; simp only at hn; omega
      · exact id
    have hE0 : (atB l p.1 == 69 || atB l p.1 == 101) = true → 0 < E := by
      intro hEe
      refine Classical.byContradiction fun h0 => ?_
      rw [if_neg (by simp [h0])] at hw
      simp only [Bool.or_eq_true, beq_iff_eq] at hEe
      rcases hEe with h | h <;> (rw [h] at hw; revert hw; decide)
    have hee : e0 < l.length := by omega
    have hfl : f + cntB digitB (l.drop f) < l.length := by omega
    rw [cntd_app m hfl, he]
    have hX : ([48, 120].isPrefixOf ((l ++ m).drop f) && decide (0 < cntB hexB ((l ++ m).drop (f + 2)))) = false := by
      by_cases hpre : [48, 120].isPrefixOf (l.drop f) = true
      · exfalso
        -- then the 'x' stands at e0, and it ends the number
        have h0 : cntB hexB (l.drop (f + 2)) = 0 := by
          simp only [hpre, Bool.true_and, decide_eq_false_iff_not] at hx'; omega
        rw [pre2F _ 48 120 (by decide) (by decide)] at hpre
        simp only [Bool.and_eq_true, beq_iff_eq, atB_addF, Nat.add_zero] at hpre
        have hlt := atB_lt hpre.2 (by decide)
        have hc1 : cntB digitB (l.drop f) = 1 := by
          have e1 : l.drop f = 48 :: 120 :: l.drop (f + 2) := by
            have a1 := hpre.1; have a2 := hpre.2
            unfold atB at a1 a2
            rw [List.getD_eq_getElem?_getD, List.getElem?_eq_getElem (by omega)] at a1 a2
            simp only [Option.getD_some] at a1 a2
            rw [List.drop_eq_getElem_cons (by omega), List.drop_eq_getElem_cons hlt, a1, a2]
          rw [e1]; rfl
        have he1 : e0 = f + 1 := by omega
        have hp1 : p = (e0, 4) := by rw [← hp, he1, hpre.2, if_neg (by simp)]
        rw [hp1] at hw hE0
        simp only at hw hE0
        rw [he1, hpre.2] at hw
        rw [if_neg (by simp)] at hw
        simp only [hpre.2] at hw
        revert hw; decide
      · by_cases hll : f + 2 ≤ l.length
        · rw [drop_app m (by omega), pre_app m (by rw [List.length_drop]; simp; omega)]
          simp [hpre]
        · have hc0 : cntB digitB (l.drop f) = 0 := by omega
          have hnd : digitB (atB l f) = false := by
            have := cnt_atBF (p := digitB) (by decide) (l.drop f)
            rw [atB_addF] at this
            simp only [hc0, Nat.add_zero] at this
            rw [← this]; rfl
          rw [pre2F _ 48 120 (by decide) (by decide), atB_addF, Nat.add_zero, atB_app m (by omega)]
          have : (atB l f == 48) = false := by
            rw [beq_eq_false_iff_ne]; intro e; rw [e] at hnd; revert hnd; decide
          rw [this]; rfl
    rw [hX, if_neg Bool.false_ne_true, atB_app m hee]
    have hD : (atB l e0 == 46 && decide (0 < cntB digitB ((l ++ m).drop (e0 + 1)))) = (atB l e0 == 46 && decide (0 < d)) ∧ ((atB l e0 == 46) = true → cntB digitB ((l ++ m).drop (e0 + 1)) = d) := by
      by_cases h4 : (atB l e0 == 46) = true
      · have hl4 := hlast e0 (by simpa using h4)
        have hcd : e0 + 1 + cntB digitB (l.drop (e0 + 1)) < l.length := by
          rw [hd]
          by_cases hd0 : 0 < d
          · rw [h4, if_pos (by simp [hd0])] at hp
            rw [← hp] at hpl; exact hpl
          · omega
        have := cntd_app m hcd
        rw [this, hd]; exact ⟨rfl, fun _ => rfl⟩
      · rw [show (atB l e0 == 46) = false by simpa using h4]; exact ⟨rfl, fun h => by simp at h⟩
    have hP : (if atB l e0 == 46 && decide (0 < cntB digitB ((l ++ m).drop (e0 + 1))) then (e0 + 1 + cntB digitB ((l ++ m).drop (e0 + 1)), 5) else (e0, 4) : Nat × Nat) = p := by
      rw [hD.1, ← hp]
      by_cases h4 : (atB l e0 == 46) = true
      · rw [hD.2 h4]
      · rw [show (atB l e0 == 46) = false by simpa using h4]; rfl
    rw [hP, atB_app m hpl]
    by_cases hEe : (atB l p.1 == 69 || atB l p.1 == 101) = true
    · have h0 := hE0 hEe
      rw [hEe, if_pos (by simp [h0])] at hn
      simp only at hn
      have hM1 : p.1 + 1 ≤ M := by omega
      rw [atB_app m (by omega), hM, cntd_app m (by omega), hE]
    · rw [show (atB l p.1 == 69 || atB l p.1 == 101) = false by simpa using hEe]
      simp

theorem number_app {l : Bytes} (m : Bytes) (h46 : ∀ a, l ≠ a ++ [46]) (hne : l ≠ []) {k : Nat} {t : Bytes} {pa : List Bytes} {n : Nat} (h : numberP l = .ok (k, t, pa, n)) (hn : n < l.length) : numberP (l ++ m) = .ok (k, t, pa, n) := by
  unfold numberP at h ⊢
  simp only [] at h ⊢
  by_cases h1 : wordB (atB l (numEnd l).1) = true
  · rw [if_pos h1] at h; cases h
  have h1' : wordB (atB l (numEnd l).1) = false := by simpa using h1
  rw [if_neg h1] at h
  by_cases h2 : 4096 < (numEnd l).1
  · rw [if_pos h2] at h; cases h
  rw [if_neg h2] at h
  have hp : (numEnd l).1 = n := by simp only [Except.ok.injEq, Prod.mk.injEq] at h; exact h.2.2.2
  have hlt : (numEnd l).1 < l.length := by omega
  rw [num_app m h46 hlt h1' hne, atB_app m hlt, if_neg h1, if_neg h2, take_app m (Nat.le_of_lt hlt)]
  exact h

theorem quotedP_app {l : Bytes} (m : Bytes) (k n : Nat) (hk : k ≤ l.length) {r : Bytes × Nat} (h : quotedP (l.length + 1) (l.drop k) [] n = some r) : quotedP ((l ++ m).length + 1) ((l ++ m).drop k) [] n = some r := by
  rw [drop_app m hk]
  exact quoted_mono m _ _ _ _ _ (by rw [List.length_drop]; omega) (by rw [List.length_append, List.length_append, List.length_drop]; omega) h

theorem char_app {l : Bytes} (m : Bytes) (h2 : 2 ≤ l.length) {k : Nat} {t : Bytes} {pa : List Bytes} {n : Nat} (h : charP l = .ok (k, t, pa, n)) : charP (l ++ m) = .ok (k, t, pa, n) := by
  unfold charP at h ⊢
  cases hq : quotedP (l.length + 1) (l.drop 2) [] 2 with
  | none => rw [hq] at h; cases h
  | some r => rw [hq] at h; rw [quotedP_app m 2 2 h2 hq]; exact h

theorem text_app {l : Bytes} (m : Bytes) (h1 : 1 ≤ l.length) {k : Nat} {t : Bytes} {pa : List Bytes} {n : Nat} (h : textP l = .ok (k, t, pa, n)) : textP (l ++ m) = .ok (k, t, pa, n) := by
  unfold textP at h ⊢
  cases hq : quotedP (l.length + 1) (l.drop 1) [] 1 with
  | none => rw [hq] at h; cases h
  | some r => rw [hq] at h; rw [quotedP_app m 1 1 h1 hq]; exact h

/-- a token that has ended is read the same, whatever stands further on -/
theorem read_app {l : Bytes} (m : Bytes) (h46 : ∀ a, l ≠ a ++ [46]) {k : Nat} {t : Bytes} {pa : List Bytes} {n : Nat} (h : readP l = .ok (k, t, pa, n)) (hn : n < l.length) : readP (l ++ m) = .ok (k, t, pa, n) := by
  have hne : l ≠ [] := by rintro rfl; simp at hn
  have hl0 : 0 < l.length := by omega
  have hn1 := (readP_len hne h).1
  have hl1 : 1 < l.length := by omega
  unfold readP at h ⊢
  simp only [] at h ⊢
  rw [atB_app m hl0]
  by_cases c1 : letterB (atB l 0) = true
  · rw [if_pos c1] at h ⊢
    exact word_app m _ _ _ _ _ (by omega) (by omega) h (by omega)
  rw [if_neg c1] at h ⊢
  by_cases c2 : digitB (atB l 0) = true
  · rw [if_pos c2] at h ⊢; exact number_app m h46 hne h hn
  rw [if_neg c2] at h ⊢
  by_cases c3 : (atB l 0 == 126 || signB (atB l 0)) = true
  · rw [if_pos c3] at h ⊢
    unfold signP at h ⊢
    rw [atB_app m hl0, atB_app m hl1, pre_app m (show [35, 34].length ≤ l.length from hl1)]
    by_cases c4 : (atB l 0 == 126 && digitB (atB l 1)) = true
    · rw [if_pos c4] at h ⊢; exact number_app m h46 hne h hn
    rw [if_neg c4] at h ⊢
    by_cases c5 : [35, 34].isPrefixOf l = true
    · rw [if_pos c5] at h ⊢; exact char_app m hl1 h
    rw [if_neg c5] at h ⊢
    simp only [] at h ⊢
    have hk : cntB signB l = n := by simp only [Except.ok.injEq, Prod.mk.injEq] at h; exact h.2.2.2
    rw [cnt_app m (by omega), take_app m (by omega)]; exact h
  rw [if_neg c3] at h ⊢
  by_cases c6 : (atB l 0 == 34) = true
  · rw [if_pos c6] at h ⊢; exact text_app m hl0 h
  rw [if_neg c6] at h ⊢
  by_cases c7 : (atB l 0 == 39) = true
  · rw [if_pos c7] at h ⊢
    unfold tyvarP at h ⊢
    have hk : 1 + cntB wordB (l.drop 1) = n := by simp only [Except.ok.injEq, Prod.mk.injEq] at h; exact h.2.2.2
    rw [cntd_app m (by omega), take_app m (by omega)]; exact h
  rw [if_neg c7] at h ⊢
  unfold otherP at h ⊢
  simp only [] at h ⊢
  by_cases c8 : [46, 46, 46].isPrefixOf l = true
  · rw [if_pos c8] at h
    rw [if_pos (pre_mono m c8), take_app m (show 3 ≤ l.length from pre_len c8)]; exact h
  · rw [if_neg c8] at h
    by_cases c9 : resB (l.take 1) = true
    · have c10 : ¬ [46, 46, 46].isPrefixOf (l ++ m) = true := by
        intro hp
        cases l with
        | nil => exact hne rfl
        | cons c l =>
          simp only [List.cons_append, List.isPrefixOf, Bool.and_eq_true, beq_iff_eq] at hp
          rw [← hp.1] at c9
          revert c9; simp [List.take]; decide
      rw [if_neg c10, take_app m (by omega)]; exact h
    · rw [if_neg c9] at h; cases h

theorem word_err : ∀ (f : Nat) (path : List Bytes) (n : Nat) (l : Bytes), wordP f path n l ≠ .error 40
  | 0, _, _, _, h => by simp [wordP] at h
  | f + 1, path, n, l, h => by
    simp only [wordP] at h
    split at h
    · split at h
      · cases h
      · simp at h
    · split at h
      · split at h
        · exact word_err f _ _ _ h
        · split at h
          · simp at h
          · cases h
      · cases h

theorem number_err (l : Bytes) : numberP l ≠ .error 40 := by
  unfold numberP; simp only []
  split
  · simp
  · split <;> simp

theorem char_err (l : Bytes) : charP l ≠ .error 40 := by
  unfold charP
  split
  · simp
  · split <;> simp
theorem text_err (l : Bytes) : textP l ≠ .error 40 := by
  unfold textP
  split
  · simp
  · split <;> simp

/-- a byte that begins no token -/
theorem read_bad {l : Bytes} (m : Bytes) (hne : l ≠ []) (h46 : ∀ a, l ≠ a ++ [46]) (h : readP l = .error 40) : readP (l ++ m) = .error 40 := by
  have hl0 : 0 < l.length := by cases l with | nil => exact absurd rfl hne | cons c l => simp
  unfold readP at h ⊢
  simp only [] at h ⊢
  rw [atB_app m hl0]
  by_cases c1 : letterB (atB l 0) = true
  · rw [if_pos c1] at h; exact absurd h (word_err _ _ _ _)
  rw [if_neg c1] at h ⊢
  by_cases c2 : digitB (atB l 0) = true
  · rw [if_pos c2] at h; exact absurd h (number_err _)
  rw [if_neg c2] at h ⊢
  by_cases c3 : (atB l 0 == 126 || signB (atB l 0)) = true
  · rw [if_pos c3] at h
    unfold signP at h
    split at h
    · exact absurd h (number_err _)
    · split at h
      · exact absurd h (char_err _)
      · cases h
  rw [if_neg c3] at h ⊢
  by_cases c6 : (atB l 0 == 34) = true
  · rw [if_pos c6] at h; exact absurd h (text_err _)
  rw [if_neg c6] at h ⊢
  by_cases c7 : (atB l 0 == 39) = true
  · rw [if_pos c7] at h; cases h
  rw [if_neg c7] at h ⊢
  unfold otherP at h ⊢
  simp only [] at h ⊢
  have c8 : ¬ [46, 46, 46].isPrefixOf l = true := by
    intro hp
    rw [if_pos hp] at h
    have : l.take 3 = [46, 46, 46] := by
      obtain ⟨r, hr⟩ := List.isPrefixOf_iff_prefix.1 hp
      rw [← hr]; rfl
    rw [this, if_pos (by decide)] at h; cases h
  have c9 : ¬ [46, 46, 46].isPrefixOf (l ++ m) = true := by
    intro hp
    match l with
    | [] => exact hne rfl
    | [a] =>
      simp [List.isPrefixOf] at hp
      exact h46 [] (by simp [← hp.1])
    | [a, b] =>
      simp [List.isPrefixOf] at hp
      exact h46 [a] (by simp [← hp.2.1])
    | a :: b :: c :: l =>
      simp [List.isPrefixOf] at hp
      exact c8 (by simp [List.isPrefixOf, ← hp.1, ← hp.2.1, ← hp.2.2])
  rw [if_neg c8] at h
  rw [if_neg c9, take_app m (by omega)]; exact h

theorem comm_mono (m : Bytes) : ∀ (f g d n : Nat) (l : Bytes) {r : Nat}, l.length < f → (l ++ m).length < g → commP f d n l = some r → commP g d n (l ++ m) = some r
  | 0, _, _, _, _, _, h, _, _ => by omega
  | _, 0, _, _, _, _, _, h, _ => by omega
  | f + 1, g + 1, _, _, [], _, _, _, h => by simp [commP] at h
  | f + 1, g + 1, d, n, [c], r, hf, hg, h => by
    simp only [commP] at h
    cases f with
    | zero => simp [List.isPrefixOf, commP] at h
    | succ f => simp [List.isPrefixOf, commP] at h
  | f + 1, g + 1, d, n, c :: b :: l, r, hf, hg, h => by
    have p1 := pre_app (q := [40, 42]) (l := c :: b :: l) m (by simp)
    have p2 := pre_app (q := [42, 41]) (l := c :: b :: l) m (by simp)
    simp only [List.length_cons, List.cons_append] at hf hg p1 p2
    simp only [commP, List.cons_append] at h ⊢
    rw [p1, p2]
    split at h
    · rename_i h1
      rw [if_pos h1]
      exact comm_mono m f g _ _ l (by omega) (by omega) h
    · rename_i h1
      rw [if_neg h1]
      split at h
      · rename_i h2
        rw [if_pos h2]
        split at h
        · rename_i h3; rw [if_pos h3]; exact h
        · rename_i h3; rw [if_neg h3]
          exact comm_mono m f g _ _ l (by omega) (by omega) h
      · rename_i h2
        rw [if_neg h2]
        exact comm_mono m f g _ _ (b :: l) (by simp only [List.length_cons]; omega) (by simp only [List.length_cons, List.cons_append]; omega) h

theorem last_drop {l : Bytes} (h46 : ∀ a, l ≠ a ++ [46]) (n : Nat) : ∀ a, l.drop n ≠ a ++ [46] := fun a h => by
  refine h46 (l.take n ++ a) ?_
  rw [List.append_assoc, ← h, List.take_append_drop]

theorem scan_first (m : Bytes) (e x y : Nat) (he : e = 40) : ∀ (N : Nat) (l : Bytes) (p : Nat × Nat) (acc acc' : List Tok), l.length ≤ N → (∀ a, l ≠ a ++ [46]) → scanC l p acc = .error (e, x, y) → scanC (l ++ m) p acc' = .error (e, x, y)
  | N, [], p, acc, acc', _, _, h => by rw [scanC_nil] at h; cases h
  | 0, c :: l, _, _, _, hN, _, _ => by simp at hN
  | N + 1, c :: l, p, acc, acc', hN, h46, h => by
    simp only [List.length_cons] at hN
    by_cases hb : blankB c = true
    · rw [scanC_blank hb] at h
      rw [List.cons_append, scanC_blank hb]
      exact scan_first m e x y he N l _ _ _ (by omega) (last_drop h46 1) h
    have hb : blankB c = false := eq_false_of_ne_true hb
    by_cases hc : [40, 42].isPrefixOf (c :: l) = true
    · rw [scanC_comm hb hc] at h
      rw [List.cons_append, scanC_comm hb (by have := pre_mono m hc; exact this)]
      cases hq : commP ((c :: l).length + 1) 0 0 (c :: l) with
      | none =>
        rw [hq] at h
        simp only [Except.error.injEq, Prod.mk.injEq] at h; omega
      | some n =>
        have hn := commP_len _ _ _ _ hq
        simp only [List.length_cons] at hn
        rw [hq] at h
        have h2 := comm_mono m ((c :: l).length + 1) ((c :: l ++ m).length + 1) 0 0 (c :: l) (by omega) (by omega) hq
        rw [List.cons_append] at h2
        rw [h2]
        simp only [] at h ⊢
        have hle : n ≤ (c :: l).length := by simp only [List.length_cons]; omega
        rw [← List.cons_append, drop_app m hle, take_app m hle]
        exact scan_first m e x y he N _ _ _ _ (by rw [List.length_drop, List.length_cons]; omega) (last_drop h46 n) h
    have hc : [40, 42].isPrefixOf (c :: l) = false := eq_false_of_ne_true hc
    rw [scanC_tok hb hc] at h
    have hnil : l ≠ [] ∨ ∃ e, readP (c :: l) = .error e := by
      cases hr : readP (c :: l) with
      | error e => exact .inr ⟨e, rfl⟩
      | ok v =>
        refine .inl ?_
        rintro rfl
        obtain ⟨k, t, pa, n⟩ := v
        have := readP_len (by simp) hr
        rw [hr] at h
        simp only [List.length_cons, List.length_nil] at this
        simp only [] at h
        rw [List.drop_of_length_le (by simp; omega), scanC_nil] at h; cases h
    have hc2 : [40, 42].isPrefixOf (c :: l ++ m) = false := by
      cases l with
      | nil =>
        rcases hnil with h0 | ⟨e', h0⟩
        · exact absurd rfl h0
        · have : ¬ c = 40 := by rintro rfl; rw [show readP [40] = .ok (1, [40], [], 1) from rfl] at h0; cases h0
          simp only [List.cons_append, List.isPrefixOf]
          rw [show (40 == c) = false by rw [beq_eq_false_iff_ne]; exact fun e => this e.symm]; rfl
      | cons b l => rw [pre_app m (by simp)]; exact hc
    rw [List.cons_append] at hc2
    rw [List.cons_append, scanC_tok hb hc2, ← List.cons_append]
    cases hr : readP (c :: l) with
    | error e' =>
      rw [hr] at h
      simp only [Except.error.injEq, Prod.mk.injEq] at h
      obtain ⟨rfl, rfl, rfl⟩ := h
      rw [read_bad m (by simp) h46 (by rw [hr, he]), he]
    | ok v =>
      obtain ⟨k, t, pa, n⟩ := v
      rw [hr] at h
      simp only [] at h
      have hn := readP_len (by simp) hr
      have hlt : n < (c :: l).length := by
        refine Classical.byContradiction fun hk => ?_
        rw [List.drop_of_length_le (by omega), scanC_nil] at h; cases h
      rw [read_app m h46 hr hlt]
      simp only []
      rw [drop_app m hn.2, take_app m hn.2]
      exact scan_first m e x y he N _ _ _ _ (by rw [List.length_drop, List.length_cons]; omega) (last_drop h46 n) h

/-- P4.7 -/
theorem scanP_first {s m : Bytes} {x y : Nat} (h46 : ∀ a, s ≠ a ++ [46]) (hlen : (s ++ m).length ≤ 1048576) (h : scanP s = .error (40, x, y)) : scanP (s ++ m) = .error (40, x, y) := by
  unfold scanP at h ⊢
  rw [List.length_append] at hlen
  rw [if_neg (by omega)] at h
  rw [if_neg (by rw [List.length_append]; omega)]
  exact scan_first m 40 x y rfl s.length s (1, 1) [] [] (Nat.le_refl _) h46 h

end Go.Proofs.YtcogfalhodjmfaaGreatDoor
