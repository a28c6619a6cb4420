/- Plain laws of the scanner's readers: how many bytes they take. No condition, no program in sight. -/
import Derived.Test.YtbchkldhnjahaaaGreatDoorLexSpec
namespace Kiln

theorem atB_lt {l : Bytes} {k : Nat} {c : UInt8} (h : atB l k = c) (hc : c ≠ 0) : k < l.length := by
  refine Classical.byContradiction fun hk => hc ?_
  rw [← h, atB, List.getD_eq_getElem?_getD, List.getElem?_eq_none (by omega)]; rfl

theorem cnt_drop (p : UInt8 → Bool) (l : Bytes) (k : Nat) (h : k ≤ l.length) : k + cntB p (l.drop k) ≤ l.length := by
  have := cntB_le p (l.drop k); rw [List.length_drop] at this; omega

theorem cnt_pos {p : UInt8 → Bool} {l : Bytes} (h : p (atB l 0) = true) (h0 : p 0 = false) : 0 < cntB p l := by
  cases l with
  | nil => simp [atB, h0] at h
  | cons c l => simp only [atB, List.getD_cons_zero] at h; simp [cntB, h]

theorem wordP_len : ∀ (f : Nat) (path : List Bytes) (m : Nat) (l : Bytes) {k : Nat} {t : Bytes} {pa : List Bytes} {n : Nat}, wordP f path m l = .ok (k, t, pa, n) → m + cntB wordB l ≤ n ∧ n ≤ m + l.length
  | 0, _, _, _, _, _, _, _, h => by simp [wordP] at h
  | f + 1, path, m, l, k, t, pa, n, h => by
    have hl := cntB_le wordB l
    simp only [wordP] at h
    split at h
    · split at h
      · simp only [Except.ok.injEq, Prod.mk.injEq] at h; omega
      · cases h
    · split at h
      · rename_i h46
        have hlt := atB_lt (by simpa using h46) (by decide)
        split at h
        · have := wordP_len f _ _ _ h
          rw [List.length_drop] at this; omega
        · split at h
          · cases h
          · simp only [Except.ok.injEq, Prod.mk.injEq] at h
            have := cnt_drop signB l (cntB wordB l + 1) (by omega)
            omega
      · simp only [Except.ok.injEq, Prod.mk.injEq] at h; omega

theorem numEnd_len (l : Bytes) (h : digitB (atB l 0) = true ∨ atB l 0 = 126 ∧ digitB (atB l 1) = true) : 1 ≤ (numEnd l).1 ∧ (numEnd l).1 ≤ l.length := by
  have hne : 0 < l.length := by
    rcases h with h | h
    · refine Classical.byContradiction fun hk => ?_
      have : l = [] := List.eq_nil_of_length_eq_zero (by omega)
      subst this; revert h; decide
    · have := atB_lt h.1 (by decide); omega
  obtain ⟨f, hf⟩ : ∃ f, (if atB l 0 == 126 then 1 else 0 : Nat) = f := ⟨_, rfl⟩
  have hfl : f ≤ 1 := by rw [← hf]; split <;> omega
  have hd : 1 ≤ f + cntB digitB (l.drop f) := by
    rcases h with h | h
    · by_cases h1 : (atB l 0 == 126) = true
      · rw [← hf, if_pos h1]; omega
      · rw [← hf, if_neg h1]
        have := cnt_pos (p := digitB) (l := l) h (by decide)
        simp; omega
    · rw [← hf, if_pos (by rw [h.1]; rfl)]; omega
  have e0 := cnt_drop digitB l f (by omega)
  have step : ∀ x, x ≤ l.length → (0 < cntB digitB (l.drop (x + 1))) → x + 1 ≤ l.length := fun x hx hc => by
    refine Classical.byContradiction fun hk => ?_
    rw [List.drop_of_length_le (by omega)] at hc; simp [cntB] at hc
  have stepG : ∀ (p : UInt8 → Bool) x, 0 < cntB p (l.drop x) → x ≤ l.length := fun p x hc => by
    refine Classical.byContradiction fun hk => ?_
    rw [List.drop_of_length_le (by omega)] at hc; simp [cntB] at hc
  unfold numEnd
  simp only [hf]
  split
  · rename_i hx
    have hx2 : 0 < cntB hexB (l.drop (f + 2)) := by
      simp only [Bool.and_eq_true, decide_eq_true_eq] at hx; exact hx.2
    have := cnt_drop hexB l (f + 2) (stepG _ _ hx2)
    exact ⟨by simp only []; omega, this⟩
  · have hp : ∀ p : Nat × Nat, p = (if atB l (f + cntB digitB (l.drop f)) == 46 && decide (0 < cntB digitB (l.drop (f + cntB digitB (l.drop f) + 1))) then (f + cntB digitB (l.drop f) + 1 + cntB digitB (l.drop (f + cntB digitB (l.drop f) + 1)), 5) else (f + cntB digitB (l.drop f), 4)) → 1 ≤ p.1 ∧ p.1 ≤ l.length := by
      rintro p rfl
      split
      · rename_i hx
        simp only [Bool.and_eq_true, decide_eq_true_eq] at hx
        have := cnt_drop digitB l _ (stepG _ _ hx.2)
        exact ⟨by simp only []; omega, this⟩
      · exact ⟨hd, e0⟩
    generalize (if atB l (f + cntB digitB (l.drop f)) == 46 && decide (0 < cntB digitB (l.drop (f + cntB digitB (l.drop f) + 1))) then (f + cntB digitB (l.drop f) + 1 + cntB digitB (l.drop (f + cntB digitB (l.drop f) + 1)), 5) else (f + cntB digitB (l.drop f), 4) : Nat × Nat) = p at *
    obtain ⟨h1, h2⟩ := hp p rfl
    clear hp
    generalize hm : p.1 + 1 + (if atB l (p.1 + 1) == 126 then 1 else 0 : Nat) = m
    have hm1 : 1 ≤ m := by omega
    split
    · rename_i hx
      simp only [Bool.and_eq_true, decide_eq_true_eq] at hx
      have := cnt_drop digitB l _ (stepG _ _ hx.2)
      exact ⟨by omega, this⟩
    · exact ⟨h1, h2⟩

theorem escP_fits (l : Bytes) (h : (escP l).2 ≠ 0) : (escP l).2 ≤ l.length := by
  have hl := cntB_le blankB l
  have hb : ∀ (b n : Nat) (l : Bytes), 0 ≤ basedP b n l → n ≤ l.length := fun b n l hh => by
    refine Classical.byContradiction fun hk => ?_
    unfold basedP at hh; rw [if_pos (by omega)] at hh; omega
  revert h
  cases l with
  | nil => simp [escP]
  | cons c l =>
    unfold escP
    rw [if_neg (by simp)]
    simp only []
    split
    · simp
    split
    · simp
    split
    · split
      · rename_i h
        intro _
        have := atB_lt (l := c :: l) (k := 1) rfl (by
          intro e; rw [e] at h; revert h; decide)
        simp only [List.length_cons] at this ⊢; omega
      · simp
    split
    · split
      · rename_i h
        have := hb _ _ _ h
        intro _
        simp only [List.drop_succ_cons, List.drop_zero] at this
        simp only [List.length_cons]; omega
      · simp
    split
    · split
      · rename_i h
        have := hb _ _ _ h
        intro _; exact this
      · simp
    · split
      · rename_i h
        simp only [Bool.and_eq_true, beq_iff_eq] at h
        have := atB_lt h.2 (by decide)
        intro _; exact this
      · simp

theorem quotedP_len : ∀ (f : Nat) (l acc : Bytes) (m : Nat) {t : Bytes} {n : Nat}, quotedP f l acc m = some (t, n) → m < n ∧ n ≤ m + l.length ∧ t.length ≤ acc.length + l.length
  | 0, _, _, _, _, _, h => by simp [quotedP] at h
  | _ + 1, [], _, _, _, _, h => by simp [quotedP] at h
  | f + 1, c :: l, acc, m, t, n, h => by
    simp only [quotedP] at h
    simp only [List.length_cons]
    split at h
    · simp only [Option.some.injEq, Prod.mk.injEq] at h
      obtain ⟨rfl, rfl⟩ := h; omega
    · split at h
      · cases h
      · split at h
        · have := quotedP_len f _ _ _ h
          simp only [List.length_append, List.length_cons, List.length_nil] at this; omega
        · split at h
          · cases h
          · rename_i hx
            have h1 := quotedP_len f _ _ _ h
            have h2 := escP_fits l hx
            rw [List.length_drop] at h1
            have : (if 0 ≤ (escP l).1 then acc ++ [(escP l).1.toNat.toUInt8] else acc).length ≤ acc.length + 1 := by split <;> simp
            omega

theorem textP_len {l : Bytes} {k : Nat} {t : Bytes} {pa : List Bytes} {n : Nat} (h : textP l = .ok (k, t, pa, n)) : 1 ≤ n ∧ n ≤ l.length := by
  unfold textP at h
  split at h
  · cases h
  · rename_i s m hq
    split at h
    · cases h
    · simp only [Except.ok.injEq, Prod.mk.injEq] at h
      have h1 := quotedP_len _ _ _ _ hq
      rw [List.length_drop] at h1
      omega
theorem charP_len {l : Bytes} {k : Nat} {t : Bytes} {pa : List Bytes} {n : Nat} (h : charP l = .ok (k, t, pa, n)) : 1 ≤ n ∧ n ≤ l.length := by
  unfold charP at h
  split at h
  · cases h
  · rename_i s m hq
    split at h
    · simp only [Except.ok.injEq, Prod.mk.injEq] at h
      have h1 := quotedP_len _ _ _ _ hq
      rw [List.length_drop] at h1
      omega
    · cases h
theorem numberP_len {l : Bytes} {k : Nat} {t : Bytes} {pa : List Bytes} {n : Nat} (h : numberP l = .ok (k, t, pa, n)) (hd : digitB (atB l 0) = true ∨ atB l 0 = 126 ∧ digitB (atB l 1) = true) : 1 ≤ n ∧ n ≤ l.length := by
  have := numEnd_len l hd
  unfold numberP at h
  simp only [] at h
  split at h
  · cases h
  · split at h
    · cases h
    · simp only [Except.ok.injEq, Prod.mk.injEq] at h; omega

theorem readP_len {l : Bytes} {k : Nat} {t : Bytes} {pa : List Bytes} {n : Nat} (hne : l ≠ []) (h : readP l = .ok (k, t, pa, n)) : 1 ≤ n ∧ n ≤ l.length := by
  have hl : 0 < l.length := List.length_pos_iff.2 hne
  unfold readP at h
  simp only [] at h
  split at h
  · rename_i hlet
    have h1 := wordP_len _ _ _ _ h
    have h2 := cnt_pos (p := wordB) (l := l) (by unfold wordB wordI; unfold letterB at hlet; rw [hlet]; rfl) (by decide)
    omega
  split at h
  · rename_i hd; exact numberP_len h (.inl hd)
  split at h
  · rename_i hs
    unfold signP at h
    split at h
    · rename_i hh
      simp only [Bool.and_eq_true, beq_iff_eq] at hh
      exact numberP_len h (.inr hh)
    split at h
    · exact charP_len h
    · simp only [Except.ok.injEq, Prod.mk.injEq] at h
      have h1 := cntB_le signB l
      have h2 : 0 < cntB signB l := cnt_pos (by
        simp only [Bool.or_eq_true, beq_iff_eq] at hs
        rcases hs with hs | hs
        · rw [hs]; decide
        · exact hs) (by decide)
      omega
  split at h
  · exact textP_len h
  split at h
  · unfold tyvarP at h
    simp only [Except.ok.injEq, Prod.mk.injEq] at h
    have := cnt_drop wordB l 1 (by omega)
    omega
  · unfold otherP at h
    have hm : ∀ m : Nat, (if [46, 46, 46].isPrefixOf l then 3 else 1) = m → 1 ≤ m ∧ m ≤ l.length := by
      rintro m rfl
      split
      · rename_i hp
        have := (List.isPrefixOf_iff_prefix.1 hp).length_le
        simp at this; omega
      · omega
    generalize (if [46, 46, 46].isPrefixOf l then 3 else 1 : Nat) = m at *
    have := hm m rfl
    replace h : (if resB (List.take m l) = true then Except.ok (1, List.take m l, [], m) else Except.error 40 : Rd) = Except.ok (k, t, pa, n) := h
    split at h
    · simp only [Except.ok.injEq, Prod.mk.injEq] at h
      obtain ⟨_, _, _, rfl⟩ := h
      exact this
    · cases h

theorem commP_len : ∀ (f d m : Nat) (l : Bytes) {n : Nat}, commP f d m l = some n → m + 2 ≤ n ∧ n ≤ m + l.length
  | 0, _, _, _, _, h => by simp [commP] at h
  | _ + 1, _, _, [], _, h => by simp [commP] at h
  | f + 1, d, m, c :: l, n, h => by
    simp only [commP] at h
    simp only [List.length_cons]
    have two : ∀ {x y : UInt8}, [x, y].isPrefixOf (c :: l) = true → 1 ≤ l.length := fun hp => by
      have := (List.isPrefixOf_iff_prefix.1 hp).length_le
      simp at this; omega
    split at h
    · rename_i hp
      have := commP_len f _ _ _ h
      rw [List.length_drop] at this
      have := two hp
      omega
    · split at h
      · rename_i hp
        have := two hp
        split at h
        · simp only [Option.some.injEq] at h; omega
        · have := commP_len f _ _ _ h
          rw [List.length_drop] at this
          omega
      · have := commP_len f _ _ _ h
        omega

/- scanG without its fuel -/
theorem scanG_fuel {rd : Bytes → Rd} {cm : Bytes → Option Nat} (hr : ∀ l k t pa n, l ≠ [] → rd l = .ok (k, t, pa, n) → 1 ≤ n) (hc : ∀ l n, cm l = some n → 1 ≤ n) :
    ∀ (f g : Nat) (l : Bytes) (p : Nat × Nat) (acc : List Tok), l.length < f → l.length < g → scanG rd cm f l p acc = scanG rd cm g l p acc
  | 0, _, _, _, _, h, _ => by omega
  | _, 0, _, _, _, _, h => by omega
  | f + 1, g + 1, [], _, _, _, _ => rfl
  | f + 1, g + 1, c :: l, p, acc, hf, hg => by
    have ih := fun l p acc h1 h2 => scanG_fuel hr hc f g l p acc h1 h2
    simp only [List.length_cons] at hf hg
    simp only [scanG]
    split
    · exact ih _ _ _ (by omega) (by omega)
    split
    · split
      · rfl
      · rename_i n hn
        have := hc _ _ hn
        exact ih _ _ _ (by rw [List.length_drop, List.length_cons]; omega) (by rw [List.length_drop, List.length_cons]; omega)
    · split
      · rfl
      · rename_i k t pa n hn
        have := hr _ _ _ _ _ (by simp) hn
        exact ih _ _ _ (by rw [List.length_drop, List.length_cons]; omega) (by rw [List.length_drop, List.length_cons]; omega)

def scanC (l : Bytes) (p : Nat × Nat) (acc : List Tok) : Scanned := scanG readP (fun l => commP (l.length + 1) 0 0 l) (l.length + 1) l p acc

theorem scanC_fuel (f : Nat) (l : Bytes) (p : Nat × Nat) (acc : List Tok) (h : l.length < f) : scanG readP (fun l => commP (l.length + 1) 0 0 l) f l p acc = scanC l p acc :=
  scanG_fuel (fun _ _ _ _ _ hne h => (readP_len hne h).1) (fun _ _ h => by have := commP_len _ _ _ _ h; omega) _ _ _ _ _ h (by omega)

theorem scanC_nil (p : Nat × Nat) (acc : List Tok) : scanC [] p acc = .ok acc := rfl
theorem scanC_blank {c : UInt8} {l : Bytes} {p : Nat × Nat} {acc : List Tok} (h : blankB c = true) : scanC (c :: l) p acc = scanC l (adv1 p c) acc := by
  unfold scanC; rw [scanG, if_pos h]; rfl
theorem scanC_comm {c : UInt8} {l : Bytes} {p : Nat × Nat} {acc : List Tok} (h : blankB c = false) (h2 : [40, 42].isPrefixOf (c :: l) = true) :
    scanC (c :: l) p acc = match commP ((c :: l).length + 1) 0 0 (c :: l) with
      | none => .error (41, p.1, p.2)
      | some n => scanC ((c :: l).drop n) (adv p ((c :: l).take n)) acc := by
  conv => lhs; unfold scanC; rw [scanG]
  rw [if_neg (by simp [h]), if_pos h2]
  cases hn : commP ((c :: l).length + 1) 0 0 (c :: l) with
  | none => rfl
  | some n =>
    have := commP_len _ _ _ _ hn
    exact scanC_fuel (c :: l).length ((c :: l).drop n) _ _ (by rw [List.length_drop]; omega)
theorem scanC_tok {c : UInt8} {l : Bytes} {p : Nat × Nat} {acc : List Tok} (h : blankB c = false) (h2 : [40, 42].isPrefixOf (c :: l) = false) :
    scanC (c :: l) p acc = match readP (c :: l) with
      | .error e => .error (e, p.1, p.2)
      | .ok (k, t, pa, n) => scanC ((c :: l).drop n) (adv p ((c :: l).take n)) (acc ++ [⟨k, t, pa, p.1, p.2⟩]) := by
  conv => lhs; unfold scanC; rw [scanG]
  rw [if_neg (by simp [h]), if_neg (by simp [h2])]
  cases hn : readP (c :: l) with
  | error e => rfl
  | ok x =>
    obtain ⟨k, t, pa, n⟩ := x
    have := readP_len (by simp) hn
    exact scanC_fuel (c :: l).length ((c :: l).drop n) _ _ (by rw [List.length_drop]; omega)

end Kiln
