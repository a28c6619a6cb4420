/- Plain laws: how large the tokens of a text are. No program in sight. -/
import Derived.Test.YtcogfalhodjmfaaGreatDoorLexPl
import Derived.Test.YtcogfalhodjmfaaGreatDoorLexWp
namespace Kiln

def sumL (pa : List Bytes) : Nat := (pa.map List.length).sum
theorem sumL_snoc (pa : List Bytes) (s : Bytes) : sumL (pa ++ [s]) = sumL pa + s.length := by simp [sumL]

theorem wordP_size : ∀ (f : Nat) (path : List Bytes) (m : Nat) (l : Bytes) {k : Nat} {t : Bytes} {pa : List Bytes} {n : Nat}, wordP f path m l = .ok (k, t, pa, n) → t.length + sumL pa ≤ sumL path + l.length ∧ pa.length ≤ path.length + l.length
  | 0, _, _, _, _, _, _, _, h => by simp [wordP] at h
  | f + 1, path, m, l, k, t, pa, n, h => by
    have hl := cntB_le wordB l
    simp only [wordP] at h
    split at h
    · split at h
      · rename_i hp
        simp only [Except.ok.injEq, Prod.mk.injEq] at h
        obtain ⟨_, rfl, rfl, _⟩ := h
        rw [List.length_take]
        simp [sumL]; omega
      · cases h
    · split at h
      · rename_i h46
        have hlt := atB_lt (by simpa using h46) (by decide)
        split at h
        · have := wordP_size f _ _ _ h
          rw [sumL_snoc, List.length_drop, List.length_take, List.length_append] at this
          simp only [List.length_cons, List.length_nil] at this
          omega
        · split at h
          · cases h
          · simp only [Except.ok.injEq, Prod.mk.injEq] at h
            obtain ⟨_, rfl, rfl, _⟩ := h
            have := cntB_le signB (l.drop (cntB wordB l + 1))
            rw [List.length_drop] at this
            rw [sumL_snoc, List.length_take, List.length_take, List.length_drop, List.length_append]
            simp only [List.length_cons, List.length_nil]
            omega
      · simp only [Except.ok.injEq, Prod.mk.injEq] at h
        obtain ⟨_, rfl, rfl, _⟩ := h
        rw [List.length_take]
        omega

theorem quotedR_size {f : Nat} {l : Bytes} {q n : Nat} {t : Bytes} (h : quotedP f (l.drop q) [] q = some (t, n)) : t.length ≤ l.length := by
  have := (quotedP_len _ _ _ _ h).2.2
  rw [List.length_drop] at this
  simp at this
  omega

theorem readP_size {l : Bytes} {k : Nat} {t : Bytes} {pa : List Bytes} {n : Nat} (h : readP l = .ok (k, t, pa, n)) : t.length + sumL pa ≤ l.length ∧ pa.length ≤ l.length := by
  have hnum : ∀ {k t pa n}, numberP l = .ok (k, t, pa, n) → t.length + sumL pa ≤ l.length ∧ pa.length ≤ l.length := by
    intro k t pa n h
    unfold numberP at h
    simp only [] at h
    split at h
    · cases h
    · split at h
      · cases h
      · simp only [Except.ok.injEq, Prod.mk.injEq] at h
        obtain ⟨_, rfl, rfl, _⟩ := h
        rw [List.length_take]; simp [sumL]; omega
  unfold readP at h
  simp only [] at h
  split at h
  · have := wordP_size _ _ _ _ h
    simp [sumL] at this ⊢
    omega
  split at h
  · exact hnum h
  split at h
  · unfold signP at h
    split at h
    · exact hnum h
    · split at h
      · unfold charP at h
        split at h
        · cases h
        · rename_i s m hq
          have := quotedR_size hq
          split at h
          · simp only [Except.ok.injEq, Prod.mk.injEq] at h
            obtain ⟨_, rfl, rfl, _⟩ := h
            simp [sumL]; omega
          · cases h
      · simp only [Except.ok.injEq, Prod.mk.injEq] at h
        obtain ⟨_, rfl, rfl, _⟩ := h
        rw [List.length_take]; simp [sumL]; omega
  split at h
  · unfold textP at h
    split at h
    · cases h
    · rename_i s m hq
      have := quotedR_size hq
      split at h
      · cases h
      · simp only [Except.ok.injEq, Prod.mk.injEq] at h
        obtain ⟨_, rfl, rfl, _⟩ := h
        simp [sumL]; omega
  split at h
  · unfold tyvarP at h
    simp only [Except.ok.injEq, Prod.mk.injEq] at h
    obtain ⟨_, rfl, rfl, _⟩ := h
    rw [List.length_take]; simp [sumL]; omega
  · unfold otherP at h
    generalize (if [46, 46, 46].isPrefixOf l = true then 3 else 1) = m at h
    replace h : (if resB (l.take m) then (.ok (1, l.take m, [], m) : Rd) else .error 40) = .ok (k, t, pa, n) := h
    split at h
    · simp only [Except.ok.injEq, Prod.mk.injEq] at h
      obtain ⟨_, rfl, rfl, _⟩ := h
      rw [List.length_take]; simp [sumL]; omega
    · cases h

/-- a token no larger than N -/
def Small (N : Nat) (u : Tok) : Prop := u.text.length + sumL u.path ≤ N ∧ u.path.length ≤ N

theorem scanG_small (N : Nat) {cm : Bytes → Option Nat} (hcm : ∀ l n, cm l = some n → 1 ≤ n) : ∀ (f : Nat) (l : Bytes) (p : Nat × Nat) (acc ts : List Tok), l.length ≤ N → (∀ u ∈ acc, Small N u) → scanG readP cm f l p acc = .ok ts →
    (∀ u ∈ ts, Small N u) ∧ ts.length ≤ acc.length + l.length
  | 0, l, p, acc, ts, _, hacc, h => by
    simp only [scanG, Except.ok.injEq] at h
    subst h; exact ⟨hacc, by omega⟩
  | _ + 1, [], _, acc, ts, _, hacc, h => by
    simp only [scanG, Except.ok.injEq] at h
    subst h; exact ⟨hacc, by simp⟩
  | f + 1, c :: l, p, acc, ts, hN, hacc, h => by
    simp only [scanG] at h
    simp only [List.length_cons] at hN ⊢
    split at h
    · have := scanG_small N hcm f l _ _ _ (by omega) hacc h
      exact ⟨this.1, by omega⟩
    · split at h
      · split at h
        · cases h
        · rename_i n hn
          have h1 := hcm _ _ hn
          have := scanG_small N hcm f _ _ _ _ (by rw [List.length_drop, List.length_cons]; omega) hacc h
          rw [List.length_drop, List.length_cons] at this
          exact ⟨this.1, by omega⟩
      · split at h
        · cases h
        · rename_i k t pa n hr
          have h1 := readP_len (by simp) hr
          have h2 := readP_size hr
          simp only [List.length_cons] at h2 h1
          have := scanG_small N hcm f _ _ _ _ (by rw [List.length_drop, List.length_cons]; omega) (by
            intro u hu
            rw [List.mem_append] at hu
            rcases hu with hu | hu
            · exact hacc u hu
            · simp only [List.mem_singleton] at hu
              subst hu
              exact ⟨by simp only []; omega, by simp only []; omega⟩) h
          rw [List.length_drop, List.length_cons, List.length_append] at this
          simp only [List.length_cons, List.length_nil] at this
          exact ⟨this.1, by omega⟩

theorem scanP_small {l : Bytes} {ts : List Tok} (h : scanP l = .ok ts) : (∀ u ∈ ts, Small 1048576 u) ∧ ts.length ≤ 1048576 := by
  have hl := scanP_size h
  unfold scanP at h
  rw [if_neg (by omega)] at h
  have := scanG_small 1048576 (cm := fun l => commP (l.length + 1) 0 0 l) (fun l n hn => by have := commP_len _ _ _ _ hn; omega) _ _ _ _ _ hl (by simp) h
  exact ⟨this.1, by have := this.2; simp at this; omega⟩

theorem join_len (pa : List Bytes) (sep : Bytes) : (Go.Lib.join pa sep).length ≤ sumL pa + sep.length * pa.length := by
  unfold Go.Lib.join
  match pa with
  | [] => simp [sumL]
  | [a] => simp [sumL, List.intercalate]
  | a :: b :: l =>
    have ih := join_len (b :: l) sep
    unfold Go.Lib.join at ih
    have e : sep.intercalate (a :: b :: l) = a ++ sep ++ sep.intercalate (b :: l) := by simp [List.intercalate, List.intersperse]
    rw [e]
    simp only [List.length_append, List.length_cons, sumL, List.map_cons, List.sum_cons] at ih ⊢
    have : sep.length * (l.length + 1 + 1) = sep.length * (l.length + 1) + sep.length := by rw [Nat.mul_add, Nat.mul_one]
    omega

end Kiln
