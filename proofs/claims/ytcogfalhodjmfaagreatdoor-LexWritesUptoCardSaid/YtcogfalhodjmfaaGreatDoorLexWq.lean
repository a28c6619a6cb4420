/- The reference's Write as a plain function, and that it is the program's. No program in sight. -/
import Derived.Test.YtcogfalhodjmfaaGreatDoorLexI
namespace Kiln

theorem wordP_kind : ∀ (f : Nat) (path : List Bytes) (n : Nat) (l : Bytes) {k : Nat} {t : Bytes} {pa : List Bytes} {m : Nat}, wordP f path n l = .ok (k, t, pa, m) → k = 2 ∨ pa = []
  | 0, _, _, _, _, _, _, _, h => by simp [wordP] at h
  | f + 1, path, n, l, k, t, pa, m, h => by
    simp only [wordP] at h
    split at h
    · split at h
      · simp only [Except.ok.injEq, Prod.mk.injEq] at h; exact .inr h.2.2.1.symm
      · cases h
    · split at h
      · split at h
        · exact wordP_kind f _ _ _ h
        · split at h
          · cases h
          · simp only [Except.ok.injEq, Prod.mk.injEq] at h; exact .inl h.1.symm
      · simp only [Except.ok.injEq, Prod.mk.injEq] at h; exact .inl h.1.symm

theorem numberP_kind {l : Bytes} {k : Nat} {t : Bytes} {pa : List Bytes} {m : Nat} (h : numberP l = .ok (k, t, pa, m)) : pa = [] := by
  unfold numberP at h
  simp only [] at h
  split at h
  · cases h
  · split at h
    · cases h
    · simp only [Except.ok.injEq, Prod.mk.injEq] at h; exact h.2.2.1.symm

theorem readP_kind {l : Bytes} {k : Nat} {t : Bytes} {pa : List Bytes} {n : Nat} (h : readP l = .ok (k, t, pa, n)) : k = 2 ∨ pa = [] := by
  unfold readP at h
  simp only [] at h
  split at h
  · exact wordP_kind _ _ _ _ h
  split at h
  · exact .inr (numberP_kind h)
  split at h
  · unfold signP at h
    split at h
    · exact .inr (numberP_kind h)
    split at h
    · unfold charP at h
      split at h
      · cases h
      · split at h
        · simp only [Except.ok.injEq, Prod.mk.injEq] at h; exact .inr h.2.2.1.symm
        · cases h
    · simp only [Except.ok.injEq, Prod.mk.injEq] at h; exact .inr h.2.2.1.symm
  split at h
  · unfold textP at h
    split at h
    · cases h
    · split at h
      · cases h
      · simp only [Except.ok.injEq, Prod.mk.injEq] at h; exact .inr h.2.2.1.symm
  split at h
  · unfold tyvarP at h
    simp only [Except.ok.injEq, Prod.mk.injEq] at h; exact .inr h.2.2.1.symm
  · unfold otherP at h
    generalize (if [46, 46, 46].isPrefixOf l then 3 else 1 : Nat) = m at *
    replace h : (if resB (List.take m l) = true then Except.ok (1, List.take m l, [], m) else Except.error 40 : Rd) = Except.ok (k, t, pa, n) := h
    split at h
    · simp only [Except.ok.injEq, Prod.mk.injEq] at h; exact .inr h.2.2.1.symm
    · cases h

theorem scanP_kind {l : Bytes} {u : Tok} (hs : scanP l = .ok [u]) : u.kind = 2 ∨ u.path = [] := by
  have hl := scanP_size hs
  unfold scanP at hs
  rw [if_neg (by omega)] at hs
  have hs : scanC l (1, 1) [] = .ok [u] := hs
  obtain ⟨i, k, n, _, h2, h3⟩ := Go.Proofs.YtcogfalhodjmfaaGreatDoor.scan_single l.length l (1, 1) (Nat.le_refl _) hs
  rcases readP_kind h2 with h | h
  · exact .inl (by rw [h3, h]; rfl)
  · exact .inr h

def preR (pa : List Bytes) : Bytes := pa.flatMap (· ++ [46])
def bodyR (k : Int) (t : Bytes) : Bytes := if k == 6 then quoteP t else if k == 7 then 35 :: quoteP t else t

theorem join_pre (t : Bytes) : ∀ pa : List Bytes, Go.Lib.join (pa ++ [t]) [46] = preR pa ++ t
  | [] => by simp [Go.Lib.join, preR]
  | [a] => by simp [Go.Lib.join, preR, List.intercalate]
  | a :: b :: l => by
    have ih := join_pre t (b :: l)
    unfold Go.Lib.join at ih ⊢
    simp only [List.cons_append, List.intercalate, List.intersperse_cons_cons, List.flatten_cons] at ih ⊢
    rw [ih]
    simp [preR]

theorem tokIs_long {l : Bytes} {k : Int} {t : Bytes} {pa : List Bytes} (h : 1048576 < l.length) : tokIs (scanP l) k t pa = false := by
  unfold scanP; rw [if_pos h]; rfl

theorem tokIs_kind {l : Bytes} {k : Int} {t : Bytes} {pa : List Bytes} (hk : k ≠ 2) (hp : pa ≠ []) : tokIs (scanP l) k t pa = false := by
  unfold tokIs
  split
  · rename_i u hu
    have := scanP_kind hu
    rw [Bool.eq_false_iff]
    intro h
    simp only [Bool.and_eq_true, beq_iff_eq] at h
    obtain ⟨⟨h1, _⟩, h3⟩ := h
    rcases this with h | h
    · exact hk (h1.symm.trans h)
    · exact hp (h3.symm.trans h)
  · rfl

theorem writeP_ref (k : Int) (t : Bytes) (pa : List Bytes) : writeP k t pa = if tokIs (scanP (preR pa ++ bodyR k t)) k t pa then .ok (preR pa ++ bodyR k t) else .error 1 := by
  have same : wtext k t pa = preR pa ++ bodyR k t → writeP k t pa = if tokIs (scanP (preR pa ++ bodyR k t)) k t pa then .ok (preR pa ++ bodyR k t) else .error 1 := fun h => by unfold writeP; rw [h]
  by_cases hk : k = 2
  · apply same
    subst hk
    show Go.Lib.join (pa ++ [t]) [46] = preR pa ++ t
    exact join_pre t pa
  · have hk2 : (k == 2) = false := by simpa using hk
    by_cases hp : pa = []
    · apply same
      subst hp
      unfold wtext bodyR
      simp only [hk2, Bool.false_eq_true, if_false]
      rfl
    · unfold writeP
      rw [tokIs_kind hk hp, tokIs_kind hk hp]
      rfl

theorem preR_take (pa : List Bytes) (j : Nat) : (preR (pa.take j)).length ≤ (preR pa).length := by
  conv => rhs; rw [← List.take_append_drop j pa]
  unfold preR
  rw [List.flatMap_append, List.length_append]
  omega

theorem writeP_long {k : Int} {t : Bytes} {pa : List Bytes} {j : Nat} (h : 1048576 < (preR (pa.take j)).length) : writeP k t pa = .error 1 := by
  have := preR_take pa j
  rw [writeP_ref, tokIs_long (by rw [List.length_append]; omega)]
  rfl

theorem preR_snoc (pa : List Bytes) {j : Nat} {x : Bytes} (h : pa[j]? = some x) : preR (pa.take (j + 1)) = preR (pa.take j) ++ x ++ [46] := by
  obtain ⟨hj, rfl⟩ := List.getElem?_eq_some_iff.1 h
  rw [List.take_succ_eq_append_getElem hj]
  unfold preR
  rw [List.flatMap_append]
  simp only [List.flatMap_cons, List.flatMap_nil, List.append_nil, List.append_assoc]

theorem preR_le {pa : List Bytes} {t : Bytes} : (preR pa).length ≤ (Go.Lib.join (pa ++ [t]) [46]).length := by
  rw [join_pre, List.length_append]; omega

end Kiln
