/- Plain laws of writing: what is written of a token is read as this token; tokens of a text can be written; joined tokens are scanned again. No program in sight. -/
import Derived.Test.YtcogfalhodjmfaaGreatDoorLexG
import Derived.Test.YtcogfalhodjmfaaGreatDoorLexWp
namespace Go.Proofs.YtcogfalhodjmfaaGreatDoor
open Kiln

def dots (pa : List Bytes) : Bytes := pa.flatMap (· ++ [46])

theorem join_snoc : ∀ (pa : List Bytes) (t : Bytes), Go.Lib.join (pa ++ [t]) [46] = dots pa ++ t
  | [], t => by simp [Go.Lib.join, dots, List.intercalate]
  | [a], t => by simp [Go.Lib.join, dots, List.intercalate, List.intersperse]
  | a :: b :: pa, t => by
    have ih := join_snoc (b :: pa) t
    unfold Go.Lib.join at ih ⊢
    have e : [46].intercalate (a :: b :: pa ++ [t]) = a ++ [46] ++ [46].intercalate (b :: pa ++ [t]) := by simp [List.intercalate, List.intersperse]
    rw [e, ih]
    simp [dots]

theorem take_dot {l : Bytes} {k j : Nat} (h : atB l k = 46) : l.take (k + 1 + j) = l.take k ++ [46] ++ (l.drop (k + 1)).take j := by
  have hk := atB_lt h (by decide)
  rw [List.take_add]
  congr 1
  rw [List.take_succ_eq_append_getElem hk]
  congr 1
  unfold atB at h
  rw [List.getD_eq_getElem?_getD, List.getElem?_eq_getElem hk] at h
  simp only [Option.getD_some] at h
  rw [h]

theorem wordP_text : ∀ (f : Nat) (path : List Bytes) (m : Nat) (l : Bytes) {k : Nat} {t : Bytes} {pa : List Bytes} {n : Nat}, wordP f path m l = .ok (k, t, pa, n) →
    (k = 1 ∧ path = [] ∧ pa = [] ∧ t = l.take (n - m)) ∨ (k = 2 ∧ dots pa ++ t = dots path ++ l.take (n - m))
  | 0, _, _, _, _, _, _, _, h => by simp [wordP] at h
  | f + 1, path, m, l, k, t, pa, n, h => by
    simp only [wordP] at h
    split at h
    · split at h
      · rename_i hp
        simp only [Except.ok.injEq, Prod.mk.injEq] at h
        obtain ⟨rfl, rfl, rfl, rfl⟩ := h
        exact .inl ⟨rfl, hp, rfl, by rw [show m + cntB wordB l - m = cntB wordB l by omega]⟩
      · cases h
    · split at h
      · rename_i h46
        have h46 : atB l (cntB wordB l) = 46 := by simpa using h46
        split at h
        · have h1 := (wordP_len _ _ _ _ h).1
          rcases wordP_text f _ _ _ h with ⟨_, hp, _⟩ | ⟨hk, ht⟩
          · simp at hp
          · refine .inr ⟨hk, ?_⟩
            rw [ht, show n - m = cntB wordB l + 1 + (n - (m + cntB wordB l + 1)) by omega, take_dot h46]
            simp [dots]
        · split at h
          · cases h
          · simp only [Except.ok.injEq, Prod.mk.injEq] at h
            obtain ⟨rfl, rfl, rfl, rfl⟩ := h
            refine .inr ⟨rfl, ?_⟩
            rw [show m + cntB wordB l + 1 + cntB signB (l.drop (cntB wordB l + 1)) - m = cntB wordB l + 1 + cntB signB (l.drop (cntB wordB l + 1)) by omega, take_dot h46]
            simp [dots]
      · simp only [Except.ok.injEq, Prod.mk.injEq] at h
        obtain ⟨rfl, rfl, rfl, rfl⟩ := h
        exact .inr ⟨rfl, by rw [show m + cntB wordB l - m = cntB wordB l by omega]⟩

theorem wtext_plain {k : Nat} (h2 : k ≠ 2) (h6 : k ≠ 6) (h7 : k ≠ 7) (t : Bytes) (pa : List Bytes) : wtext k t pa = t := by
  unfold wtext
  rw [if_neg (by rw [beq_iff_eq]; omega), if_neg (by rw [beq_iff_eq]; omega), if_neg (by rw [beq_iff_eq]; omega)]
theorem wtext_name (t : Bytes) (pa : List Bytes) : wtext 2 t pa = dots pa ++ t := by
  rw [← join_snoc]; rfl

theorem numEnd_kind' (l : Bytes) : (numEnd l).2 = 4 ∨ (numEnd l).2 = 5 := by
  unfold numEnd
  simp only []
  repeat' split
  all_goals first | exact .inl rfl | exact .inr rfl

/-- the bytes of a token that is no string and no char are what is written of it -/
theorem read_text {l : Bytes} {k : Nat} {t : Bytes} {pa : List Bytes} {n : Nat} (h : readP l = .ok (k, t, pa, n)) : k = 6 ∨ k = 7 ∨ l.take n = wtext k t pa := by
  have hnum : ∀ {k t pa n}, numberP l = .ok (k, t, pa, n) → l.take n = wtext k t pa := by
    intro k t pa n h
    unfold numberP at h
    simp only [] at h
    split at h
    · cases h
    · split at h
      · cases h
      · simp only [Except.ok.injEq, Prod.mk.injEq] at h
        obtain ⟨rfl, rfl, rfl, rfl⟩ := h
        have := numEnd_kind' l
        rw [wtext_plain (by omega) (by omega) (by omega)]
  unfold readP at h
  simp only [] at h
  split at h
  · rcases wordP_text _ _ _ _ h with ⟨rfl, _, rfl, rfl⟩ | ⟨rfl, ht⟩
    · exact .inr (.inr (by rw [wtext_plain (by omega) (by omega) (by omega)]; rfl))
    · exact .inr (.inr (by rw [show ((2 : Nat) : Int) = 2 from rfl, wtext_name, ht]; rfl))
  split at h
  · exact .inr (.inr (hnum h))
  split at h
  · unfold signP at h
    split at h
    · exact .inr (.inr (hnum h))
    · split at h
      · unfold charP at h
        split at h
        · cases h
        · split at h
          · simp only [Except.ok.injEq, Prod.mk.injEq] at h; exact .inr (.inl h.1.symm)
          · cases h
      · simp only [Except.ok.injEq, Prod.mk.injEq] at h
        obtain ⟨rfl, rfl, rfl, rfl⟩ := h
        refine .inr (.inr ?_)
        split
        · rw [wtext_plain (by omega) (by omega) (by omega)]
        · rw [show ((2 : Nat) : Int) = 2 from rfl, wtext_name]; rfl
  split at h
  · unfold textP at h
    split at h
    · cases h
    · split at h
      · cases h
      · simp only [Except.ok.injEq, Prod.mk.injEq] at h; exact .inl h.1.symm
  split at h
  · unfold tyvarP at h
    simp only [Except.ok.injEq, Prod.mk.injEq] at h
    obtain ⟨rfl, rfl, rfl, rfl⟩ := h
    exact .inr (.inr (by rw [wtext_plain (by omega) (by omega) (by omega)]))
  · unfold otherP at h
    generalize (if [46, 46, 46].isPrefixOf l = true then 3 else 1) = m at h
    replace h : (if resB (l.take m) then (.ok (1, l.take m, [], m) : Rd) else .error 40) = .ok (k, t, pa, n) := h
    split at h
    · simp only [Except.ok.injEq, Prod.mk.injEq] at h
      obtain ⟨rfl, rfl, rfl, rfl⟩ := h
      exact .inr (.inr (by rw [wtext_plain (by omega) (by omega) (by omega)]))
    · cases h

/-- a string, a char: what they say is short, and how many bytes they take -/
theorem read_quoted {l : Bytes} {k : Nat} {t : Bytes} {pa : List Bytes} {n : Nat} (h : readP l = .ok (k, t, pa, n)) : (k = 6 → pa = [] ∧ t.length ≤ 65536 ∧ t.length + 2 ≤ n) ∧ (k = 7 → pa = [] ∧ t.length = 1 ∧ 3 ≤ n) := by
  have hqn : ∀ (f : Nat) (r acc : Bytes) (m : Nat) {t : Bytes} {n : Nat}, quotedP f r acc m = some (t, n) → t.length + m + 1 ≤ acc.length + n := by
    intro f
    induction f with
    | zero => intro r acc m t n h; simp [quotedP] at h
    | succ f ih =>
      intro r acc m t n h
      cases r with
      | nil => simp [quotedP] at h
      | cons c r =>
        simp only [quotedP] at h
        split at h
        · simp only [Option.some.injEq, Prod.mk.injEq] at h
          obtain ⟨rfl, rfl⟩ := h; omega
        · split at h
          · cases h
          · split at h
            · have := ih _ _ _ h
              simp only [List.length_append, List.length_cons, List.length_nil] at this; omega
            · split at h
              · cases h
              · have := ih _ _ _ h
                split at this
                · simp only [List.length_append, List.length_cons, List.length_nil] at this; omega
                · omega
  have hnum : ∀ {k t pa n}, numberP l = .ok (k, t, pa, n) → k ≠ 6 ∧ k ≠ 7 := by
    intro k t pa n h
    unfold numberP at h
    simp only [] at h
    split at h
    · cases h
    · split at h
      · cases h
      · simp only [Except.ok.injEq, Prod.mk.injEq] at h
        have := numEnd_kind' l
        omega
  have fin : k ≠ 6 ∧ k ≠ 7 → (k = 6 → pa = [] ∧ t.length ≤ 65536 ∧ t.length + 2 ≤ n) ∧ (k = 7 → pa = [] ∧ t.length = 1 ∧ 3 ≤ n) := fun h => ⟨fun e => absurd e h.1, fun e => absurd e h.2⟩
  unfold readP at h
  simp only [] at h
  split at h
  · rcases wordP_text _ _ _ _ h with ⟨rfl, _⟩ | ⟨rfl, _⟩ <;> exact fin (by omega)
  split at h
  · exact fin (hnum h)
  split at h
  · unfold signP at h
    split at h
    · exact fin (hnum h)
    · split at h
      · have h3 := char_two h
        unfold charP at h
        split at h
        · cases h
        · rename_i s m hq
          split at h
          · rename_i h1
            simp only [Except.ok.injEq, Prod.mk.injEq] at h
            obtain ⟨rfl, rfl, rfl, rfl⟩ := h
            exact ⟨fun e => by omega, fun _ => ⟨rfl, h1, h3⟩⟩
          · cases h
      · simp only [Except.ok.injEq, Prod.mk.injEq] at h
        refine fin ?_
        rw [← h.1]
        split <;> omega
  split at h
  · unfold textP at h
    split at h
    · cases h
    · rename_i s m hq
      have := hqn _ _ _ _ hq
      split at h
      · cases h
      · simp only [Except.ok.injEq, Prod.mk.injEq] at h
        obtain ⟨rfl, rfl, rfl, rfl⟩ := h
        simp only [List.length_nil] at this
        exact ⟨fun _ => ⟨rfl, by omega, by omega⟩, fun e => by omega⟩
  split at h
  · unfold tyvarP at h
    simp only [Except.ok.injEq, Prod.mk.injEq] at h
    exact fin (by omega)
  · unfold otherP at h
    generalize (if [46, 46, 46].isPrefixOf l = true then 3 else 1) = m at h
    replace h : (if resB (l.take m) then (.ok (1, l.take m, [], m) : Rd) else .error 40) = .ok (k, t, pa, n) := h
    split at h
    · simp only [Except.ok.injEq, Prod.mk.injEq] at h
      exact fin (by omega)
    · cases h

/- what quote writes is read back -/
theorem esc_self (c : UInt8) (h : (c == 34 || c == 92) = true) (R : Bytes) : escP (c :: R) = ((c.toNat : Int), 1) := by
  have h1 : ¬ 0 ≤ Go.Lib.indexByte escL c := by
    simp only [Bool.or_eq_true, beq_iff_eq] at h
    rcases h with rfl | rfl <;> decide
  unfold escP
  rw [if_neg (by simp)]
  simp only [show atB (c :: R) 0 = c from rfl]
  rw [if_neg h1, if_pos h]

theorem esc_digs (c : UInt8) (R : Bytes) : escP ((48 + c / 100) :: (48 + c / 10 % 10) :: (48 + c % 10) :: R) = ((c.toNat : Int), 3) := by
  have hA := all_u8G (p := fun c => (!decide (0 ≤ Go.Lib.indexByte escL (48 + c / 100))) && !((48 + c / 100) == 34 || (48 + c / 100) == 92) && !((48 + c / 100) == 94) && !((48 + c / 100) == 117) && digitB (48 + c / 100) && (numVal 10 0 [48 + c / 100, 48 + c / 10 % 10, 48 + c % 10] == some c.toNat)) (by decide +kernel) c
  simp only [Bool.and_eq_true, Bool.not_eq_true', decide_eq_false_iff_not, beq_iff_eq] at hA
  obtain ⟨⟨⟨⟨⟨h1, h2⟩, h3⟩, h4⟩, h5⟩, h6⟩ := hA
  have hb : basedP 10 3 ((48 + c / 100) :: (48 + c / 10 % 10) :: (48 + c % 10) :: R) = (c.toNat : Int) := by
    unfold basedP
    rw [if_neg (by simp)]
    simp only [List.take_succ_cons, List.take_zero]
    rw [h6]
    have := c.toNat_lt
    simp only []
    rw [if_neg (by omega)]
  unfold escP
  rw [if_neg (by simp)]
  simp only [show ∀ (x : UInt8) (L : Bytes), atB (x :: L) 0 = x from fun _ _ => rfl]
  rw [if_neg h1, if_neg (by rw [h2]; exact Bool.false_ne_true), if_neg (by rw [h3]; exact Bool.false_ne_true), if_neg (by rw [h4]; exact Bool.false_ne_true), if_pos h5, hb, if_pos (by omega)]

theorem quoted_quote (R : Bytes) : ∀ (t acc : Bytes) (m f : Nat), (t.flatMap quoteB ++ 34 :: R).length < f → quotedP f (t.flatMap quoteB ++ 34 :: R) acc m = some (acc ++ t, m + (t.flatMap quoteB).length + 1)
  | _, _, _, 0, h => by omega
  | [], acc, m, f + 1, _ => by simp [quotedP]
  | c :: t, acc, m, f + 1, h => by
    have back : ((c.toNat : Int)).toNat.toUInt8 = c := by simp
    rw [List.flatMap_cons] at h ⊢
    rw [List.append_assoc] at h ⊢
    have fin : ∀ (x : Nat), acc ++ [c] ++ t = acc ++ c :: t := fun _ => by simp
    by_cases h1 : (c == 34 || c == 92) = true
    · have e : quoteB c = [92, c] := by unfold quoteB; rw [if_pos h1]
      rw [e] at h ⊢
      simp only [List.cons_append, List.nil_append, List.length_cons] at h ⊢
      rw [quotedP, if_neg (by decide), if_neg (by decide), if_neg (by decide)]
      simp only [esc_self c h1]
      rw [if_neg (by decide), if_pos (by omega), back]
      rw [show List.drop 1 (c :: (List.flatMap quoteB t ++ 34 :: R)) = List.flatMap quoteB t ++ 34 :: R from rfl]
      rw [quoted_quote R t (acc ++ [c]) (m + 1 + 1) f (by simp only [List.length_append, List.length_cons] at h ⊢; omega), fin 0]
      congr 2
      omega
    · simp only [Bool.or_eq_true, beq_iff_eq, not_or] at h1
      have h1' : ¬ (c == 34 || c == 92) = true := by simp [h1.1, h1.2]
      by_cases h2 : (decide (c.toNat < 32) || decide (126 < c.toNat)) = true
      · have e : quoteB c = [92, 48 + c / 100, 48 + c / 10 % 10, 48 + c % 10] := by unfold quoteB; rw [if_neg h1', if_pos h2]
        rw [e] at h ⊢
        simp only [List.cons_append, List.nil_append, List.length_cons] at h ⊢
        rw [quotedP, if_neg (by decide), if_neg (by decide), if_neg (by decide)]
        simp only [esc_digs c]
        rw [if_neg (by decide), if_pos (by omega), back]
        rw [show List.drop 3 ((48 + c / 100) :: (48 + c / 10 % 10) :: (48 + c % 10) :: (List.flatMap quoteB t ++ 34 :: R)) = List.flatMap quoteB t ++ 34 :: R from rfl]
        rw [quoted_quote R t (acc ++ [c]) (m + 1 + 3) f (by simp only [List.length_append, List.length_cons] at h ⊢; omega), fin 0]
        congr 2
        omega
      · have e : quoteB c = [c] := by unfold quoteB; rw [if_neg h1', if_neg h2]
        rw [e] at h ⊢
        simp only [List.cons_append, List.nil_append, List.length_cons] at h ⊢
        rw [quotedP, if_neg (by rw [beq_iff_eq]; exact h1.1), if_neg h2, if_pos (by rw [bne_iff_ne]; exact h1.2)]
        rw [quoted_quote R t (acc ++ [c]) (m + 1) f (by simp only [List.length_append, List.length_cons] at h ⊢; omega), fin 0]
        congr 2
        omega

theorem quoteP_len (t : Bytes) : (quoteP t).length = (t.flatMap quoteB).length + 2 := by simp [quoteP]

theorem read_quote6 (t : Bytes) : readP (quoteP t) = if 65536 < t.length then .error 2 else .ok (6, t, [], (quoteP t).length) := by
  have e : readP (quoteP t) = textP (quoteP t) := by
    unfold readP
    rw [show atB (quoteP t) 0 = 34 from rfl]
    simp only []
    rw [if_neg (by decide), if_neg (by decide), if_neg (by decide), if_pos (by decide)]
  rw [e]
  unfold textP
  have hq := quoted_quote [] t [] 1 ((quoteP t).length + 1) (by rw [quoteP_len]; simp)
  rw [show (quoteP t).drop 1 = t.flatMap quoteB ++ 34 :: [] from rfl, hq]
  simp only [List.nil_append]
  rw [quoteP_len, show 1 + (List.flatMap quoteB t).length + 1 = (List.flatMap quoteB t).length + 2 by omega]

theorem read_quote7 (t : Bytes) : readP (35 :: quoteP t) = if t.length = 1 then .ok (7, t, [], (35 :: quoteP t).length) else .error 42 := by
  have e : readP (35 :: quoteP t) = charP (35 :: quoteP t) := by
    unfold readP
    rw [show atB (35 :: quoteP t) 0 = 35 from rfl]
    simp only []
    rw [if_neg (by decide), if_neg (by decide), if_pos (by decide)]
    unfold signP
    rw [show atB (35 :: quoteP t) 0 = 35 from rfl, if_neg (by simp), if_pos (by rfl)]
  rw [e]
  unfold charP
  have hq := quoted_quote [] t [] 2 ((35 :: quoteP t).length + 1) (by rw [List.length_cons, quoteP_len]; simp)
  rw [show (35 :: quoteP t).drop 2 = t.flatMap quoteB ++ 34 :: [] from rfl, hq]
  simp only [List.nil_append]
  rw [List.length_cons, quoteP_len, show 2 + (List.flatMap quoteB t).length + 1 = (List.flatMap quoteB t).length + 2 + 1 by omega]

end Go.Proofs.YtcogfalhodjmfaaGreatDoor
