/- Plain laws of writing: Write of every token that a text has, and of no other that is not read again; Join, and what Scan makes of it. No program in sight. -/
import Derived.Test.YtcogfalhodjmfaaGreatDoorLexH
import Derived.Test.YtcogfalhodjmfaaGreatDoorLexSm
namespace Go.Proofs.YtcogfalhodjmfaaGreatDoor
open Kiln

theorem read_head {l : Bytes} (hne : l ≠ []) {k : Nat} {t : Bytes} {pa : List Bytes} {n : Nat} (h : readP l = .ok (k, t, pa, n)) : blankB (atB l 0) = false ∧ ([40, 42].isPrefixOf l = true → n = 1) := by
  have bad : ∀ c, blankB c = true ∨ c = 40 → letterB c = false ∧ digitB c = false ∧ (c == 126 || signB c) = false ∧ (c == 34) = false ∧ (c == 39) = false ∧ (c == 46) = false := by
    intro c hc
    have := all_u8G (p := fun c => !(blankB c || c == 40) || (!letterB c && !digitB c && !(c == 126 || signB c) && !(c == 34) && !(c == 39) && !(c == 46))) (by decide +kernel) c
    have hc' : (blankB c || c == 40) = true := by rcases hc with h | h; rw [h]; rfl; rw [h]; rfl
    simp only [hc', Bool.not_true, Bool.false_or, Bool.and_eq_true, Bool.not_eq_true'] at this
    obtain ⟨⟨⟨⟨⟨a, b⟩, c⟩, d⟩, e⟩, f⟩ := this
    exact ⟨a, b, c, d, e, f⟩
  have oth : ∀ c, atB l 0 = c → (blankB c = true ∨ c = 40) → (if resB (l.take 1) then (.ok (1, l.take 1, [], 1) : Rd) else .error 40) = .ok (k, t, pa, n) := by
    intro c hc hb
    obtain ⟨b1, b2, b3, b4, b5, b6⟩ := bad c hb
    unfold readP at h
    simp only [] at h
    rw [hc, if_neg (by rw [b1]; exact Bool.false_ne_true), if_neg (by rw [b2]; exact Bool.false_ne_true), if_neg (by rw [b3]; exact Bool.false_ne_true), if_neg (by rw [b4]; exact Bool.false_ne_true), if_neg (by rw [b5]; exact Bool.false_ne_true)] at h
    unfold otherP at h
    have hp : [46, 46, 46].isPrefixOf l = false := by
      cases l with
      | nil => rfl
      | cons a l =>
        have : a = c := hc
        subst this
        simp only [List.isPrefixOf]
        rw [u8_commF 46 a, b6]; rfl
    rw [hp] at h
    exact h
  refine ⟨?_, fun hp => ?_⟩
  · by_cases hb : blankB (atB l 0) = true
    · exfalso
      have h2 := oth _ rfl (.inl hb)
      have h1 : l.take 1 = [atB l 0] := by
        cases l with
        | nil => exact absurd rfl hne
        | cons c l => rfl
      have hr := all_u8G (p := fun c => !blankB c || !resB [c]) (by decide +kernel) (atB l 0)
      simp only [hb, Bool.not_true, Bool.false_or, Bool.not_eq_true'] at hr
      rw [h1, hr] at h2
      cases h2
    · exact eq_false_of_ne_true hb
  · have h40 : atB l 0 = 40 := by
      cases l with
      | nil => simp [List.isPrefixOf] at hp
      | cons c l => simp only [List.isPrefixOf, Bool.and_eq_true, beq_iff_eq] at hp; exact hp.1.symm
    have h2 := oth _ h40 (.inr rfl)
    split at h2
    · simp only [Except.ok.injEq, Prod.mk.injEq] at h2; omega
    · cases h2

/-- a token whose bytes stand ahead of a blank or the end: one step of the scan -/
theorem scan_tok {W R : Bytes} {k : Nat} {t : Bytes} {pa : List Bytes} (hne : W ≠ []) (h : readP W = .ok (k, t, pa, W.length)) (hR : R = [] ∨ ∃ b R', R = b :: R' ∧ blankB b = true) (p : Nat × Nat) (acc : List Tok) :
    scanC (W ++ R) p acc = scanC R (adv p W) (acc ++ [⟨k, t, pa, p.1, p.2⟩]) := by
  have hst : stopB (atB (W ++ R) W.length) = true := by
    have e : atB (W ++ R) W.length = atB R 0 := by
      unfold atB
      rw [List.getD_eq_getElem?_getD, List.getD_eq_getElem?_getD, List.getElem?_append_right (Nat.le_refl _), Nat.sub_self]
    rw [e]
    rcases hR with rfl | ⟨b, R', rfl, hb⟩
    · rfl
    · show stopB b = true
      unfold stopB; rw [hb]; simp
  have C : Cut W.length W (W ++ R) := ⟨by simp, by simp, Nat.le_refl _, hst⟩
  have h2 := read_cut hne h C
  have hne2 : W ++ R ≠ [] := by simp [hne]
  obtain ⟨hb, hc⟩ := read_head hne2 h2
  have hc2 : [40, 42].isPrefixOf (W ++ R) = false := by
    cases hp : [40, 42].isPrefixOf (W ++ R) with
    | false => rfl
    | true =>
      exfalso
      have h1 := hc hp
      rw [pre2F _ 40 42 (by decide) (by decide)] at hp
      simp only [Bool.and_eq_true, beq_iff_eq] at hp
      rw [h1, hp.2] at hst
      revert hst; decide
  cases hW : W ++ R with
  | nil => exact absurd hW hne2
  | cons c l =>
    rw [hW] at hb hc2 h2
    have hb' : blankB c = false := hb
    rw [scanC_tok hb' hc2, h2]
    simp only []
    rw [← hW, List.drop_left, List.take_left]

theorem scan_one {W : Bytes} {k : Nat} {t : Bytes} {pa : List Bytes} (hne : W ≠ []) (h : readP W = .ok (k, t, pa, W.length)) (hl : W.length ≤ 1048576) : scanP W = .ok [⟨k, t, pa, 1, 1⟩] := by
  have := scan_tok (R := []) hne h (.inl rfl) (1, 1) []
  unfold scanP
  rw [if_neg (by omega)]
  show scanC W (1, 1) [] = _
  rw [List.append_nil] at this
  rw [this]; rfl

/-- what is written of a token of a text -/
theorem written {l : Bytes} (hne : l ≠ []) (hl : l.length ≤ 1048576) {k : Nat} {t : Bytes} {pa : List Bytes} {n : Nat} (h : readP l = .ok (k, t, pa, n)) :
    writeP k t pa = .ok (wtext k t pa) ∧ (wtext k t pa).length ≤ 4 * n := by
  have hn := readP_len hne h
  obtain ⟨q6, q7⟩ := read_quoted h
  have key : ∀ {W : Bytes}, wtext k t pa = W → W ≠ [] → readP W = .ok (k, t, pa, W.length) → W.length ≤ 1048576 → writeP k t pa = .ok W := by
    intro W hW hne hr hl
    unfold writeP
    rw [hW, scan_one hne hr hl]
    unfold tokIs
    rw [if_pos (by simp)]
  rcases read_text h with rfl | rfl | hw
  · obtain ⟨rfl, h1, h2⟩ := q6 rfl
    have hq := quote_len t
    have hW : wtext ((6 : Nat) : Int) t [] = quoteP t := rfl
    rw [hW]
    refine ⟨key hW (by simp [quoteP]) ?_ ?_, ?_⟩
    · rw [read_quote6, if_neg (by omega)]
    · rw [quoteP_len]; omega
    · rw [quoteP_len]; omega
  · obtain ⟨rfl, h1, h2⟩ := q7 rfl
    have hq := quote_len t
    have hW : wtext ((7 : Nat) : Int) t [] = 35 :: quoteP t := rfl
    rw [hW]
    refine ⟨key hW (by simp) ?_ ?_, ?_⟩
    · rw [read_quote7, if_pos h1]
    · rw [List.length_cons, quoteP_len]; omega
    · rw [List.length_cons, quoteP_len]; omega
  · have hlen : (l.take n).length = n := by rw [List.length_take]; omega
    have hst : stopB (atB (l.take n) n) = true := by
      have : atB (l.take n) n = 0 := by
        unfold atB
        rw [List.getD_eq_getElem?_getD, List.getElem?_eq_none (by omega)]; rfl
      rw [this]; rfl
    have C : Cut n l (l.take n) := ⟨by rw [List.take_take, Nat.min_self], by omega, hn.2, hst⟩
    have hr := read_cut hne h C
    rw [← hw]
    refine ⟨key hw.symm (by intro e; rw [e] at hlen; simp at hlen; omega) (by rw [hlen]; exact hr) (by omega), by omega⟩

theorem scanG_acc {rd : Bytes → Rd} {cm : Bytes → Option Nat} : ∀ (f : Nat) (l : Bytes) (p : Nat × Nat) (acc ts : List Tok), scanG rd cm f l p acc = .ok ts → ∃ m, ts = acc ++ m
  | 0, _, _, acc, ts, h => by
    simp only [scanG, Except.ok.injEq] at h; exact ⟨[], by simp [h]⟩
  | _ + 1, [], _, acc, ts, h => by
    simp only [scanG, Except.ok.injEq] at h; exact ⟨[], by simp [h]⟩
  | f + 1, c :: l, p, acc, ts, h => by
    simp only [scanG] at h
    split at h
    · exact scanG_acc f _ _ _ _ h
    · split at h
      · split at h
        · cases h
        · exact scanG_acc f _ _ _ _ h
      · split at h
        · cases h
        · obtain ⟨m, hm⟩ := scanG_acc f _ _ _ _ h
          exact ⟨_ :: m, by rw [hm, List.append_assoc]; rfl⟩

/-- a text that has one token: where it stands -/
theorem scan_single : ∀ (N : Nat) (l : Bytes) (p : Nat × Nat) {u : Tok}, l.length ≤ N → scanC l p [] = .ok [u] → ∃ (i k n : Nat), l.drop i ≠ [] ∧ readP (l.drop i) = .ok (k, u.text, u.path, n) ∧ u.kind = k
  | _, [], _, _, _, h => by rw [scanC_nil] at h; cases h
  | 0, c :: l, _, _, hN, _ => by simp at hN
  | N + 1, c :: l, p, u, hN, h => by
    simp only [List.length_cons] at hN
    by_cases hb : blankB c = true
    · rw [scanC_blank hb] at h
      obtain ⟨i, k, n, h1, h2, h3⟩ := scan_single N l _ (by omega) h
      exact ⟨i + 1, k, n, h1, h2, h3⟩
    have hb : blankB c = false := eq_false_of_ne_true hb
    by_cases hc : [40, 42].isPrefixOf (c :: l) = true
    · rw [scanC_comm hb hc] at h
      cases hq : commP ((c :: l).length + 1) 0 0 (c :: l) with
      | none => rw [hq] at h; cases h
      | some m =>
        have hm := commP_len _ _ _ _ hq
        rw [hq] at h
        simp only [] at h
        obtain ⟨i, k, n, h1, h2, h3⟩ := scan_single N _ _ (by rw [List.length_drop, List.length_cons]; omega) h
        rw [List.drop_drop] at h1 h2
        exact ⟨m + i, k, n, h1, h2, h3⟩
    have hc : [40, 42].isPrefixOf (c :: l) = false := eq_false_of_ne_true hc
    rw [scanC_tok hb hc] at h
    cases hr : readP (c :: l) with
    | error e => rw [hr] at h; cases h
    | ok v =>
      obtain ⟨k, t, pa, n⟩ := v
      rw [hr] at h
      simp only [List.nil_append] at h
      obtain ⟨m, hm⟩ := scanG_acc _ _ _ _ _ h
      simp only [List.cons_append, List.nil_append, List.cons.injEq] at hm
      obtain ⟨rfl, _⟩ := hm
      exact ⟨0, k, n, by simp, by simpa using hr, rfl⟩

/-- a token and its bytes -/
def Rel (u : Tok) (W : Bytes) : Prop := ∃ k : Nat, u.kind = k ∧ W ≠ [] ∧ readP W = .ok (k, u.text, u.path, W.length)

theorem write_rel {u : Tok} {W : Bytes} (h : writeP u.kind u.text u.path = .ok W) : Rel u W := by
  obtain ⟨hW, ln, col, hs⟩ := writeP_ok h
  have hl := scanP_size hs
  unfold scanP at hs
  rw [if_neg (by omega)] at hs
  have hs : scanC W (1, 1) [] = .ok [⟨u.kind, u.text, u.path, ln, col⟩] := hs
  obtain ⟨i, k, n, h1, h2, h3⟩ := scan_single W.length W (1, 1) (Nat.le_refl _) hs
  simp only [] at h2 h3
  have hn := readP_len h1 h2
  have hWne : W ≠ [] := by rintro rfl; simp at h1
  refine ⟨k, h3, hWne, ?_⟩
  obtain ⟨q6, q7⟩ := read_quoted h2
  rw [h3] at hW
  rcases read_text h2 with rfl | rfl | hw
  · obtain ⟨hp, ht, _⟩ := q6 rfl
    have hW2 : W = quoteP u.text := hW
    rw [hW2, read_quote6, if_neg (by omega), hp]
  · obtain ⟨hp, ht, _⟩ := q7 rfl
    have hW2 : W = 35 :: quoteP u.text := hW
    rw [hW2, read_quote7, if_pos ht, hp]
  · rw [← hW] at hw
    have hlen : n = W.length := by
      have h5 := congrArg List.length hw
      rw [List.length_take, Nat.min_eq_left hn.2] at h5
      exact h5
    have hi : i = 0 := by
      have := hn.2
      rw [List.length_drop, hlen] at this
      have h0 : 0 < W.length := by cases W with | nil => exact absurd rfl hWne | cons c W => simp
      omega
    subst hi
    rw [List.drop_zero, hlen] at h2
    exact h2

def Rels : List Tok → List Bytes → Prop
  | [], [] => True
  | u :: l, W :: Ws => Rel u W ∧ Rels l Ws
  | _, _ => False

theorem joinG_big : ∀ (l : List Tok) (b : Bool) (acc T : Bytes), 1048576 < acc.length → joinG b acc l ≠ .ok T
  | [], b, acc, T, h => by simp [joinG, h]
  | u :: l, b, acc, T, h => by
    simp only [joinG]
    split
    · simp
    · rw [if_neg (by omega)]; exact joinG_big l false acc T h

theorem joinG_false : ∀ (l : List Tok) (acc T : Bytes), joinG false acc l = .ok T → ∃ Ws, Rels l Ws ∧ T = acc ++ Ws.flatMap (32 :: ·)
  | [], acc, T, h => by
    simp only [joinG] at h
    split at h
    · cases h
    · simp only [Except.ok.injEq] at h
      exact ⟨[], trivial, by simp [h]⟩
  | u :: l, acc, T, h => by
    simp only [joinG] at h
    split at h
    · cases h
    · rename_i s hs
      by_cases hb : acc.length ≤ 1048576
      · rw [if_pos hb] at h
        obtain ⟨Ws, h1, h2⟩ := joinG_false l _ _ h
        exact ⟨s :: Ws, ⟨write_rel hs, h1⟩, by rw [h2]; simp⟩
      · exfalso
        rw [if_neg hb] at h
        exact joinG_big l false acc T (by omega) h

theorem scan_glue : ∀ (l : List Tok) (Ws : List Bytes) (p : Nat × Nat) (acc : List Tok), Rels l Ws → ∃ m, scanC (Ws.flatMap (32 :: ·)) p acc = .ok (acc ++ m) ∧ sameL false l m = true
  | [], [], p, acc, _ => ⟨[], by simp [scanC_nil], rfl⟩
  | [], _ :: _, _, _, h => h.elim
  | _ :: _, [], _, _, h => h.elim
  | u :: l, W :: Ws, p, acc, ⟨⟨k, hk, hne, hr⟩, hR⟩ => by
    have hst : Ws.flatMap (32 :: ·) = [] ∨ ∃ b R', Ws.flatMap (32 :: ·) = b :: R' ∧ blankB b = true := by
      cases Ws with
      | nil => exact .inl rfl
      | cons V Vs => exact .inr ⟨32, V ++ Vs.flatMap (32 :: ·), by simp, by decide⟩
    have e : (W :: Ws).flatMap (32 :: ·) = 32 :: (W ++ Ws.flatMap (32 :: ·)) := by simp
    rw [e, scanC_blank (by decide), scan_tok hne hr hst]
    obtain ⟨m, h1, h2⟩ := scan_glue l Ws _ (acc ++ [⟨k, u.text, u.path, (adv1 p 32).1, (adv1 p 32).2⟩]) hR
    refine ⟨_ :: m, by rw [h1, List.append_assoc]; rfl, ?_⟩
    simp only [sameL, h2, Bool.not_false, Bool.true_or, Bool.and_true]
    simp [alikeB, hk]

/-- P4.4: what is written of tokens is scanned as these tokens -/
theorem join_back {l : List Tok} {T : Bytes} (h : joinP l = .ok T) : ∃ m, scanP T = .ok m ∧ sameL false l m = true := by
  have hT : T.length ≤ 1048576 := by
    refine Classical.byContradiction fun hk => ?_
    have : ∀ (l : List Tok) (b : Bool) (acc : Bytes), joinG b acc l = .ok T → T.length ≤ 1048576 := by
      intro l
      induction l with
      | nil =>
        intro b acc h
        simp only [joinG] at h
        split at h
        · cases h
        · simp only [Except.ok.injEq] at h; rw [← h]; omega
      | cons u l ih =>
        intro b acc h
        simp only [joinG] at h
        split at h
        · cases h
        · exact ih _ _ h
    exact hk (this l true [] h)
  have hs : ∀ m, scanC T (1, 1) [] = .ok m → scanP T = .ok m := fun m h => by
    unfold scanP
    rw [if_neg (by omega)]; exact h
  cases l with
  | nil =>
    simp only [joinP, joinG] at h
    rw [if_neg (by simp)] at h
    simp only [Except.ok.injEq] at h
    subst h
    exact ⟨[], rfl, rfl⟩
  | cons u l =>
    simp only [joinP, joinG] at h
    split at h
    · cases h
    · rename_i s hw
      rw [if_pos (by simp)] at h
      simp only [if_true, List.nil_append] at h
      obtain ⟨Ws, hR, hTe⟩ := joinG_false l _ _ h
      obtain ⟨k, hk, hne, hr⟩ := write_rel hw
      have hst : Ws.flatMap (32 :: ·) = [] ∨ ∃ b R', Ws.flatMap (32 :: ·) = b :: R' ∧ blankB b = true := by
        cases Ws with
        | nil => exact .inl rfl
        | cons V Vs => exact .inr ⟨32, V ++ Vs.flatMap (32 :: ·), by simp, by decide⟩
      have h3 := scan_tok hne hr hst (1, 1) []
      rw [← hTe] at h3
      obtain ⟨m, h1, h2⟩ := scan_glue l Ws (adv (1, 1) s) ([] ++ [⟨k, u.text, u.path, (((1, 1) : Nat × Nat).1 : Int), (((1, 1) : Nat × Nat).2 : Int)⟩]) hR
      rw [h1] at h3
      refine ⟨_, hs _ h3, ?_⟩
      simp only [List.cons_append, List.nil_append, sameL, h2, Bool.not_false, Bool.true_or, Bool.and_true]
      simp [alikeB, hk]

end Go.Proofs.YtcogfalhodjmfaaGreatDoor
