/- Plain laws of the tokens of a text: each can be written, joined they take at most five times the text's length, and they rise by their places. No program in sight. -/
import Derived.Test.YtcogfalhodjmfaaDoorLexI
namespace Go.Proofs.YtcogfalhodjmfaaDoor
open Kiln

def WrOk (u : Tok) : Prop := writeP u.kind u.text u.path = .ok (wtext u.kind u.text u.path)
def wsum (l : List Tok) : Nat := (l.map fun u => (wtext u.kind u.text u.path).length + 1).sum
theorem wsum_snoc (l : List Tok) (u : Tok) : wsum (l ++ [u]) = wsum l + ((wtext u.kind u.text u.path).length + 1) := by simp [wsum]

def ltP (p q : Nat × Nat) : Prop := p.1 < q.1 ∨ p.1 = q.1 ∧ p.2 < q.2
def ltT (u v : Tok) : Prop := u.line < v.line ∨ u.line = v.line ∧ u.col < v.col
theorem ltP_trans {p q r : Nat × Nat} (h : ltP p q) (h2 : ltP q r) : ltP p r := by unfold ltP at *; omega
theorem adv1_lt (p : Nat × Nat) (c : UInt8) : ltP p (adv1 p c) := by
  unfold adv1 ltP
  split
  · left; simp
  · right; simp
theorem adv_lt : ∀ (l : Bytes) (p : Nat × Nat), l ≠ [] → ltP p (adv p l)
  | [], _, h => absurd rfl h
  | [c], p, _ => adv1_lt p c
  | c :: b :: l, p, _ => ltP_trans (adv1_lt p c) (adv_lt (b :: l) (adv1 p c) (by simp))

/-- what holds of the tokens so far, ahead of the place p -/
structure Good (acc : List Tok) (p : Nat × Nat) : Prop where
  wr : ∀ u ∈ acc, WrOk u
  bef : ∀ u ∈ acc, ∃ q : Nat × Nat, u.line = q.1 ∧ u.col = q.2 ∧ ltP q p
  rise : ∀ (i : Nat) u v, acc[i]? = some u → acc[i + 1]? = some v → ltT u v

theorem Good.on {acc : List Tok} {p q : Nat × Nat} (h : Good acc p) (hl : ltP p q) : Good acc q :=
  ⟨h.wr, fun u hu => by obtain ⟨r, h1, h2, h3⟩ := h.bef u hu; exact ⟨r, h1, h2, ltP_trans h3 hl⟩, h.rise⟩

theorem Good.push {acc : List Tok} {p q : Nat × Nat} (h : Good acc p) {k : Int} {t : Bytes} {pa : List Bytes} (hw : WrOk ⟨k, t, pa, p.1, p.2⟩) (hl : ltP p q) : Good (acc ++ [⟨k, t, pa, p.1, p.2⟩]) q := by
  refine ⟨fun u hu => ?_, fun u hu => ?_, fun i u v h1 h2 => ?_⟩
  · rw [List.mem_append] at hu
    rcases hu with hu | hu
    · exact h.wr u hu
    · simp only [List.mem_singleton] at hu; subst hu; exact hw
  · rw [List.mem_append] at hu
    rcases hu with hu | hu
    · exact (h.on hl).bef u hu
    · simp only [List.mem_singleton] at hu; subst hu; exact ⟨p, rfl, rfl, hl⟩
  · have hi : i + 1 < acc.length + 1 := by
      have := (List.getElem?_eq_some_iff.1 h2).1
      simpa using this
    rw [List.getElem?_append_left (by omega)] at h1
    by_cases hlt : i + 1 < acc.length
    · rw [List.getElem?_append_left hlt] at h2
      exact h.rise i u v h1 h2
    · rw [List.getElem?_append_right (by omega), show i + 1 - acc.length = 0 by omega] at h2
      simp only [List.getElem?_cons_zero, Option.some.injEq] at h2
      subst h2
      obtain ⟨q, e1, e2, e3⟩ := h.bef u (List.mem_of_getElem? h1)
      unfold ltT ltP at *
      simp only []
      omega

theorem scanG_good {cm : Bytes → Option Nat} (hcm : ∀ l n, cm l = some n → 1 ≤ n) : ∀ (f : Nat) (l : Bytes) (p : Nat × Nat) (acc ts : List Tok), l.length ≤ 1048576 → Good acc p → scanG readP cm f l p acc = .ok ts →
    (∃ q, Good ts q) ∧ wsum ts ≤ wsum acc + 5 * l.length
  | 0, l, p, acc, ts, _, hg, h => by
    simp only [scanG, Except.ok.injEq] at h
    subst h; exact ⟨⟨p, hg⟩, by omega⟩
  | _ + 1, [], p, acc, ts, _, hg, h => by
    simp only [scanG, Except.ok.injEq] at h
    subst h; exact ⟨⟨p, hg⟩, by omega⟩
  | f + 1, c :: l, p, acc, ts, hN, hg, h => by
    simp only [scanG] at h
    simp only [List.length_cons] at hN ⊢
    split at h
    · have := scanG_good hcm f l _ _ _ (by omega) (hg.on (adv1_lt p c)) h
      exact ⟨this.1, by omega⟩
    · split at h
      · split at h
        · cases h
        · rename_i n hn
          have h1 := hcm _ _ hn
          have := scanG_good hcm f _ _ _ _ (by rw [List.length_drop, List.length_cons]; omega) (hg.on (adv_lt _ p (by
            cases n with
            | zero => omega
            | succ n => simp))) h
          rw [List.length_drop, List.length_cons] at this
          exact ⟨this.1, by omega⟩
      · split at h
        · cases h
        · rename_i k t pa n hr
          have h1 := readP_len (by simp) hr
          have hw := written (by simp) (by simpa using hN) hr
          simp only [List.length_cons] at h1
          have := scanG_good hcm f _ _ _ _ (by rw [List.length_drop, List.length_cons]; omega) (hg.push (k := (k : Int)) (t := t) (pa := pa) hw.1 (adv_lt _ p (by
            cases n with
            | zero => omega
            | succ n => simp))) h
          rw [List.length_drop, List.length_cons, wsum_snoc] at this
          have h2 := hw.2
          simp only [] at this
          exact ⟨this.1, by omega⟩

theorem scanP_good {s : Bytes} {ts : List Tok} (h : scanP s = .ok ts) : (∀ u ∈ ts, WrOk u) ∧ wsum ts ≤ 5 * s.length ∧ ∀ (i : Nat) u v, ts[i]? = some u → ts[i + 1]? = some v → ltT u v := by
  have hl := scanP_size h
  unfold scanP at h
  rw [if_neg (by omega)] at h
  obtain ⟨⟨q, hq⟩, hs⟩ := scanG_good (cm := fun l => commP (l.length + 1) 0 0 l) (fun l n hn => by have := commP_len _ _ _ _ hn; omega) _ _ _ _ _ hl ⟨by simp, by simp, by simp⟩ h
  exact ⟨hq.wr, by simpa [wsum] using hs, hq.rise⟩

theorem joinG_wr : ∀ (l : List Tok) (b : Bool) (acc : Bytes), (∀ u ∈ l, WrOk u) → (∃ T, joinG b acc l = .ok T) ∨ (joinG b acc l = .error 2 ∧ 1048576 < acc.length + wsum l)
  | [], b, acc, _ => by
    simp only [joinG]
    split
    · exact .inr ⟨rfl, by simp [wsum]; omega⟩
    · exact .inl ⟨_, rfl⟩
  | u :: l, b, acc, h => by
    have hu : WrOk u := h u (by simp)
    unfold WrOk at hu
    simp only [joinG, hu]
    have hl := fun b acc => joinG_wr l b acc (fun v hv => h v (by simp [hv]))
    have hs : wsum (u :: l) = ((wtext u.kind u.text u.path).length + 1) + wsum l := by simp [wsum]
    rcases hl false (if acc.length ≤ 1048576 then acc ++ (if b = true then wtext u.kind u.text u.path else 32 :: wtext u.kind u.text u.path) else acc) with h1 | ⟨h1, h2⟩
    · exact .inl h1
    · refine .inr ⟨h1, ?_⟩
      rw [hs]
      split at h2
      · rw [List.length_append] at h2
        split at h2
        · omega
        · simp only [List.length_cons] at h2; omega
      · omega

/-- P4.4, P4.5: the tokens of a text -/
theorem again {s : Bytes} {ts : List Tok} (h : scanP s = .ok ts) :
    ((∃ T m, joinP ts = .ok T ∧ scanP T = .ok m ∧ sameL false ts m = true) ∨ (joinP ts = .error 2 ∧ 209715 < s.length)) ∧ ∀ (i : Nat) u v, ts[i]? = some u → ts[i + 1]? = some v → ltT u v := by
  obtain ⟨h1, h2, h3⟩ := scanP_good h
  refine ⟨?_, h3⟩
  rcases joinG_wr ts true [] h1 with ⟨T, hT⟩ | ⟨he, hb⟩
  · obtain ⟨m, hm, hs⟩ := join_back hT
    exact .inl ⟨T, m, hT, hm, hs⟩
  · simp only [List.length_nil] at hb
    exact .inr ⟨he, by omega⟩

end Go.Proofs.YtcogfalhodjmfaaDoor
