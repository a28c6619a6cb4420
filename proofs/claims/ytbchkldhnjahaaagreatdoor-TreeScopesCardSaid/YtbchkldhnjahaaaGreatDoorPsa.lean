/- Part of the proof. Conditions: those of each theorem. -/
import Derived.KernelRfl
import Derived.Test.YtbchkldhnjahaaaGreatDoorPaa
import Derived.Test.YtbchkldhnjahaaaGreatDoorPae
import Derived.Test.YtbchkldhnjahaaaGreatDoorPag
import Derived.Test.YtbchkldhnjahaaaGreatDoorPah
import Derived.Test.YtbchkldhnjahaaaGreatDoorPau
import Derived.Test.YtbchkldhnjahaaaGreatDoorPav
set_option maxRecDepth 100000
set_option maxHeartbeats 40000000
namespace Go.Proofs.YtbchkldhnjahaaaGreatDoor
open Kiln
theorem nD (x y : UInt8) : (x == y) = (y == x) := by rw [Bool.eq_iff_iff, ξZ, ξZ]; exact eq_comm
theorem Cw (L : Bytes) (x y : UInt8) (hx : x ≠ 0) (hy : y ≠ 0) : [x, y].isPrefixOf L = (atB L 0 == x && atB L 1 == y) := by
 cases L with
 | nil => simp [atB, List.isPrefixOf, hx.symm]
 | cons a L =>
  cases L with
  | nil => simp [atB, List.isPrefixOf, hy.symm]
  | cons b L =>
   simp only [atB, List.isPrefixOf, List.getD_cons_zero, List.getD_cons_succ, Bool.and_true];rw [nD x a, nD y b]
theorem dK (L : Bytes) (a b : Nat) : atB (L.drop a) b = atB L (a + b) := by
 unfold atB; rw [ξr, ξr, List.getElem?_drop]
theorem Ic {p : UInt8 → Bool} (h0 : p 0 = false) (l : Bytes) : decide (0 < aT p l) = p (atB l 0) := by
 cases l with
 | nil => rw [show atB [] 0 = 0 from rfl, h0]; rfl
 | cons c l => rw [show atB (c :: l) 0 = c from rfl]; cases h : p c <;> simp [aT, h]
theorem oL {p : UInt8 → Bool} : ∀ {l : Bytes} (m : Bytes), aT p l < l.length → aT p (l ++ m) = aT p l
 | [], _, h => by simp at h
 | c :: l, m, h => by
  simp only [List.cons_append, aT] at h ⊢;by_cases hc : p c = true
  · simp only [hc, if_true, ξ2] at h ⊢;rw [oL m (by omega)]
  · simp only [hc]; rfl
theorem gP {l : Bytes} (m : Bytes) {i : Nat} (h : i < l.length) : atB (l ++ m) i = atB l i := by
 unfold atB;rw [ξr, ξr, ξs h]
theorem gQ {l : Bytes} (m : Bytes) {n : Nat} (h : n ≤ l.length) : (l ++ m).take n = l.take n := List.take_append_of_le_length h
theorem iQ {l : Bytes} (m : Bytes) {n : Nat} (h : n ≤ l.length) : (l ++ m).drop n = l.drop n ++ m := List.drop_append_of_le_length h
theorem nX {p : UInt8 → Bool} {l : Bytes} (m : Bytes) {k : Nat} (h : k + aT p (l.drop k) < l.length) : aT p ((l ++ m).drop k) = aT p (l.drop k) := by
 rw [iQ m (by omega), oL m (by rw [ξ3]; omega)]
theorem ou {q l : Bytes} (m : Bytes) (h : q.length ≤ l.length) : q.isPrefixOf (l ++ m) = q.isPrefixOf l := by
 rw [Bool.eq_iff_iff, List.isPrefixOf_iff_prefix, List.isPrefixOf_iff_prefix];constructor
 · intro hp;exact List.prefix_of_prefix_length_le hp (List.prefix_append l m) h
 · intro hp; exact hp.trans (List.prefix_append l m)
theorem vS {q l : Bytes} (m : Bytes) (h : q.isPrefixOf l = true) : q.isPrefixOf (l ++ m) = true := by
 rw [ou m (List.isPrefixOf_iff_prefix.1 h).length_le]; exact h
theorem El {q l : Bytes} (h : q.isPrefixOf l = true) : q.length ≤ l.length := (List.isPrefixOf_iff_prefix.1 h).length_le
theorem vv {b n : Nat} {l : Bytes} (m : Bytes) (h : 0 ≤ cB b n l) : cB b n (l ++ m) = cB b n l := by
 have hn : n ≤ l.length := by
  refine ξk fun hk => ?_;unfold cB at h; rw [ψi (by omega)] at h; omega
 unfold cB;rw [ψh (show ¬ (l ++ m).length < n by rw [ξ1]; omega), ψh (show ¬ l.length < n by omega), gQ m hn]
theorem H7 (l m : Bytes) (h : (iF l).2 ≠ 0) : iF (l ++ m) = iF l := by
 cases l with
 | nil => simp [iF] at h
 | cons c l =>
  revert h;unfold iF;rw [ψh (show ¬ c :: l ++ m = [] by simp), ψh (show ¬ c :: l = [] by simp)];have e0 : atB (c :: l ++ m) 0 = atB (c :: l) 0 := rfl;simp only [e0];generalize hL : c :: l = L;by_cases h1 : 0 ≤ Go.Lib.indexByte Fe (atB L 0)
  · rw [ψi h1, ψi h1]; simp
  rw [ψh h1, ψh h1];by_cases h2 : (atB L 0 == 34 || atB L 0 == 92) = true
  · rw [ψi h2, ψi h2]; simp
  rw [ψh h2, ψh h2];by_cases h3 : (atB L 0 == 94) = true
  · rw [ψi h3, ψi h3];by_cases h4 : (decide (64 ≤ (atB L 1).toNat) && decide ((atB L 1).toNat ≤ 95)) = true
    · have hl := nZ (l := L) (k := 1) rfl (by intro e; rw [e] at h4; revert h4; decide);rw [gP m hl]; simp
    · rw [ψh h4]; simp
  rw [ψh h3, ψh h3];by_cases h5 : (atB L 0 == 117) = true
  · rw [ψi h5, ψi h5];by_cases h6 : 0 ≤ cB 16 4 (L.drop 1)
    · rw [iQ m (by rw [← hL]; simp), vv m h6, ψi h6]; simp
    · rw [ψh h6]; simp
  rw [ψh h5, ψh h5];by_cases h7 : aM (atB L 0) = true
  · rw [ψi h7, ψi h7];by_cases h8 : 0 ≤ cB 10 3 L
    · rw [vv m h8, ψi h8]; simp
    · rw [ψh h8]; simp
  rw [ψh h7, ψh h7];by_cases h9 : (decide (0 < aT cg L) && atB L (aT cg L) == 92) = true
  · have hl := nZ (l := L) (k := aT cg L) (c := 92) (by simp only [ξg, ξZ] at h9; exact h9.2) (by decide);rw [oL m hl, gP m hl]; simp
  · rw [ψh h9]; simp
theorem ng (m : Bytes) : ∀ (f g : Nat) (l acc : Bytes) (n : Nat) {r : Bytes × Nat}, l.length < f → (l ++ m).length < g → bS f l acc n = some r → bS g (l ++ m) acc n = some r
 | 0, _, _, _, _, _, h, _, _ => by omega
 | _, 0, _, _, _, _, _, h, _ => by omega
 | f + 1, g + 1, [], _, _, _, _, _, h => by simp [bS] at h
 | f + 1, g + 1, c :: l, acc, n, r, hf, hg, h => by
  simp only [List.cons_append, ξ2] at hf hg;simp only [List.cons_append, bS] at h ⊢;by_cases h1 : (c == 34) = true
  · rw [ψi h1] at h ⊢; exact h
  rw [ψh h1] at h ⊢;by_cases h2 : (decide (c.toNat < 32) || decide (126 < c.toNat)) = true
  · rw [ψi h2] at h; cases h
  rw [ψh h2] at h ⊢;by_cases h3 : (c != 92) = true
  · rw [ψi h3] at h ⊢;exact ng m f g l _ _ (by omega) (by omega) h
  rw [ψh h3] at h ⊢;by_cases h4 : (iF l).2 = 0
  · rw [ψi h4] at h; cases h
  have he := H7 l m h4;have hfit := sG l h4;rw [ψh h4] at h;rw [he, ψh h4, iQ m hfit];exact ng m f g _ _ _ (by rw [ξ3]; omega) (by rw [ξ1, ξ3]; rw [ξ1] at hg; omega) h
theorem Ah (m : Bytes) : ∀ (f g : Nat) (path : List Bytes) (n : Nat) (l : Bytes) {k : Nat} {t : Bytes} {pa : List Bytes} {n' : Nat}, l.length < f → (l ++ m).length < g → fR f path n l = .ok (k, t, pa, n') → n' < n + l.length → fR g path n (l ++ m) = .ok (k, t, pa, n')
 | 0, _, _, _, _, _, _, _, _, h, _, _, _ => by omega
 | _, 0, _, _, _, _, _, _, _, _, h, _, _ => by omega
 | f + 1, g + 1, path, n, l, k, t, pa, n', hf, hg, h, hn => by
  have hk := (jN _ _ _ _ h).1;have hkl : aT bJ l < l.length := by omega
  simp only [fR] at h ⊢;rw [oL m hkl, gQ m (Nat.le_of_lt hkl), gP m hkl];by_cases h1 : j6 (l.take (aT bJ l)) = true
  · rw [ψi h1] at h ⊢; exact h
  rw [ψh h1] at h ⊢;by_cases h2 : (atB l (aT bJ l) == 46) = true
  · rw [ψi h2] at h ⊢;rw [iQ m hkl];generalize hL : l.drop (aT bJ l + 1) = r at *;have hr : l.length = aT bJ l + 1 + r.length := by rw [← hL, ξ3]; omega
    have hr0 : 0 < r.length := by
     refine ξk fun h0 => ?_;have : r = [] := ξq (by omega);subst this;simp [eU, lJ, atB, aT] at h
    rw [gP m hr0];rw [ξ1] at hg;by_cases h3 : eU (atB r 0) = true
    · rw [ψi h3] at h ⊢;exact Ah m f g _ _ r (by omega) (by rw [ξ1]; omega) h (by omega)
    · rw [ψh h3] at h ⊢;by_cases h4 : (decide (aT dV r = 0) || j6 (r.take (aT dV r))) = true
      · rw [ψi h4] at h; cases h
      · rw [ψh h4] at h;have hc : aT dV r < r.length := by
         simp only [ξm, ξP] at h; omega
        rw [oL m hc, gQ m (Nat.le_of_lt hc), ψh h4]; exact h
  · rw [ψh h2] at h ⊢; exact h
theorem JR {l : Bytes} (m : Bytes) (h46 : (∀ a, l ≠ a ++ [46]) ∨ aM (atB m 0) = false) (hn : (bT l).1 < l.length) (hw : bJ (atB l (bT l).1) = false) (hne : l ≠ []) : bT (l ++ m) = bT l := by
 have hl0 : 0 < l.length := by cases l with | nil => exact absurd rfl hne | cons c l => simp
 have hlast : ∀ k, atB l k = 46 → k + 1 < l.length ∨ (l.length = k + 1 ∧ aM (atB m 0) = false) := fun k hk => by
  have h1 := nZ hk (by decide);by_cases h2 : k + 1 < l.length
  · exact .inl h2
  have h3 : l.length = k + 1 := by omega
  rcases h46 with h46 | h46;rotate_left
  · exact .inr ⟨h3, h46⟩
  exfalso
  refine h46 (l.take k) ?_;conv => lhs; rw [← ξD k l]
  congr 1
  rw [ξp h1, List.drop_of_length_le (by omega)];unfold atB at hk;rw [ξr, ξw h1] at hk;simp only [Option.getD_some] at hk;rw [hk]
 revert hn hw;unfold bT;simp only [];rw [gP m hl0];generalize hf : (if atB l 0 == 126 then 1 else 0 : Nat) = f;have hf1 : f ≤ 1 := by rw [← hf]; split <;> omega
 by_cases hx : ([48, 120].isPrefixOf (l.drop f) && decide (0 < aT tK (l.drop (f + 2)))) = true
 · rw [ψi hx];intro hn _;simp only at hn;simp only [ξg, ψc] at hx;have hfl : f ≤ l.length := by have := El hx.1; rw [ξ3] at this; simp at this; omega
   rw [iQ m hfl, vS m hx.1, nX m hn];simp [hx.2]
 · rw [ψh hx];generalize he : f + aT aM (l.drop f) = e0;have hx' : ([48, 120].isPrefixOf (l.drop f) && decide (0 < aT tK (l.drop (f + 2)))) = false := by simpa using hx
   generalize hd : aT aM (l.drop (e0 + 1)) = d;generalize hp : (if atB l e0 == 46 && decide (0 < d) then (e0 + 1 + d, 5) else (e0, 4) : Nat × Nat) = p;generalize hM : p.1 + 1 + (if atB l (p.1 + 1) == 126 then 1 else 0 : Nat) = M;generalize hE : aT aM (l.drop M) = E;have hpe : e0 ≤ p.1 := by rw [← hp]; split <;> simp <;> omega
   intro hn hw;have hpl : p.1 < l.length := by
    revert hn;split
    · intro hn; simp only at hn; omega
    · exact id
   have hE0 : (atB l p.1 == 69 || atB l p.1 == 101) = true → 0 < E := by
    intro hEe;refine ξk fun h0 => ?_;rw [ψh (by simp [h0])] at hw;simp only [ξj, ξZ] at hEe;rcases hEe with h | h <;> (rw [h] at hw; revert hw; decide)
   have hee : e0 < l.length := by omega
   have hfl : f + aT aM (l.drop f) < l.length := by omega
   rw [nX m hfl, he];have hX : ([48, 120].isPrefixOf ((l ++ m).drop f) && decide (0 < aT tK ((l ++ m).drop (f + 2)))) = false := by
    by_cases hpre : [48, 120].isPrefixOf (l.drop f) = true
    · exfalso
      have h0 : aT tK (l.drop (f + 2)) = 0 := by
       simp only [hpre, Bool.true_and, decide_eq_false_iff_not] at hx'; omega
      rw [Cw _ 48 120 (by decide) (by decide)] at hpre;simp only [ξg, ξZ, dK, Nat.add_zero] at hpre;have hlt := nZ hpre.2 (by decide);have hc1 : aT aM (l.drop f) = 1 := by
       have e1 : l.drop f = 48 :: 120 :: l.drop (f + 2) := by
        have a1 := hpre.1; have a2 := hpre.2
        unfold atB at a1 a2;rw [ξr, ξw (by omega)] at a1 a2;simp only [Option.getD_some] at a1 a2;rw [ξp (by omega), ξp hlt, a1, a2]
       rw [e1]; rfl
      have he1 : e0 = f + 1 := by omega
      have hp1 : p = (e0, 4) := by rw [← hp, he1, hpre.2, ψh (by simp)]
      rw [hp1] at hw hE0;simp only at hw hE0;rw [he1, hpre.2] at hw;rw [ψh (by simp)] at hw;simp only [hpre.2] at hw;revert hw; decide
    · by_cases hll : f + 2 ≤ l.length
      · rw [iQ m (by omega), ou m (by rw [ξ3]; simp; omega)];simp [hpre]
      · have hc0 : aT aM (l.drop f) = 0 := by omega
        have hnd : aM (atB l f) = false := by
         have := Ic (p := aM) (by decide) (l.drop f);rw [dK] at this;simp only [hc0, Nat.add_zero] at this;rw [← this]; rfl
        rw [Cw _ 48 120 (by decide) (by decide), dK, Nat.add_zero, gP m (by omega)];have : (atB l f == 48) = false := by
         rw [ξY]; intro e; rw [e] at hnd; revert hnd; decide
        rw [this]; rfl
   rw [hX, ψh Bool.false_ne_true, gP m hee];have hD : (atB l e0 == 46 && decide (0 < aT aM ((l ++ m).drop (e0 + 1)))) = (atB l e0 == 46 && decide (0 < d)) ∧ ((atB l e0 == 46) = true → aT aM ((l ++ m).drop (e0 + 1)) = d) := by
    by_cases h4 : (atB l e0 == 46) = true
    · rcases hlast e0 (by simpa using h4) with hl4 | ⟨hl4, hm0⟩;rotate_left
      · have c1 : aT aM ((l ++ m).drop (e0 + 1)) = 0 := by
         rw [← hl4, List.drop_left];cases m with
         | nil => rfl
         | cons c r =>
          have hc : aM c = false := hm0;simp [aT, hc]
        have c2 : d = 0 := by rw [← hd, ← hl4, List.drop_length]; rfl
        rw [c1, c2]; exact ⟨rfl, fun _ => rfl⟩
      have hcd : e0 + 1 + aT aM (l.drop (e0 + 1)) < l.length := by
       rw [hd];by_cases hd0 : 0 < d
       · rw [h4, ψi (by simp [hd0])] at hp;rw [← hp] at hpl; exact hpl
       · omega
      have := nX m hcd;rw [this, hd]; exact ⟨rfl, fun _ => rfl⟩
    · rw [show (atB l e0 == 46) = false by simpa using h4]; exact ⟨rfl, fun h => by simp at h⟩
   have hP : (if atB l e0 == 46 && decide (0 < aT aM ((l ++ m).drop (e0 + 1))) then (e0 + 1 + aT aM ((l ++ m).drop (e0 + 1)), 5) else (e0, 4) : Nat × Nat) = p := by
    rw [hD.1, ← hp];by_cases h4 : (atB l e0 == 46) = true
    · rw [hD.2 h4]
    · rw [show (atB l e0 == 46) = false by simpa using h4]; rfl
   rw [hP, gP m hpl];by_cases hEe : (atB l p.1 == 69 || atB l p.1 == 101) = true
   · have h0 := hE0 hEe;rw [hEe, ψi (by simp [h0])] at hn;simp only at hn;have hM1 : p.1 + 1 ≤ M := by omega
     rw [gP m (by omega), hM, nX m (by omega), hE]
   · rw [show (atB l p.1 == 69 || atB l p.1 == 101) = false by simpa using hEe];simp
theorem uE {l : Bytes} (m : Bytes) (h46 : (∀ a, l ≠ a ++ [46]) ∨ aM (atB m 0) = false) (hne : l ≠ []) {k : Nat} {t : Bytes} {pa : List Bytes} {n : Nat} (h : cF l = .ok (k, t, pa, n)) (hn : n < l.length) : cF (l ++ m) = .ok (k, t, pa, n) := by
 unfold cF at h ⊢;simp only [] at h ⊢;by_cases h1 : bJ (atB l (bT l).1) = true
 · rw [ψi h1] at h; cases h
 have h1' : bJ (atB l (bT l).1) = false := by simpa using h1
 rw [ψh h1] at h;by_cases h2 : 4096 < (bT l).1
 · rw [ψi h2] at h; cases h
 rw [ψh h2] at h;have hp : (bT l).1 = n := by simp only [ξm, ξP] at h; exact h.2.2.2
 have hlt : (bT l).1 < l.length := by omega
 rw [JR m h46 hlt h1' hne, gP m hlt, ψh h1, ψh h2, gQ m (Nat.le_of_lt hlt)];exact h
theorem rE {l : Bytes} (m : Bytes) (k n : Nat) (hk : k ≤ l.length) {r : Bytes × Nat} (h : bS (l.length + 1) (l.drop k) [] n = some r) : bS ((l ++ m).length + 1) ((l ++ m).drop k) [] n = some r := by
 rw [iQ m hk];exact ng m _ _ _ _ _ (by rw [ξ3]; omega) (by rw [ξ1, ξ1, ξ3]; omega) h
theorem Ih {l : Bytes} (m : Bytes) (h2 : 2 ≤ l.length) {k : Nat} {t : Bytes} {pa : List Bytes} {n : Nat} (h : jw l = .ok (k, t, pa, n)) : jw (l ++ m) = .ok (k, t, pa, n) := by
 unfold jw at h ⊢;cases hq : bS (l.length + 1) (l.drop 2) [] 2 with
 | none => rw [hq] at h; cases h
 | some r => rw [hq] at h; rw [rE m 2 2 h2 hq]; exact h
theorem Gt {l : Bytes} (m : Bytes) (h1 : 1 ≤ l.length) {k : Nat} {t : Bytes} {pa : List Bytes} {n : Nat} (h : lg l = .ok (k, t, pa, n)) : lg (l ++ m) = .ok (k, t, pa, n) := by
 unfold lg at h ⊢;cases hq : bS (l.length + 1) (l.drop 1) [] 1 with
 | none => rw [hq] at h; cases h
 | some r => rw [hq] at h; rw [rE m 1 1 h1 hq]; exact h
theorem GQ {l : Bytes} (m : Bytes) (h46 : (∀ a, l ≠ a ++ [46]) ∨ aM (atB m 0) = false) {k : Nat} {t : Bytes} {pa : List Bytes} {n : Nat} (h : gL l = .ok (k, t, pa, n)) (hn : n < l.length) : gL (l ++ m) = .ok (k, t, pa, n) := by
 have hne : l ≠ [] := by rintro rfl; simp at hn
 have hl0 : 0 < l.length := by omega
 have hn1 := (gh hne h).1;have hl1 : 1 < l.length := by omega
 unfold gL at h ⊢;simp only [] at h ⊢;rw [gP m hl0];by_cases c1 : eU (atB l 0) = true
 · rw [ψi c1] at h ⊢;exact Ah m _ _ _ _ _ (by omega) (by omega) h (by omega)
 rw [ψh c1] at h ⊢;by_cases c2 : aM (atB l 0) = true
 · rw [ψi c2] at h ⊢; exact uE m h46 hne h hn
 rw [ψh c2] at h ⊢;by_cases c3 : (atB l 0 == 126 || dV (atB l 0)) = true
 · rw [ψi c3] at h ⊢;unfold q8 at h ⊢;rw [gP m hl0, gP m hl1, ou m (show [35, 34].length ≤ l.length from hl1)];by_cases c4 : (atB l 0 == 126 && aM (atB l 1)) = true
   · rw [ψi c4] at h ⊢; exact uE m h46 hne h hn
   rw [ψh c4] at h ⊢;by_cases c5 : [35, 34].isPrefixOf l = true
   · rw [ψi c5] at h ⊢; exact Ih m hl1 h
   rw [ψh c5] at h ⊢;simp only [] at h ⊢;have hk : aT dV l = n := by simp only [ξm, ξP] at h; exact h.2.2.2
   rw [oL m (by omega), gQ m (by omega)]; exact h
 rw [ψh c3] at h ⊢;by_cases c6 : (atB l 0 == 34) = true
 · rw [ψi c6] at h ⊢; exact Gt m hl0 h
 rw [ψh c6] at h ⊢;by_cases c7 : (atB l 0 == 39) = true
 · rw [ψi c7] at h ⊢;unfold nE at h ⊢;have hk : 1 + aT bJ (l.drop 1) = n := by simp only [ξm, ξP] at h; exact h.2.2.2
   rw [nX m (by omega), gQ m (by omega)]; exact h
 rw [ψh c7] at h ⊢;unfold jU at h ⊢;simp only [] at h ⊢;by_cases c8 : [46, 46, 46].isPrefixOf l = true
 · rw [ψi c8] at h;rw [ψi (vS m c8), gQ m (show 3 ≤ l.length from El c8)]; exact h
 · rw [ψh c8] at h;by_cases c9 : j6 (l.take 1) = true
   · have c10 : ¬ [46, 46, 46].isPrefixOf (l ++ m) = true := by
      intro hp;cases l with
      | nil => exact hne rfl
      | cons c l =>
       simp only [List.cons_append, List.isPrefixOf, ξg, ξZ] at hp;rw [← hp.1] at c9;revert c9; simp [List.take]; decide
     rw [ψh c10, gQ m (by omega)]; exact h
   · rw [ψh c9] at h; cases h
theorem nW (m : Bytes) : ∀ (f g d n : Nat) (l : Bytes) {r : Nat}, l.length < f → (l ++ m).length < g → fK f d n l = some r → fK g d n (l ++ m) = some r
 | 0, _, _, _, _, _, h, _, _ => by omega
 | _, 0, _, _, _, _, _, h, _ => by omega
 | f + 1, g + 1, _, _, [], _, _, _, h => by simp [fK] at h
 | f + 1, g + 1, d, n, [c], r, hf, hg, h => by
  simp only [fK] at h;cases f with
  | zero => simp [List.isPrefixOf, fK] at h
  | succ f => simp [List.isPrefixOf, fK] at h
 | f + 1, g + 1, d, n, c :: b :: l, r, hf, hg, h => by
  have p1 := ou (q := [40, 42]) (l := c :: b :: l) m (by simp);have p2 := ou (q := [42, 41]) (l := c :: b :: l) m (by simp);simp only [ξ2, List.cons_append] at hf hg p1 p2;simp only [fK, List.cons_append] at h ⊢;rw [p1, p2];split at h
  · rename_i h1;rw [ψi h1];exact nW m f g _ _ l (by omega) (by omega) h
  · rename_i h1;rw [ψh h1];split at h
    · rename_i h2;rw [ψi h2];split at h
      · rename_i h3; rw [ψi h3]; exact h
      · rename_i h3; rw [ψh h3];exact nW m f g _ _ l (by omega) (by omega) h
    · rename_i h2;rw [ψh h2];exact nW m f g _ _ (b :: l) (by simp only [ξ2]; omega) (by simp only [ξ2, List.cons_append]; omega) h
theorem FP {p : UInt8 → Bool} (h : ∀ n, n < 256 → p n.toUInt8 = true) (c : UInt8) : p c = true := by
 have := h c.toNat c.toNat_lt;rwa [show c.toNat.toUInt8 = c by simp] at this
theorem qH {p : UInt8 → Bool} (h0 : p 0 = false) : ∀ {l : Bytes} {c : Nat}, (∀ i, i < c → p (atB l i) = true) → p (atB l c) = false → aT p l = c
 | [], 0, _, _ => rfl
 | [], c + 1, h1, _ => by have := h1 0 (by omega); rw [show atB [] 0 = 0 from rfl, h0] at this; cases this
 | b :: l, 0, _, h2 => by simp [aT, show p b = false from h2]
 | b :: l, c + 1, h1, h2 => by
  have hb : p b = true := h1 0 (by omega);have := qH h0 (l := l) (c := c) (fun i hi => h1 (i + 1) (by omega)) h2;simp [aT, hb, this]
theorem Fw {p : UInt8 → Bool} : ∀ (l : Bytes) (i : Nat), i < aT p l → p (atB l i) = true
 | [], i, h => by simp [aT] at h
 | b :: l, i, h => by
  by_cases hb : p b = true
  · simp only [aT, hb, if_true] at h;cases i with
    | zero => exact hb
    | succ i => exact Fw l i (by omega)
  · simp [aT, hb] at h
theorem Bw {p : UInt8 → Bool} (h0 : p 0 = false) : ∀ (l : Bytes), p (atB l (aT p l)) = false
 | [] => h0
 | b :: l => by
  by_cases hb : p b = true
  · simp only [aT, hb, if_true]; exact Bw h0 l
  · simp only [aT, hb]; simpa [atB] using hb
def Cb (c : UInt8) : Bool := c == 0 || cg c
theorem fL (c : UInt8) (h : Cb c = true) : bJ c = false ∧ aM c = false ∧ tK c = false ∧ dV c = false ∧ eU c = false ∧ (c == 46) = false ∧ (c == 69) = false ∧ (c == 101) = false ∧ (c == 126) = false ∧ (c == 120) = false ∧ (c == 48) = false ∧ (c == 34) = false ∧ (c == 42) = false := by
 have := FP (p := fun c => !Cb c || (!bJ c && !aM c && !tK c && !dV c && !eU c && !(c == 46) && !(c == 69) && !(c == 101) && !(c == 126) && !(c == 120) && !(c == 48) && !(c == 34) && !(c == 42))) (by decide +kernel) c;simp only [h, Bool.not_true, Bool.false_or, ξg, Bool.not_eq_true'] at this;obtain ⟨⟨⟨⟨⟨⟨⟨⟨⟨⟨⟨⟨a, b⟩, c⟩, d⟩, e⟩, f⟩, g⟩, i⟩, j⟩, k⟩, l⟩, m⟩, o⟩ := this;exact ⟨a, b, c, d, e, f, g, i, j, k, l, m, o⟩
structure Cut (n : Nat) (l l' : Bytes) : Prop where
 take : l'.take n = l.take n
 len : n ≤ l'.length
 lenl : n ≤ l.length
 stop : Cb (atB l' n) = true
theorem qK (l : Bytes) {n i : Nat} (h : i < n) : atB (l.take n) i = atB l i := by
 unfold atB;rw [ξr, ξr, List.getElem?_take_of_lt h]
theorem Cut.same {n : Nat} {l l' : Bytes} (C : Cut n l l') {i : Nat} (h : i < n) : atB l' i = atB l i := by
 rw [← qK l' h, C.take, qK l h]
theorem Cut.drop {n : Nat} {l l' : Bytes} (C : Cut n l l') {j : Nat} (h : j ≤ n) : Cut (n - j) (l.drop j) (l'.drop j) := by
 refine ⟨?_, ?_, ?_, ?_⟩
 · have := C.take;rw [show n = j + (n - j) by omega, List.take_add, List.take_add] at this;exact (List.append_inj this (by rw [ξ7, ξ7, ξK (ξG h C.len), ξK (ξG h C.lenl)])).2
 · have := C.len; rw [ξ3]; omega
 · have := C.lenl; rw [ξ3]; omega
 · rw [dK, show j + (n - j) = n by omega]; exact C.stop
theorem Cut.taken {n : Nat} {l l' : Bytes} (C : Cut n l l') {j : Nat} (h : j ≤ n) : l'.take j = l.take j := by
 have := congrArg (List.take j) C.take;rwa [List.take_take, List.take_take, ξK h] at this
theorem Cut.cnt {p : UInt8 → Bool} (h0 : p 0 = false) {n : Nat} {l l' : Bytes} (C : Cut n l l') (hs : p (atB l' n) = false) {j : Nat} (h : j + aT p (l.drop j) ≤ n) : aT p (l'.drop j) = aT p (l.drop j) := by
 refine qH h0 (fun i hi => ?_) ?_
 · rw [dK, C.same (by omega), ← dK]; exact Fw _ _ hi
 · rw [dK];by_cases hlt : j + aT p (l.drop j) < n
   · rw [C.same hlt, ← dK]; exact Bw h0 _
   · rw [show j + aT p (l.drop j) = n by omega]; exact hs
theorem Cut.cnt0 {p : UInt8 → Bool} (h0 : p 0 = false) {n : Nat} {l l' : Bytes} (C : Cut n l l') (hs : p (atB l' n) = false) (h : aT p l ≤ n) : aT p l' = aT p l := by
 have := C.cnt h0 hs (j := 0) (by simpa using h);simpa using this
theorem Ag : ∀ (f g : Nat) (path : List Bytes) (m : Nat) (l l' : Bytes) {k : Nat} {t : Bytes} {pa : List Bytes} {n : Nat}, l'.length < g → fR f path m l = .ok (k, t, pa, n) → Cut (n - m) l l' → fR g path m l' = .ok (k, t, pa, n)
 | 0, _, _, _, _, _, _, _, _, _, _, h, _ => by simp [fR] at h
 | _, 0, _, _, _, _, _, _, _, _, h, _, _ => by omega
 | f + 1, g + 1, path, m, l, l', k, t, pa, n, hg, h, C => by
  obtain ⟨sw, sd, sh, ss, sl, s46, _⟩ := fL _ C.stop;have hk := jN _ _ _ _ h;have hkl : aT bJ l ≤ n - m := by omega
  simp only [fR] at h ⊢;rw [C.cnt0 (by decide) sw hkl, C.taken hkl];by_cases h1 : j6 (l.take (aT bJ l)) = true
  · rw [ψi h1] at h ⊢; exact h
  rw [ψh h1] at h ⊢;by_cases h2 : (atB l (aT bJ l) == 46) = true
  · rw [ψi h2] at h;have hlt : aT bJ l < n - m := by
     split at h
     · have := (jN _ _ _ _ h).1; omega
     · split at h
       · cases h
       · simp only [ξm, ξP] at h; omega
    rw [C.same hlt, ψi h2];have D := C.drop (j := aT bJ l + 1) hlt;have hgl : (l'.drop (aT bJ l + 1)).length < g := by have := C.len; rw [ξ3]; omega
    generalize hr : l.drop (aT bJ l + 1) = r at *;generalize l'.drop (aT bJ l + 1) = r' at *;have hn0 : 0 < n - m - (aT bJ l + 1) := by
     split at h
     · rename_i hlet;have h3 := (jN _ _ _ _ h).1;have h4 : 0 < aT bJ r := sN (by
        have := FP (p := fun c => !eU c || bJ c) (by decide +kernel) (atB r 0);simpa [hlet] using this) (by decide)
       omega
     · split at h
       · cases h
       · rename_i h5;simp only [ξj, ψc, not_or] at h5;simp only [ξm, ξP] at h; omega
    rw [D.same hn0];by_cases h3 : eU (atB r 0) = true
    · rw [ψi h3] at h ⊢;exact Ag f g _ _ r r' hgl h (by rw [show n - (m + aT bJ l + 1) = n - m - (aT bJ l + 1) by omega]; exact D)
    · rw [ψh h3] at h ⊢;by_cases h4 : (decide (aT dV r = 0) || j6 (r.take (aT dV r))) = true
      · rw [ψi h4] at h; cases h
      · rw [ψh h4] at h;have hc : aT dV r ≤ n - m - (aT bJ l + 1) := by
         simp only [ξm, ξP] at h; omega
        obtain ⟨_, _, _, ss', _⟩ := fL _ D.stop;rw [D.cnt0 (by decide) ss' hc, D.taken hc, ψh h4]; exact h
  · rw [ψh h2] at h;have hn : n - m = aT bJ l := by simp only [ξm, ξP] at h; omega
    rw [ψh (by rw [← hn, s46]; exact Bool.false_ne_true)]; exact h
theorem JQ {l l' : Bytes} (hw : bJ (atB l (bT l).1) = false) (C : Cut (bT l).1 l l') (h1 : 1 ≤ (bT l).1) : bT l' = bT l := by
 obtain ⟨sw, sd, sh, ss, sl, s46, s69, s101, s126, s120, s48, _⟩ := fL _ C.stop;generalize hN : (bT l).1 = N at *;revert hN;unfold bT;simp only [];rw [C.same (show 0 < N by omega)];generalize hf : (if atB l 0 == 126 then 1 else 0 : Nat) = f;have hf1 : f ≤ 1 := by rw [← hf]; split <;> omega
 by_cases hx : ([48, 120].isPrefixOf (l.drop f) && decide (0 < aT tK (l.drop (f + 2)))) = true
 · rw [ψi hx];intro hN;simp only at hN;have hx' := hx;simp only [ξg, ψc] at hx;have hpre : [48, 120].isPrefixOf (l'.drop f) = true := by
    have h2 := hx.1;rw [Cw _ 48 120 (by decide) (by decide), dK, dK] at h2 ⊢;rw [C.same (by omega), C.same (by omega)]; exact h2
   rw [C.cnt (by decide) sh (j := f + 2) (by omega), hpre];simp [hx.2]
 · rw [ψh hx];generalize he : f + aT aM (l.drop f) = e0;have hx' : ([48, 120].isPrefixOf (l.drop f) && decide (0 < aT tK (l.drop (f + 2)))) = false := ψd hx;generalize hd : aT aM (l.drop (e0 + 1)) = d;generalize hp : (if atB l e0 == 46 && decide (0 < d) then (e0 + 1 + d, 5) else (e0, 4) : Nat × Nat) = p;generalize hM : p.1 + 1 + (if atB l (p.1 + 1) == 126 then 1 else 0 : Nat) = M;generalize hE : aT aM (l.drop M) = E;have hpe : e0 ≤ p.1 := by rw [← hp]; split <;> simp <;> omega
   intro hN;have hE0 : (atB l p.1 == 69 || atB l p.1 == 101) = true → 0 < E := by
    intro hEe;refine ξk fun h0 => ?_;rw [ψh (by simp [h0])] at hN;rw [← hN] at hw;simp only [ξj, ξZ] at hEe;rcases hEe with h | h <;> (rw [h] at hw; revert hw; decide)
   have hpN : p.1 ≤ N ∧ ((atB l p.1 == 69 || atB l p.1 == 101) = true → M + E = N) ∧ ((atB l p.1 == 69 || atB l p.1 == 101) = false → p.1 = N) := by
    by_cases hEe : (atB l p.1 == 69 || atB l p.1 == 101) = true
    · have h0 := hE0 hEe;rw [hEe, ψi (by simp [h0])] at hN;simp only at hN;exact ⟨by omega, fun _ => hN, fun h => (by rw [hEe] at h; cases h)⟩
    · have hEf : (atB l p.1 == 69 || atB l p.1 == 101) = false := ψd hEe;rw [hEf] at hN;simp only [Bool.false_and, ξh, if_false] at hN;exact ⟨by omega, fun h => (by rw [hEf] at h; cases h), fun _ => hN⟩
   have heN : e0 ≤ N := by omega
   rw [C.cnt (by decide) sd (j := f) (by omega), he];have hX : ([48, 120].isPrefixOf (l'.drop f) && decide (0 < aT tK (l'.drop (f + 2)))) = false := by
    by_cases hpre : [48, 120].isPrefixOf (l'.drop f) = true
    · exfalso
      have hpre2 := hpre;rw [Cw _ 48 120 (by decide) (by decide)] at hpre2;simp only [ξg, ξZ, dK, Nat.add_zero] at hpre2;have hfN : f < N := by
       refine ξk fun hk => ?_;have : f = N := by omega
       rw [this] at hpre2;rw [hpre2.1] at s48; revert s48; decide
      have hfN2 : f + 1 < N := by
       refine ξk fun hk => ?_;have : f + 1 = N := by omega
       rw [this] at hpre2;rw [hpre2.2] at s120; revert s120; decide
      rw [C.same hfN, C.same hfN2] at hpre2;have hl2 : [48, 120].isPrefixOf (l.drop f) = true := by
       rw [Cw _ 48 120 (by decide) (by decide), dK, dK, Nat.add_zero, hpre2.1, hpre2.2]; rfl
      have hc1 : aT aM (l.drop f) = 1 := by
       refine qH (by decide) (fun i hi => ?_) ?_
       · rw [show i = 0 by omega, dK, Nat.add_zero, hpre2.1]; decide
       · rw [dK, hpre2.2]; decide
      have he1 : e0 = f + 1 := by omega
      have hp1 : p = (e0, 4) := by rw [← hp, he1, hpre2.2]; rfl
      have hpx : atB l p.1 = 120 := by rw [hp1, he1]; exact hpre2.2
      have := hpN.2.2 (by rw [hpx]; decide);rw [hp1] at this;simp only at this;omega
    · rw [ψd hpre]; rfl
   rw [hX, ψh Bool.false_ne_true];have hP : (if atB l' e0 == 46 && decide (0 < aT aM (l'.drop (e0 + 1))) then (e0 + 1 + aT aM (l'.drop (e0 + 1)), 5) else (e0, 4) : Nat × Nat) = p := by
    by_cases hlt : e0 < N
    · rw [C.same hlt];by_cases h4 : (atB l e0 == 46) = true
      · by_cases hd0 : 0 < d
        · have hp1 : p = (e0 + 1 + d, 5) := by rw [← hp, h4, ψi (by simp [hd0])]
          have hdc : aT aM (l'.drop (e0 + 1)) = d := by
           rw [C.cnt (by decide) sd (j := e0 + 1) (by rw [hd]; rw [hp1] at hpN; exact hpN.1), hd]
          rw [hdc, hp]
        · exfalso
          have hp1 : p = (e0, 4) := by rw [← hp, ψh (by simp [hd0])]
          have := hpN.2.2 (by rw [hp1]; simp only; rw [show atB l e0 = 46 by simpa using h4]; decide);rw [hp1] at this; simp only at this; omega
      · have hp1 : p = (e0, 4) := by rw [← hp, ψh (by simp [h4])]
        rw [hp1, ψh (by simp [h4])]
    · have heq : e0 = N := by omega
      have hp1 : p = (e0, 4) := by
       rw [← hp];split
       · rename_i hh;exfalso
         have : p = (e0 + 1 + d, 5) := by rw [← hp, ψi hh]
         rw [this] at hpN;have := hpN.1;simp only at this; omega
       · rfl
      rw [hp1, heq, s46]; rfl
   rw [hP];by_cases hEe : (atB l p.1 == 69 || atB l p.1 == 101) = true
   · have h0 := hE0 hEe;have hMN := hpN.2.1 hEe;have hM1 : p.1 + 1 ≤ M := by omega
     rw [C.same (show p.1 < N by omega), C.same (show p.1 + 1 < N by omega), hM, C.cnt (by decide) sd (j := M) (by rw [hE]; omega), hE]
   · have hEf : (atB l p.1 == 69 || atB l p.1 == 101) = false := ψd hEe;have hpeq := hpN.2.2 hEf;rw [hEf, hpeq, s69, s101]; simp
theorem uD {l l' : Bytes} {k : Nat} {t : Bytes} {pa : List Bytes} {n : Nat} (h : cF l = .ok (k, t, pa, n)) (h1 : 1 ≤ n) (C : Cut n l l') : cF l' = .ok (k, t, pa, n) := by
 unfold cF at h ⊢;simp only [] at h ⊢;by_cases hw : bJ (atB l (bT l).1) = true
 · rw [ψi hw] at h; cases h
 rw [ψh hw] at h;by_cases h2 : 4096 < (bT l).1
 · rw [ψi h2] at h; cases h
 rw [ψh h2] at h;have hp : (bT l).1 = n := by simp only [ξm, ξP] at h; exact h.2.2.2
 obtain ⟨sw, _⟩ := fL _ C.stop;have hE := JQ (l := l) (l' := l') (ψd hw) (by rw [hp]; exact C) (by omega);rw [hE, ψh (by rw [hp, sw]; exact Bool.false_ne_true), ψh h2, hp, C.take];rw [hp] at h; exact h
theorem vu {b n : Nat} {l l' : Bytes} (h : 0 ≤ cB b n l) (ht : l'.take n = l.take n) (hl : n ≤ l'.length) : cB b n l' = cB b n l := by
 have hn : n ≤ l.length := by
  refine ξk fun hk => ?_;unfold cB at h; rw [ψi (by omega)] at h; omega
 unfold cB;rw [ψh (show ¬ l'.length < n by omega), ψh (show ¬ l.length < n by omega), ht]
theorem Ky (l l' : Bytes) (h : (iF l).2 ≠ 0) (ht : l'.take (iF l).2 = l.take (iF l).2) (hl : (iF l).2 ≤ l'.length) : iF l' = iF l := by
 have same : ∀ i, i < (iF l).2 → atB l' i = atB l i := fun i hi => by rw [← qK l' hi, ht, qK l hi]
 have tk : ∀ j, j ≤ (iF l).2 → l'.take j = l.take j := fun j hj => by
  have := congrArg (List.take j) ht;rwa [List.take_take, List.take_take, ξK hj] at this
 have hne : l ≠ [] := by rintro rfl; simp [iF] at h
 have hne' : l' ≠ [] := by rintro rfl; simp at hl; omega
 revert h hl same tk;clear ht;unfold iF;rw [ψh hne', ψh hne];simp only [];intro h hl same tk;have s0 := same 0 (by omega);rw [s0];by_cases h1 : 0 ≤ Go.Lib.indexByte Fe (atB l 0)
 · rw [ψi h1, ψi h1]
 rw [ψh h1] at h hl same tk ⊢;rw [ψh h1];by_cases h2 : (atB l 0 == 34 || atB l 0 == 92) = true
 · rw [ψi h2, ψi h2]
 rw [ψh h2] at h hl same tk ⊢;rw [ψh h2];by_cases h3 : (atB l 0 == 94) = true
 · rw [ψi h3] at h hl same tk ⊢;rw [ψi h3];by_cases h4 : (decide (64 ≤ (atB l 1).toNat) && decide ((atB l 1).toNat ≤ 95)) = true
   · rw [ψi h4] at same;rw [same 1 (by simp)]
   · rw [ψh h4] at h; exact absurd rfl h
 rw [ψh h3] at h hl same tk ⊢;rw [ψh h3];by_cases h5 : (atB l 0 == 117) = true
 · rw [ψi h5] at h hl same tk ⊢;rw [ψi h5];by_cases h6 : 0 ≤ cB 16 4 (l.drop 1)
   · rw [ψi h6] at hl tk;simp only at hl tk;have ht5 := tk 5 (ξF _);have hl5 : 5 ≤ l.length := by
      refine ξk fun hk => ?_;unfold cB at h6; rw [ψi (by rw [ξ3]; omega)] at h6; omega
     have : (l'.drop 1).take 4 = (l.drop 1).take 4 := by
      rw [show 5 = 1 + 4 from rfl, List.take_add, List.take_add] at ht5;exact (List.append_inj ht5 (by rw [ξ7, ξ7]; omega)).2
     rw [vu h6 this (by rw [ξ3]; omega)]
   · rw [ψh h6] at h; exact absurd rfl h
 rw [ψh h5] at h hl same tk ⊢;rw [ψh h5];by_cases h7 : aM (atB l 0) = true
 · rw [ψi h7] at h hl same tk ⊢;rw [ψi h7];by_cases h8 : 0 ≤ cB 10 3 l
   · rw [ψi h8] at hl tk;simp only at hl tk;rw [vu h8 (tk 3 (ξF _)) hl]
   · rw [ψh h8] at h; exact absurd rfl h
 rw [ψh h7] at h hl same tk ⊢;rw [ψh h7];by_cases h9 : (decide (0 < aT cg l) && atB l (aT cg l) == 92) = true
 · rw [ψi h9] at hl same;simp only at hl same;have h92 : atB l (aT cg l) = 92 := by simp only [ξg, ξZ] at h9; exact h9.2
   have hc : aT cg l' = aT cg l := by
    refine qH (by decide) (fun i hi => ?_) ?_
    · rw [same i (by omega)]; exact Fw _ _ hi
    · rw [same _ (by omega), h92]; decide
   rw [hc, same (aT cg l) (by omega)]
 · rw [ψh h9] at h; exact absurd rfl h
theorem l5 : ∀ (f g : Nat) (l l' acc : Bytes) (m : Nat) {t : Bytes} {n : Nat}, l'.length < g → bS f l acc m = some (t, n) → l'.take (n - m) = l.take (n - m) → n - m ≤ l'.length → bS g l' acc m = some (t, n)
 | 0, _, _, _, _, _, _, _, _, h, _, _ => by simp [bS] at h
 | _, 0, _, _, _, _, _, _, h, _, _, _ => by omega
 | f + 1, g + 1, [], _, _, _, _, _, _, h, _, _ => by simp [bS] at h
 | f + 1, g + 1, c :: r, [], acc, m, t, n, _, h, _, hl => by
  have := (cV _ _ _ _ h).1;simp at hl; omega
 | f + 1, g + 1, c :: r, c' :: r', acc, m, t, n, hg, h, ht, hl => by
  have hn := (cV _ _ _ _ h).1;obtain ⟨j, hj⟩ : ∃ j, n - m = j + 1 := ⟨n - m - 1, by omega⟩;rw [hj, List.take_succ_cons, List.take_succ_cons] at ht;simp only [List.cons.injEq] at ht;obtain ⟨rfl, ht⟩ := ht;rw [hj] at hl;simp only [ξ2] at hl hg;simp only [bS] at h ⊢;by_cases h1 : (c' == 34) = true
  · rw [ψi h1] at h ⊢; exact h
  rw [ψh h1] at h ⊢;by_cases h2 : (decide (c'.toNat < 32) || decide (126 < c'.toNat)) = true
  · rw [ψi h2] at h; cases h
  rw [ψh h2] at h ⊢;by_cases h3 : (c' != 92) = true
  · rw [ψi h3] at h ⊢;have hj2 : n - (m + 1) = j := by omega
    exact l5 f g r r' _ _ (by omega) h (by rw [hj2]; exact ht) (by omega)
  rw [ψh h3] at h ⊢;by_cases h4 : (iF r).2 = 0
  · rw [ψi h4] at h; cases h
  rw [ψh h4] at h;have hfit := sG r h4;have h5 := (cV _ _ _ _ h).1;have hk : (iF r).2 ≤ j := by omega
  have htk : r'.take (iF r).2 = r.take (iF r).2 := by
   have := congrArg (List.take (iF r).2) ht;rwa [List.take_take, List.take_take, ξK hk] at this
  have he := Ky r r' h4 htk (by omega);rw [he, ψh h4];have hjj : j = (iF r).2 + (n - (m + 1 + (iF r).2)) := by omega
  refine l5 f g _ _ _ _ (by rw [ξ3]; omega) h ?_ (by rw [ξ3]; omega);rw [hjj, List.take_add, List.take_add] at ht;exact (List.append_inj ht (by rw [ξ7, ξ7]; omega)).2
theorem Ig {l l' : Bytes} {k : Nat} {t : Bytes} {pa : List Bytes} {n : Nat} (h : jw l = .ok (k, t, pa, n)) (C : Cut n l l') : jw l' = .ok (k, t, pa, n) := by
 unfold jw at h ⊢;cases hq : bS (l.length + 1) (l.drop 2) [] 2 with
 | none => rw [hq] at h; cases h
 | some r =>
  obtain ⟨s, m⟩ := r;rw [hq] at h;simp only [] at h;have hm : m = n := by
   split at h
   · simp only [ξm, ξP] at h; exact h.2.2.2
   · cases h
  subst hm;have h2 := (cV _ _ _ _ hq).1;have D := C.drop (j := 2) (by omega);rw [l5 _ (l'.length + 1) _ (l'.drop 2) _ _ (by rw [ξ3]; omega) hq D.take D.len];exact h
theorem Gs {l l' : Bytes} {k : Nat} {t : Bytes} {pa : List Bytes} {n : Nat} (h : lg l = .ok (k, t, pa, n)) (C : Cut n l l') : lg l' = .ok (k, t, pa, n) := by
 unfold lg at h ⊢;cases hq : bS (l.length + 1) (l.drop 1) [] 1 with
 | none => rw [hq] at h; cases h
 | some r =>
  obtain ⟨s, m⟩ := r;rw [hq] at h;simp only [] at h;have hm : m = n := by
   split at h
   · cases h
   · simp only [ξm, ξP] at h; exact h.2.2.2
  subst hm;have h2 := (cV _ _ _ _ hq).1;have D := C.drop (j := 1) (by omega);rw [l5 _ (l'.length + 1) _ (l'.drop 1) _ _ (by rw [ξ3]; omega) hq D.take D.len];exact h
theorem Ie {l : Bytes} {k : Nat} {t : Bytes} {pa : List Bytes} {n : Nat} (h : jw l = .ok (k, t, pa, n)) : 3 ≤ n := by
 unfold jw at h;split at h
 · cases h
 · rename_i s m hq;have := (cV _ _ _ _ hq).1;split at h
   · simp only [ξm, ξP] at h; omega
   · cases h
theorem JO {l : Bytes} (h : (atB l 0 == 126 && aM (atB l 1)) = true) {k : Nat} {t : Bytes} {pa : List Bytes} {n : Nat} (hr : cF l = .ok (k, t, pa, n)) : 2 ≤ n := by
 simp only [ξg] at h;have hf : (if atB l 0 == 126 then 1 else 0 : Nat) = 1 := ψi h.1;have hc : 0 < aT aM (l.drop 1) := sN (by rw [dK]; exact h.2) (by decide);have : 2 ≤ (bT l).1 := by
  unfold bT;simp only [hf];generalize aT aM (l.drop 1) = c0 at *;repeat' split
  all_goals (simp only []; omega)
 unfold cF at hr;simp only [] at hr;split at hr
 · cases hr
 · split at hr
   · cases hr
   · simp only [ξm, ξP] at hr; omega
theorem GN {l l' : Bytes} {k : Nat} {t : Bytes} {pa : List Bytes} {n : Nat} (hne : l ≠ []) (h : gL l = .ok (k, t, pa, n)) (C : Cut n l l') : gL l' = .ok (k, t, pa, n) := by
 have hn1 := (gh hne h).1;obtain ⟨sw, sd, sh, ss, sl, s46, s69, s101, s126, s120, s48, s34, s42⟩ := fL _ C.stop;unfold gL at h ⊢;simp only [] at h ⊢;rw [C.same (show 0 < n by omega)];by_cases c1 : eU (atB l 0) = true
 · rw [ψi c1] at h ⊢;exact Ag _ _ _ _ _ _ (by omega) h (by simpa using C)
 rw [ψh c1] at h ⊢;by_cases c2 : aM (atB l 0) = true
 · rw [ψi c2] at h ⊢; exact uD h hn1 C
 rw [ψh c2] at h ⊢;by_cases c3 : (atB l 0 == 126 || dV (atB l 0)) = true
 · rw [ψi c3] at h ⊢;unfold q8 at h ⊢;rw [C.same (show 0 < n by omega)];have at1 : 1 < n → atB l' 1 = atB l 1 := fun h => C.same h;have at1' : ¬ 1 < n → Cb (atB l' 1) = true := fun h => by have := C.stop; rwa [show n = 1 by omega] at this
   by_cases c4 : (atB l 0 == 126 && aM (atB l 1)) = true
   · rw [ψi c4] at h;have h2 := JO c4 h;rw [at1 (by omega), ψi c4]; exact uD h hn1 C
   rw [ψh c4] at h;have c4' : ¬ (atB l 0 == 126 && aM (atB l' 1)) = true := by
    by_cases h1 : 1 < n
    · rw [at1 h1]; exact c4
    · have := (fL _ (at1' h1)).2.1;rw [this]; simp
   rw [ψh c4'];have hp : ∀ L : Bytes, [35, 34].isPrefixOf L = (atB L 0 == 35 && atB L 1 == 34) := fun L => Cw L 35 34 (by decide) (by decide);rw [hp] at h ⊢;rw [C.same (show 0 < n by omega)];by_cases c5 : (atB l 0 == 35 && atB l 1 == 34) = true
   · rw [ψi c5] at h;have h3 := Ie h;rw [at1 (by omega), ψi c5]; exact Ig h C
   rw [ψh c5] at h;have c5' : ¬ (atB l 0 == 35 && atB l' 1 == 34) = true := by
    by_cases h1 : 1 < n
    · rw [at1 h1]; exact c5
    · have := (fL _ (at1' h1)).2.2.2.2.2.2.2.2.2.2.2.1;rw [this]; simp
   rw [ψh c5'];simp only [] at h ⊢;have hk : aT dV l = n := by simp only [ξm, ξP] at h; exact h.2.2.2
   rw [C.cnt0 (by decide) ss (by omega), C.taken (by omega)]; exact h
 rw [ψh c3] at h ⊢;by_cases c6 : (atB l 0 == 34) = true
 · rw [ψi c6] at h ⊢; exact Gs h C
 rw [ψh c6] at h ⊢;by_cases c7 : (atB l 0 == 39) = true
 · rw [ψi c7] at h ⊢;unfold nE at h ⊢;have hk : 1 + aT bJ (l.drop 1) = n := by simp only [ξm, ξP] at h; exact h.2.2.2
   rw [C.cnt (by decide) sw (j := 1) (by omega), C.taken (by omega)]; exact h
 rw [ψh c7] at h ⊢;unfold jU at h ⊢;have hp3 : ∀ L : Bytes, [46, 46, 46].isPrefixOf L = (atB L 0 == 46 && atB L 1 == 46 && atB L 2 == 46) := fun L => by
  match L with
  | [] => rfl
  | [a] => simp [List.isPrefixOf, atB]
  | [a, b] => simp [List.isPrefixOf, atB]
  | a :: b :: c :: L =>
   simp only [List.isPrefixOf, atB, List.getD_cons_zero, List.getD_cons_succ, Bool.and_true];rw [nD 46 a, nD 46 b, nD 46 c, Bool.and_assoc]
 rw [hp3] at h ⊢;rw [C.same (show 0 < n by omega)];by_cases c8 : (atB l 0 == 46 && atB l 1 == 46 && atB l 2 == 46) = true
 · have h' : (if j6 (l.take 3) then (.ok (1, l.take 3, [], 3) : Rd) else .error 40) = .ok (k, t, pa, n) := by rw [ψi c8] at h; exact h
   have hn3 : n = 3 := by
    split at h'
    · simp only [ξm, ξP] at h'; omega
    · cases h'
   rw [C.same (show 1 < n by omega), C.same (show 2 < n by omega), ψi c8];rw [show l.take 3 = l'.take 3 from (C.taken (by omega)).symm] at h';exact h'
 · have h' : (if j6 (l.take 1) then (.ok (1, l.take 1, [], 1) : Rd) else .error 40) = .ok (k, t, pa, n) := by rw [ψh c8] at h; exact h
   have hn3 : n = 1 := by
    split at h'
    · simp only [ξm, ξP] at h'; omega
    · cases h'
   have s1 : (atB l' 1 == 46) = false := by rw [← hn3]; exact s46
   rw [s1, Bool.and_false, Bool.false_and, ψh Bool.false_ne_true];rw [show l.take 1 = l'.take 1 from (C.taken (by omega)).symm] at h';exact h'
end Go.Proofs.YtbchkldhnjahaaaGreatDoor
namespace Kiln
open Go.Proofs.YtbchkldhnjahaaaGreatDoor
theorem FX (p : Nat × Nat) (a b : Bytes) : adv p (a ++ b) = adv (adv p a) b := by unfold adv; rw [List.foldl_append]
theorem Cm {l : Bytes} {b : UInt8} (hb : cg b = true) (R : Bytes) (hne : l ≠ []) {k : Nat} {t : Bytes} {pa : List Bytes} {n : Nat} (h : gL l = .ok (k, t, pa, n)) : gL (l ++ b :: R) = .ok (k, t, pa, n) := by
 have hst : Cb b = true := by unfold Cb; rw [hb]; simp
 obtain ⟨h1, h2⟩ := gh hne h;rcases Nat.lt_or_ge n l.length with h3 | h3
 · exact GQ (b :: R) (.inr (show aM b = false from (fL b hst).2.1)) h h3
 · obtain rfl : n = l.length := by omega
   refine GN hne h ⟨by simp, by simp, ξF _, ?_⟩;have e : atB (l ++ b :: R) l.length = b := by
    unfold atB;rw [ξr, ξt (ξF _), Nat.sub_self]; rfl
   rw [e]; exact hst
theorem jc {b : UInt8} (hb : cg b = true) (R : Bytes) : ∀ (N : Nat) (l : Bytes) (p : Nat × Nat) (acc ts : List Tok), l.length ≤ N → gK l p acc = .ok ts → gK (l ++ b :: R) p acc = gK (b :: R) (adv p l) ts
 | N, [], p, acc, ts, _, h => by
  rw [rA] at h;simp only [ξm] at h;subst h; rfl
 | 0, c :: l, _, _, _, hN, _ => by simp at hN
 | N + 1, c :: l, p, acc, ts, hN, h => by
  simp only [ξ2] at hN;by_cases hc0 : cg c = true
  · rw [dW hc0] at h;rw [List.cons_append, dW hc0, jc hb R N l _ _ _ (by omega) h]; rfl
  have hc0 : cg c = false := ψd hc0;have hn42 : b ≠ 42 := by rintro rfl; revert hb; decide
  by_cases hc : [40, 42].isPrefixOf (c :: l) = true
  · rw [jS hc0 hc] at h;rw [List.cons_append, jS hc0 (by have := vS (b :: R) hc; exact this)];cases hq : fK ((c :: l).length + 1) 0 0 (c :: l) with
    | none => rw [hq] at h; cases h
    | some n =>
     have hn := gD _ _ _ _ hq;simp only [ξ2] at hn;rw [hq] at h;have h2 := nW (b :: R) ((c :: l).length + 1) ((c :: l ++ b :: R).length + 1) 0 0 (c :: l) (by omega) (by omega) hq;rw [List.cons_append] at h2;rw [h2];simp only [] at h ⊢;have hle : n ≤ (c :: l).length := by simp only [ξ2]; omega
     rw [← List.cons_append, iQ _ hle, gQ _ hle, jc hb R N _ _ _ _ (by rw [ξ3, ξ2]; omega) h, ← FX, ξD]
  have hc : [40, 42].isPrefixOf (c :: l) = false := ψd hc;rw [jd hc0 hc] at h;have hc2 : [40, 42].isPrefixOf (c :: (l ++ b :: R)) = false := by
   cases l with
   | nil =>
    simp only [List.nil_append, List.isPrefixOf, Bool.and_true, Bool.and_eq_false_iff];exact .inr (by rw [ξY]; exact fun e => hn42 e.symm)
   | cons d l => rw [← List.cons_append, ou _ (by simp)]; exact hc
  rw [List.cons_append, jd hc0 hc2, ← List.cons_append];cases hr : gL (c :: l) with
  | error e' => rw [hr] at h; cases h
  | ok v =>
   obtain ⟨k, t, pa, n⟩ := v;rw [hr] at h;rw [Cm hb R (by simp) hr];have hn := gh (by simp) hr;simp only [] at h ⊢;rw [iQ _ hn.2, gQ _ hn.2, jc hb R N _ _ _ _ (by rw [ξ3]; simp only [ξ2] at hn ⊢; omega) h, ← FX, ξD]
def mW (t : Tok) : Int × Bytes × List Bytes := (t.kind, t.text, t.path)
theorem lX : ∀ (N : Nat) (l : Bytes) (p p' : Nat × Nat) (acc acc' ts : List Tok), l.length ≤ N → gK l p acc = .ok ts → ∃ m m', ts = acc ++ m ∧ gK l p' acc' = .ok (acc' ++ m') ∧ m'.map mW = m.map mW
 | N, [], p, p', acc, acc', ts, _, h => by
  rw [rA] at h;simp only [ξm] at h;subst h;exact ⟨[], [], by simp, by rw [rA]; simp, rfl⟩
 | 0, c :: l, _, _, _, _, _, hN, _ => by simp at hN
 | N + 1, c :: l, p, p', acc, acc', ts, hN, h => by
  simp only [ξ2] at hN;by_cases hc0 : cg c = true
  · rw [dW hc0] at h;rw [dW hc0];exact lX N l _ _ _ _ _ (by omega) h
  have hc0 : cg c = false := ψd hc0;by_cases hc : [40, 42].isPrefixOf (c :: l) = true
  · rw [jS hc0 hc] at h;rw [jS hc0 hc];cases hq : fK ((c :: l).length + 1) 0 0 (c :: l) with
    | none => rw [hq] at h; cases h
    | some n =>
     have hn := gD _ _ _ _ hq;simp only [ξ2] at hn;rw [hq] at h;simp only [] at h ⊢;exact lX N _ _ _ _ _ _ (by rw [ξ3, ξ2]; omega) h
  have hc : [40, 42].isPrefixOf (c :: l) = false := ψd hc;rw [jd hc0 hc] at h;rw [jd hc0 hc];cases hr : gL (c :: l) with
  | error e' => rw [hr] at h; cases h
  | ok v =>
   obtain ⟨k, t, pa, n⟩ := v;rw [hr] at h;have hn := gh (by simp) hr;simp only [] at h ⊢;obtain ⟨m, m', e1, e2, e3⟩ := lX N _ _ (adv p' ((c :: l).take n)) _ (acc' ++ [⟨k, t, pa, p'.1, p'.2⟩]) _ (by rw [ξ3]; simp only [ξ2] at hn ⊢; omega) h;exact ⟨⟨k, t, pa, p.1, p.2⟩ :: m, ⟨k, t, pa, p'.1, p'.2⟩ :: m', by rw [e1]; simp, by rw [e2]; simp, by simp [mW, e3]⟩
def Ho : Bytes := [108, 111, 99, 97, 108, 32]
def H8 : Bytes := [10, 105, 110, 32, 101, 110, 100, 10]
theorem Cg {p q : Bytes} {tp tq : List Tok} (hp : gJ p = .ok tp) (hq : gJ q = .ok tq) (hlen : (Ho ++ p ++ H8 ++ q).length ≤ 1048576) :
 ∃ t0 mp t1 t2 mq, gJ (Ho ++ p ++ H8 ++ q) = .ok (t0 :: mp ++ t1 :: t2 :: mq) ∧ mW t0 = (1, [108, 111, 99, 97, 108], []) ∧ mW t1 = (1, [105, 110], []) ∧ mW t2 = (1, [101, 110, 100], []) ∧ mp.map mW = tp.map mW ∧ mq.map mW = tq.map mW := by
 have hC : ∀ {s : Bytes} {ts : List Tok}, gJ s = .ok ts → gK s (1, 1) [] = .ok ts := fun {s ts} h => by
  unfold gJ at h;split at h
  · cases h
  · exact h
 have h1 := hC hp;have h2 := hC hq;obtain ⟨m1, mp, e1, e2, e3⟩ := lX p.length p (1, 1) (FY (adv (1, 1) [108, 111, 99, 97, 108]) 32) [] [⟨1, [108, 111, 99, 97, 108], [], 1, 1⟩] tp (ξF _) h1;rw [List.nil_append] at e1;subst e1;have a1 : gK ([108, 111, 99, 97, 108] ++ 32 :: (p ++ 10 :: ([105, 110] ++ 32 :: ([101, 110, 100] ++ 10 :: q)))) (1, 1) [] = gK (32 :: (p ++ 10 :: ([105, 110] ++ 32 :: ([101, 110, 100] ++ 10 :: q)))) (adv (1, 1) [108, 111, 99, 97, 108]) [⟨1, [108, 111, 99, 97, 108], [], 1, 1⟩] := jc (by decide) _ 5 [108, 111, 99, 97, 108] (1, 1) [] _ (ξF _) (by rfl);rw [dW (by decide)] at a1;rw [jc (b := 10) (by decide) _ p.length p _ _ _ (ξF _) e2, dW (by decide)] at a1;generalize hp1 : FY (adv (FY (adv (1, 1) [108, 111, 99, 97, 108]) 32) p) 10 = p1 at a1;generalize hA : [⟨1, [108, 111, 99, 97, 108], [], 1, 1⟩] ++ mp = A at a1;have b1 : gK [105, 110] p1 A = .ok (A ++ [⟨1, [105, 110], [], p1.1, p1.2⟩]) := by
  obtain ⟨m, m', u1, u2, u3⟩ := lX 2 [105, 110] (1, 1) p1 [] A [⟨1, [105, 110], [], 1, 1⟩] (ξF _) (by rfl);rw [jd (by decide) (by decide)];rfl
 rw [jc (b := 32) (by decide) _ 2 [105, 110] _ _ _ (ξF _) b1, dW (by decide)] at a1;generalize hp2 : FY (adv p1 [105, 110]) 32 = p2 at a1;have b2 : ∀ B, gK [101, 110, 100] p2 B = .ok (B ++ [⟨1, [101, 110, 100], [], p2.1, p2.2⟩]) := fun B => by
  rw [jd (by decide) (by decide)];rfl
 rw [jc (b := 10) (by decide) _ 3 [101, 110, 100] _ _ _ (ξF _) (b2 _), dW (by decide)] at a1;obtain ⟨m2, mq, f1, f2, f3⟩ := lX q.length q (1, 1) (FY (adv p2 [101, 110, 100]) 10) [] (A ++ [⟨1, [105, 110], [], p1.1, p1.2⟩] ++ [⟨1, [101, 110, 100], [], p2.1, p2.2⟩]) tq (ξF _) h2;rw [List.nil_append] at f1;subst f1;rw [f2] at a1;refine ⟨⟨1, [108, 111, 99, 97, 108], [], 1, 1⟩, mp, ⟨1, [105, 110], [], p1.1, p1.2⟩, ⟨1, [101, 110, 100], [], p2.1, p2.2⟩, mq, ?_, rfl, rfl, rfl, e3, f3⟩;unfold gJ;rw [ψh (by omega)];have ht : Ho ++ p ++ H8 ++ q = [108, 111, 99, 97, 108] ++ 32 :: (p ++ 10 :: ([105, 110] ++ 32 :: ([101, 110, 100] ++ 10 :: q))) := by simp [Ho, H8]
 show gK (Ho ++ p ++ H8 ++ q) (1, 1) [] = _;rw [ht, a1, ← hA];simp
end Kiln
namespace Kiln
theorem bq {α β : Type} {m : M α} {f : α → M β} {s : PS} {x : β × PS} (h : (m >>= f) s = .ok x) : ∃ a s1, m s = .ok (a, s1) ∧ f a s1 = .ok x := by
 cases hm : m s with
 | error e => rw [dB hm] at h; cases h
 | ok y => obtain ⟨a, s1⟩ := y; exact ⟨a, s1, rfl, by rw [bind_ok hm] at h; exact h⟩
theorem rC {α β : Type} {A : α → β → Prop} {c : Cf} {k : Nat} {m : M α} {m' : M β} {st st' s s' : PS} {a : α} {a' : β} (h : RR c k A (m st) (m' st')) (e1 : m st = .ok (a, s)) (e2 : m' st' = .ok (a', s')) : A a a' ∧ SR c k s s' := by
 rw [e1, e2] at h; exact h
theorem gY {c : Cf} (HC : c.OK) (he : ¬ c.ex) : ∀ n m, gI c (iV c.ts n) (iV c.ts' m)
 | 0, _ => ⟨fun _ _ _ _ => gW he, fun _ _ _ _ => gW he, fun _ _ _ _ => gW he, fun _ _ _ _ => gW he, fun _ _ _ _ => gW he, fun _ _ _ _ => gW he⟩
 | n + 1, 0 => ⟨fun _ _ _ _ => gb he, fun _ _ _ _ => gb he, fun _ _ _ _ => gb he, fun _ _ _ _ => gb he, fun _ _ _ _ => gb he, fun _ _ _ _ => gb he⟩
 | n + 1, m + 1 => ⟨fun _ => E9 HC (gY HC he n m), fun _ => Es HC (gY HC he n m), fun _ => IC HC (gY HC he n m), fun _ => qF HC (gY HC he n m), fun _ => DZ HC (gY HC he n m), fun _ => D8 HC (gY HC he n m)⟩
theorem qx {sp : Int × Int} {kd : Int} {text : Bytes} {kids : List Nat} {s s' : PS} {i : Nat} (h : aV sp kd text kids s = .ok (i, s')) :
 i = s.nodes.length ∧ s' = { s with nodes := s.nodes ++ [⟨kd, text, [], kids.map Int.ofNat, sp.1, sp.2⟩], deep := s.deep ++ [iJ s.deep kids 1] } ∧ ∀ x ∈ kids, x < s.nodes.length := by
 unfold aV at h;split at h
 · cases h
 rename_i h0;split at h
 · cases h
 split at h
 · cases h
 split at h
 · cases h
 simp only [ξm, ξP] at h;refine ⟨h.1.symm, h.2.symm, fun x hx => ?_⟩;simp only [List.any_eq_true, not_exists, not_and, Bool.not_eq_true', Bool.and_eq_false_iff, not_or] at h0;have := (h0 x hx).1;simpa using this
theorem oJ {c : Cf} (HC : c.OK) {L L' : Low} (HL : gI c L L') (sp sp' : Int × Int) (pl : List Nat) : ∀ (f f' : Nat) (l l' : List Nat) (st st' s s' : PS) (i k : Nat), LsR c l l' → SR c 0 st st' → kW c.ts L sp f l st = .ok (i, s) → kW c.ts' L' sp' f' (pl ++ l') st' = .ok (k, s') →
 ∃ (l2 : List Nat) (na nb : List Nd), NRs c.pre.length na nb ∧ i = na.length ∧ k = c.pre.length + nb.length ∧ s.nodes = na ++ [⟨50, [], [], l2.map Int.ofNat, sp.1, sp.2⟩] ∧ s'.nodes = c.pre ++ nb ++ [⟨50, [], [], (pl ++ l2.map (· + c.pre.length)).map Int.ofNat, sp'.1, sp'.2⟩] ∧ ∀ x ∈ l2, x < na.length
 | 0, _, _, _, _, _, _, _, _, _, _, _, h, _ => by cases h
 | _ + 1, 0, _, _, _, _, _, _, _, _, _, _, _, h => by cases h
 | f + 1, f' + 1, l, l', st, st', s, s', i, k, hl, hs, h, h' => by
  unfold kW at h h';obtain ⟨b, s1, e1, h⟩ := bq h;obtain ⟨b', s1', e1', h'⟩ := bq h';obtain ⟨hA, hs1⟩ := rC (aO HC hs (by decide)) e1 e1';obtain rfl : b = b' := hA;cases b;rotate_left
  · simp only [↓reduceIte] at h h';exact oJ HC HL sp sp' pl f f' l l' s1 s1' s s' i k hl hs1 h h'
  simp only [ξh, ↓reduceIte] at h h';obtain ⟨t, s2, e2, h⟩ := bq h;obtain ⟨t', s2', e2', h'⟩ := bq h';simp only [mJ, ξm, ξP] at e2 e2';obtain ⟨rfl, rfl⟩ := e2;obtain ⟨rfl, rfl⟩ := e2';have hbe := sZ HC hs1;cases hb : eB (aB c.ts 0 s1)
  · rw [hb] at h hbe;rw [hbe] at h';simp only [ξh, ↓reduceIte] at h h';obtain ⟨rfl, rfl, hx⟩ := qx h;obtain ⟨rfl, rfl, hx'⟩ := qx h';obtain ⟨nb, h1, h2⟩ := hs1.nds;refine ⟨l, s1.nodes, nb, h2, rfl, by rw [h1, ξ1], rfl, ?_, hx⟩;show s1'.nodes ++ _ = _;rw [h1, show l' = l.map (· + c.pre.length) from hl]
  · rw [hb] at h hbe;rw [hbe] at h';simp only [↓reduceIte] at h h';obtain ⟨u3, s3, e3, h⟩ := bq h;obtain ⟨u3', s3', e3', h'⟩ := bq h';have hs3 := (rC (iw HC hs1) e3 e3').2;obtain ⟨i4, s4, e4, h⟩ := bq h;obtain ⟨i4', s4', e4', h'⟩ := bq h';obtain ⟨hi4, hs4⟩ := rC (Fp HC HL _ _ hs3) e4 e4';obtain ⟨u5, s5, e5, h5⟩ := bq h;obtain ⟨u5', s5', e5', h5'⟩ := bq h';have hr : ∀ {l : List Nat} {s s' : PS} {u : Unit}, cA l s = .ok (u, s') → s' = s := fun {l s s' u} h => by
     unfold cA at h;split at h
     · simp only [ξm, ξP] at h; exact h.2.symm
     · cases h
    obtain rfl := hr e5;obtain rfl := hr e5';obtain ⟨u6, s6, e6, h6⟩ := bq h5;obtain ⟨u6', s6', e6', h6'⟩ := bq h5';have hs6 := (rC (gZ HC hs4) e6 e6').2;rw [ξo] at h6';refine oJ HC HL sp sp' pl f f' (l ++ [i4]) (l' ++ [i4']) s6 s6' s s' i k ?_ hs6 h6 h6';show l' ++ [i4'] = _;rw [show l' = l.map (· + c.pre.length) from hl, show i4' = i4 + c.pre.length from hi4, ξ8]; rfl
theorem Ao {t : Tok} {k : Int} {s : Bytes} (h : mW t = (k, s, [])) : t.kind = k ∧ t.text = s ∧ t.path = [] := by
 simp only [mW, ξP] at h; exact h
theorem K8 {l m : List Tok} (h : m.map mW = l.map mW) (n : Nat) : TE (l.getD n qq) (m.getD n qq) := by
 have := congrArg (fun x => x[n]?) h;simp only [ξ0] at this;rw [ξr, ξr];cases hl : l[n]? with
 | none =>
  rw [hl] at this;cases hm : m[n]? with
  | none => exact ⟨rfl, rfl, rfl⟩
  | some y => rw [hm] at this; cases this
 | some x =>
  rw [hl] at this;cases hm : m[n]? with
  | none => rw [hm] at this; cases this
  | some y =>
   rw [hm] at this;simp only [Option.map_some, ξO, mW, ξP] at this;exact this
theorem ET {l m : List Tok} (h : m.map mW = l.map mW) : m.length = l.length := by
 have := congrArg List.length h;simpa using this
theorem Mc {tp ts' mp : List Tok} {t0 t1 : Tok} {rest : List Tok} (hts : ts' = t0 :: mp ++ t1 :: rest) (h1 : mW t1 = (1, [105, 110], [])) (hm : mp.map mW = tp.map mW)
 {n m i j : Nat} {s s' st' : PS} (hst : st'.pos = 1 ∧ st'.nodes = [] ∧ st'.deep = [] ∧ st'.sc = [[], uV]) (hp : eY tp (iV tp n) ps0 = .ok (i, s)) (h : mO ts' (iV ts' m) st' = .ok (j, s')) (hd : s.deep.length = s.nodes.length) :
 s'.pos = 1 + mp.length ∧ s'.nodes.length = s'.deep.length ∧ ∃ own, s'.sc = [own, uV] := by
 have hml := ET hm;have HC : (⟨tp, ts', 1, st'.opn, [], [], [uV], [[], uV], False⟩ : Cf).OK := by
  refine ⟨fun q => ?_, rfl, fun own nm => ?_, by simp, by simp, fun h => h.elim⟩
  · show M5 _ q (tp.getD q qq) (ts'.getD (q + 1) qq);rcases Nat.lt_trichotomy q tp.length with hq | hq | hq
    · refine .inl ?_;have e : ts'.getD (q + 1) qq = mp.getD q qq := by
       rw [hts, ξr, ξr, List.cons_append, ξu, ξs (by omega)]
      rw [e]; exact K8 hm q
    · refine .inr (.inl ⟨fun h => h, hq, ?_, ?_⟩)
      · rw [ξr, ξx (by omega)]; rfl
      · have e : ts'.getD (q + 1) qq = t1 := by
         rw [hts, ξr, List.cons_append, ξu, ξt (by omega), show q - mp.length = 0 by omega]; rfl
        rw [e]; exact Ao h1
    · exact .inr (.inr ⟨fun h => h, hq⟩)
  · show fP nm [uV ++ own] = fP nm [[] ++ own, uV];simp only [fP, List.nil_append];have hap : ∀ (a b : Names), eO nm (a ++ b) = match eO nm b with
     | some f => some f
     | none => eO nm a := by
     intro a b;induction a with
     | nil => simp only [List.nil_append, eO]; cases eO nm b <;> rfl
     | cons x a ih => simp only [List.cons_append, eO, ih]; cases eO nm b <;> rfl
    rw [hap];cases eO nm own <;> rfl
 have hs0 : SR (⟨tp, ts', 1, st'.opn, [], [], [uV], [[], uV], False⟩ : Cf) 0 ps0 st' :=
  ⟨by rw [hst.1]; rfl, ξM _, by show st'.opn = 0 + st'.opn; omega, ⟨[], by rw [hst.2.1]; rfl, .nil⟩, by rw [hst.2.2.1]; rfl, [], [], rfl, by simp [ps0, cG], by rw [hst.2.2.2]; simp [cG]⟩
 unfold eY at hp;obtain ⟨i2, s2, e2, hp⟩ := bq hp;have hp : (if s2.pos < tp.length then jK tp s2 else .ok (i2, s2)) = (.ok (i, s) : Except Flt (Nat × PS)) := hp;split at hp
 · cases hp
 rename_i hge;simp only [ξm, ξP] at hp;obtain ⟨rfl, rfl⟩ := hp;obtain ⟨-, hs⟩ := rC (qF HC (gY HC (fun h => h) n m) _ _ hs0) e2 h;have hpos : s'.pos = s2.pos + 1 := hs.pos;have hle : s2.pos ≤ tp.length := hs.le;obtain ⟨l', a1, a2⟩ := hs.nds;have a1 : s'.nodes = [] ++ l' := a1;have a3 : s'.deep = [] ++ s2.deep := hs.deep;obtain ⟨xs, own, b0, -, b2⟩ := hs.sc;have b2 : s'.sc = xs ++ cG own [[], uV] := b2;obtain rfl : xs = [] := ξq b0;refine ⟨by omega, ?_, own, by rw [b2]; simp [cG]⟩;rw [a1, a3, List.nil_append, List.nil_append, a2.len, hd]
theorem EI {N : Nat} {a b l l' : List Nd} (ha : ∀ (n : Nat) x, l[n]? = some x → a[n]? = some x) (hb : ∀ (n : Nat) x, l'[n]? = some x → b[n + N]? = some x) (h : NRs N l l') (hg : lT a) (i : Nat) (hi : i < l.length) : oU a b i ((i : Int) + N) :=
 kF (M := fun p q => ∃ n : Nat, p = n ∧ q = (n : Int) + N ∧ n < l.length) (fun p q hpq => by
  obtain ⟨n, rfl, rfl, hn⟩ := hpq;obtain ⟨x, hx⟩ : ∃ x, l[n]? = some x := ⟨_, ξw hn⟩;obtain ⟨y, hy, e1, e2, e3, e4⟩ := h.at hx;refine ⟨x, y, by rw [bN]; exact ha n x hx, ?_, e1.symm, e2.symm, e3.symm, by rw [e4, ξ4], fun j u v hu hv => ?_⟩
  · rw [show ((n : Int) + N) = ((n + N : Nat) : Int) by omega, bN];exact hb n y hy
  · rw [e4, ξ0, hu] at hv;simp only [Option.map_some, ξO] at hv;obtain ⟨h0, h1⟩ := (hg n x (ha n x hx)).1 u (ξB hu);obtain ⟨m, rfl⟩ : ∃ m : Nat, u = m := ⟨u.toNat, by omega⟩;exact ⟨h1, by omega, m, rfl, hv.symm, by omega⟩) (i + 1) i _ (by omega) ⟨i, rfl, rfl, hi⟩
theorem AQ {ts : List Tok} {x : Bytes} {s s' : PS} {u : Unit} (h : bF ts x s = .ok (u, s')) : s' = { s with pos := s.pos + 1 } := by
 unfold bF at h;split at h
 · simp only [ξm, ξP] at h; exact h.2.symm
 · cases h
theorem yF {α : Type} {m : M α} {s s' : PS} {x : α} (h : dQ m s = .ok (x, s')) : ∃ s1, m { s with sc := [] :: s.sc } = .ok (x, s1) ∧ s' = { s1 with sc := s1.sc.tail } := by
 unfold dQ at h;cases hm : m { s with sc := [] :: s.sc } with
 | error e => rw [hm] at h; cases h
 | ok y =>
  rw [hm] at h;simp only [ξm, ξP] at h;obtain ⟨rfl, rfl⟩ := h;exact ⟨y.2, rfl, rfl⟩
theorem Cx {tp mp mq ts' : List Tok} {t0 t1 t2 : Tok} (hts : ts' = t0 :: mp ++ t1 :: t2 :: mq) (h0 : mW t0 = (1, [108, 111, 99, 97, 108], [])) (h1 : mW t1 = (1, [105, 110], [])) (h2 : mW t2 = (1, [101, 110, 100], [])) (hm : mp.map mW = tp.map mW)
 {n i k : Nat} {s s' : PS} {sp : Int × Int} (hp : eY tp (iV tp n) ps0 = .ok (i, s)) (hd : s.deep.length = s.nodes.length) (h : kW ts' (iV ts' 1001) sp (ts'.length + 1) [] ps0 = .ok (k, s')) :
 ∃ (d : Nat) (st : PS), st.pos = mp.length + 3 ∧ st.nodes.length = st.deep.length ∧ st.sc = [uV] ∧ kW ts' (iV ts' 1001) sp ts'.length [d] st = .ok (k, s') := by
 obtain ⟨k0, x0, p0⟩ := Ao h0;obtain ⟨k1, x1, p1⟩ := Ao h1;obtain ⟨k2, x2, p2⟩ := Ao h2;have ht0 : ∀ s : PS, s.pos = 0 → aB ts' 0 s = t0 := fun s hs => by unfold aB; rw [hs, hts]; rfl
 have ht2 : ∀ s : PS, s.pos = mp.length + 2 → aB ts' 0 s = t2 := fun s hs => by
  unfold aB;rw [hs, hts, ξr, List.cons_append, Nat.add_zero, show mp.length + 2 = (mp.length + 1) + 1 by omega, ξu, ξt (by omega), show mp.length + 1 - mp.length = 1 by omega]; rfl
 unfold kW at h;obtain ⟨b, s1, e1, h⟩ := bq h;have hi : isP ts' 0 [59] ps0 = false := by unfold isP; rw [ht0 ps0 rfl, k0, x0]; rfl
 unfold aX at e1;rw [hi] at e1;simp only [ξh, ↓reduceIte, ξm, ξP] at e1;obtain ⟨rfl, rfl⟩ := e1;simp only [ξh, ↓reduceIte] at h;obtain ⟨t, s2, e2, h⟩ := bq h;simp only [mJ, ξm, ξP] at e2;obtain ⟨rfl, rfl⟩ := e2;rw [ht0 ps0 rfl, ψi (by unfold eB; rw [k0, x0]; rfl)] at h;obtain ⟨u3, s3, e3, h⟩ := bq h;have e3 : (.ok ((), { ps0 with opn := 1 }) : Except Flt (Unit × PS)) = .ok (u3, s3) := e3;simp only [ξm, ξP] at e3;obtain ⟨-, rfl⟩ := e3;obtain ⟨d, s4, e4, h⟩ := bq h;obtain ⟨u5, s5, e5, h5⟩ := bq h;have e5 : (.ok ((), s4) : Except Flt (Unit × PS)) = .ok (u5, s5) := e5;simp only [ξm, ξP] at e5;obtain ⟨-, rfl⟩ := e5;obtain ⟨u6, s6, e6, h6⟩ := bq h5;unfold dh at e6;split at e6
 · cases e6
 simp only [ξm, ξP] at e6;obtain ⟨-, rfl⟩ := e6;unfold Fq at e4;obtain ⟨sp4, s7, e7, e4⟩ := bq e4;simp only [dA, ξm, ξP] at e7;obtain ⟨rfl, rfl⟩ := e7;obtain ⟨t, s8, e8, e4⟩ := bq e4;simp only [mJ, ξm, ξP] at e8;obtain ⟨rfl, rfl⟩ := e8;obtain ⟨u9, s9, e9, e4⟩ := bq e4;rw [ht0 _ rfl, x0] at e4;unfold cu at e9;split at e9;rotate_left
 · cases e9
 simp only [ξm, ξP] at e9;obtain ⟨-, rfl⟩ := e9;rw [ψh (by decide), ψh (by decide), ψh (by decide), ψh (by decide), ψh (by decide), ψi (by decide)] at e4;unfold localM at e4;obtain ⟨x, sa, ea, e4⟩ := bq e4;obtain ⟨sb, eb, rfl⟩ := yF ea;obtain ⟨a, sc, ec, eb⟩ := bq eb;obtain ⟨c1, c2, own, c3⟩ := Mc (m := 1000) hts h1 hm (st' := _) ⟨rfl, rfl, rfl, rfl⟩ hp ec hd;obtain ⟨u, sd, ed, eb⟩ := bq eb;obtain rfl := AQ ed;obtain ⟨y, se, ee, eb⟩ := bq eb;obtain ⟨sf, ef, rfl⟩ := yF ee;obtain ⟨bb, sg, eg, ef⟩ := bq ef;have eg : mO ts' (iV ts' 1000) { sc with pos := sc.pos + 1, sc := [] :: sc.sc } = .ok (bb, sg) := eg;unfold mO at eg;obtain ⟨sp5, sh, eh, eg⟩ := bq eg;simp only [dA, ξm, ξP] at eh;obtain ⟨-, rfl⟩ := eh;unfold kW at eg;have hte : aB ts' 0 { sc with pos := sc.pos + 1, sc := [] :: sc.sc } = t2 := ht2 _ (by show sc.pos + 1 = _; omega);obtain ⟨b, si, ei, eg⟩ := bq eg;have hi : isP ts' 0 [59] { sc with pos := sc.pos + 1, sc := [] :: sc.sc } = false := by unfold isP; rw [hte, k2, x2]; rfl
 unfold aX at ei;rw [hi] at ei;simp only [ξh, ↓reduceIte, ξm, ξP] at ei;obtain ⟨rfl, rfl⟩ := ei;simp only [ξh, ↓reduceIte] at eg;obtain ⟨t, sj, ej, eg⟩ := bq eg;simp only [mJ, ξm, ξP] at ej;obtain ⟨rfl, rfl⟩ := ej;rw [hte, ψh (by unfold eB; rw [k2, x2]; decide)] at eg;obtain ⟨-, rfl, -⟩ := qx eg;obtain ⟨own2, sk, ek, ef⟩ := bq ef;simp only [ξm, ξP] at ek;obtain ⟨rfl, rfl⟩ := ek;have ef : (.ok ((bb, []), _) : Except Flt ((Nat × Names) × PS)) = .ok (y, sf) := ef;simp only [ξm, ξP] at ef;obtain ⟨rfl, rfl⟩ := ef;obtain ⟨u, sl, el, eb⟩ := bq eb;obtain rfl := AQ el;have eb : (.ok ((a, (bb, [])), _) : Except Flt ((Nat × Nat × Names) × PS)) = .ok (x, sb) := eb;simp only [ξm, ξP] at eb;obtain ⟨rfl, rfl⟩ := eb;obtain ⟨u, sm, em, e4⟩ := bq e4;unfold kQ at em;split at em;rotate_left
 · cases em
 simp only [ξm, ξP] at em;obtain ⟨-, rfl⟩ := em;obtain ⟨-, rfl, -⟩ := qx e4;refine ⟨d, _, ?_, ?_, ?_, h6⟩
 · show sc.pos + 1 + 1 = _; omega
 · simp only [ξ1, ξ2, ξ5]; omega
 · simp only [c3, List.tail_cons];simp [cG]
theorem Ce {tp tq mp mq ts' : List Tok} {t0 t1 t2 : Tok} (hts : ts' = t0 :: mp ++ t1 :: t2 :: mq) (h0 : mW t0 = (1, [108, 111, 99, 97, 108], [])) (h1 : mW t1 = (1, [105, 110], [])) (h2 : mW t2 = (1, [101, 110, 100], [])) (hm : mp.map mW = tp.map mW) (hq : mq.map mW = tq.map mW)
 {i0 i k : Nat} {s0 s s' : PS} (hp : eY tp (iV tp 1001) ps0 = .ok (i0, s0)) (hd : s0.deep.length = s0.nodes.length) (ha : eY tq (iV tq 1001) ps0 = .ok (i, s)) (hb : eY ts' (iV ts' 1001) ps0 = .ok (k, s')) (hg : lT s.nodes) :
 ∃ (A B : Nd) (l : List Nat) (d N : Nat), s.nodes[i]? = some A ∧ s'.nodes[k]? = some B ∧ A.kids = l.map Int.ofNat ∧ B.kids = ((d :: l.map (· + N)).map Int.ofNat) ∧ ∀ x ∈ l, oU s.nodes s'.nodes (x : Int) ((x : Int) + N) := by
 unfold eY at ha hb;obtain ⟨i1, s1, ea, ha⟩ := bq ha;obtain ⟨k1, s1', eb, hb⟩ := bq hb;have ha : (if s1.pos < tq.length then jK tq s1 else .ok (i1, s1)) = (.ok (i, s) : Except Flt (Nat × PS)) := ha;have hb : (if s1'.pos < ts'.length then jK ts' s1' else .ok (k1, s1')) = (.ok (k, s') : Except Flt (Nat × PS)) := hb;split at ha
 · cases ha
 split at hb
 · cases hb
 simp only [ξm, ξP] at ha hb;obtain ⟨rfl, rfl⟩ := ha;obtain ⟨rfl, rfl⟩ := hb;unfold mO at ea eb;obtain ⟨sp, s2, e2, ea⟩ := bq ea;obtain ⟨sp', s2', e2', eb⟩ := bq eb;simp only [dA, ξm, ξP] at e2 e2';obtain ⟨-, rfl⟩ := e2;obtain ⟨-, rfl⟩ := e2';obtain ⟨d, st, p1, p2, p3, eb⟩ := Cx hts h0 h1 h2 hm hp hd eb;have hql := ET hq;have hml := ET hm;have HC : (⟨tq, ts', mp.length + 3, st.opn, st.nodes, st.deep, [uV], [uV], False⟩ : Cf).OK := by
  refine ⟨fun q => .inl ?_, p2.symm, fun own nm => rfl, by simp, by simp, fun h => h.elim⟩;show TE (tq.getD q qq) (ts'.getD (q + (mp.length + 3)) qq);have e : ts'.getD (q + (mp.length + 3)) qq = mq.getD q qq := by
   rw [hts, ξr, ξr, List.cons_append, show q + (mp.length + 3) = (q + mp.length + 2) + 1 by omega, ξu, ξt (by omega), show q + mp.length + 2 - mp.length = q + 1 + 1 by omega, ξu, ξu]
  rw [e]; exact K8 hq q
 have hs : SR (⟨tq, ts', mp.length + 3, st.opn, st.nodes, st.deep, [uV], [uV], False⟩ : Cf) 0 ps0 st :=
  ⟨by rw [p1]; show mp.length + 3 = 0 + (mp.length + 3); omega, ξM _, by show st.opn = 0 + st.opn; omega, ⟨[], by simp, .nil⟩, by simp [ps0], [], [], rfl, by simp [ps0, cG], by rw [p3]; simp [cG]⟩
 obtain ⟨l2, na, nb, hn, e1, e2, e3, e4, e5⟩ := oJ HC (gY HC (fun h => h) 1001 1001) _ _ [d] _ _ [] [] _ _ _ _ _ _ rfl hs ea (by simpa using eb);have hn : NRs st.nodes.length na nb := hn;have e4 : s1'.nodes = st.nodes ++ nb ++ _ := e4;have e2 : k1 = st.nodes.length + nb.length := e2;refine ⟨⟨50, [], [], l2.map Int.ofNat, _, _⟩, ⟨50, [], [], (d :: l2.map (· + st.nodes.length)).map Int.ofNat, _, _⟩, l2, d, st.nodes.length, by rw [e3, e1]; simp; exact ⟨rfl, rfl⟩, by rw [e4, e2, ξt (by simp)]; simp; exact ⟨rfl, rfl⟩, rfl, rfl, fun x hx => ?_⟩;refine EI (l := na) (l' := nb) (fun n y hy => ?_) (fun n y hy => ?_) hn hg x (e5 x hx)
 · rw [e3, ξs (ξz.1 hy).1]; exact hy
 · have := (ξz.1 hy).1;rw [e4, ξo, ξt (by omega), show n + st.nodes.length - st.nodes.length = n by omega, ξs this]; exact hy
end Kiln
namespace Kiln
def MJ (l : List Nd) (n : Nd) : Bool :=
 if n.kind = 31 ∨ n.kind = 1 ∨ n.kind = 10 then n.kids.isEmpty
 else if n.kind = 13 then !(n.kids.length == 1) && mI l 0 0 n.kids
 else if n.kind = 17 then (match n.kids with
  | [a, b] => bw 0 (kindOf l a) && bw 0 (kindOf l b)
  | _ => false)
 else if n.kind = 53 then (match n.kids with
  | [a, b] => bw 1 (kindOf l a) && bw 0 (kindOf l b)
  | _ => false)
 else if n.kind = 51 then eZ l 53 1 n.kids
 else if n.kind = 50 then mI l 3 0 n.kids
 else false
end Kiln
namespace Go.Proofs.YtbchkldhnjahaaaGreatDoor
open Go.RowKit Kiln
open Go.Proofs
theorem eP (q : Nat) (k : Int) (hk : k = 1 ∨ k = 10 ∨ k = 17 ∨ k = 31 ∨ k = 50 ∨ k = 51 ∨ k = 53) (t : ByteArray) (pa ka : Option Addr) (pn pc kn kc : Nat) (ln col : Int) (w : World) :
 Calls Tryz.prog 65 #[.pointer (some ⟨q, 0, none⟩), .agg #[.int .i64 k, Value.string t, .slice pa pn pc, .slice ka kn kc, .int .i64 ln, .int .i64 col]] w fun e w' => e = .returned (.bool true) ∧ Below w.heap.size w w' := by
 rcases hk with rfl | rfl | rfl | rfl | rfl | rfl | rfl;all_goals
  go_enter Tryz.func65, Tryz.ntmps65;go_wp2_with fail;go_ret;exact ⟨rfl, bQ (ξf _ _) _⟩
theorem DY (q : Nat) (t : ByteArray) (pa ka : Option Addr) (pn pc kn kc : Nat) (ln col : Int) (w : World) (hn : ((kn : Int) != 1) = true) :
 Calls Tryz.prog 65 #[.pointer (some ⟨q, 0, none⟩), .agg #[.int .i64 13, Value.string t, .slice pa pn pc, .slice ka kn kc, .int .i64 ln, .int .i64 col]] w fun e w' => e = .returned (.bool true) ∧ Below w.heap.size w w' := by
 go_enter Tryz.func65, Tryz.ntmps65;go_wp2_with fail;go_ret;exact ⟨rfl, bQ (ξf _ _) _⟩
section
variable {w1 w : World} {q : Nat} {lv : Value} {l : List Nd} {ks : List Int}
theorem Ku (HN : NdT w1 lv l) (hk : KSt w1 w q lv ks) (hr : ∀ k ∈ ks, 0 ≤ k ∧ k < (l.length : Int)) (hf : mI l 0 0 ks = true) :
 Calls Tryz.prog 68 #[.pointer (some ⟨q, 0, none⟩), .int .i64 13] w fun e w' => e = .returned (.bool true) ∧ Below w1.heap.size w1 w' := by
 have HA := κ (FQ 0 0 HN hk hr (by decide));have HF := κ hf;clear hf hk;go_enter Tryz.func68, Tryz.ntmps68;go_wp2_with fail;refine HA.mono ?_;rintro e w2 ⟨rfl, hb⟩;rw [HF.out];go_wp2_with fail;go_ret;exact ⟨rfl, hb⟩
theorem Jt {p : Prop} (h : p := by
 go_wp2_with fail;refine HA.mono ?_;rintro e w2 ⟨rfl, hk2⟩;rw [HFA.out] at hk2 ⊢;have HB := κ (wo 0 (by decide) HN hk2 (fun c hc => HRR c (ξA _ hc)));clear hk2;go_wp2_with fail;refine HB.mono ?_;rintro e w3 ⟨rfl, hk3⟩;rw [HFB.out] at hk3 ⊢;have HC := κ (wL hk3);clear hk3;go_wp2_with fail;refine HC.mono ?_;rintro e w4 ⟨rfl, hk4⟩;have HD := κ hk4.bel;clear hk4;go_wp2_with fail;go_ret;exact ⟨rfl, HD⟩
 ) : p := h
theorem Kt {a b : Int} (HN : NdT w1 lv l) (hk : KSt w1 w q lv [a, b]) (hr : ∀ k ∈ [a, b], 0 ≤ k ∧ k < (l.length : Int)) (ha : bw 0 (kindOf l a) = true) (hb : bw 0 (kindOf l b) = true) :
 Calls Tryz.prog 68 #[.pointer (some ⟨q, 0, none⟩), .int .i64 17] w fun e w' => e = .returned (.bool true) ∧ Below w1.heap.size w1 w' := by
 have HA := κ (wo 0 (by decide) HN hk hr);have HRR := κ hr;have HFA := κ (show ofG l 0 [a, b] = (true, [b]) by simp [ofG, ha]);have HFB := κ (show ofG l 0 [b] = (true, []) by simp [ofG, hb]);clear ha hb hk hr;go_enter Tryz.func68, Tryz.ntmps68;exact Jt
theorem KC (HN : NdT w1 lv l) (hk : KSt w1 w q lv ks) (hr : ∀ k ∈ ks, 0 ≤ k ∧ k < (l.length : Int)) (hf : mI l 3 0 ks = true) :
 Calls Tryz.prog 71 #[.pointer (some ⟨q, 0, none⟩), .int .i64 50] w fun e w' => e = .returned (.bool true) ∧ Below w1.heap.size w1 w' := by
 have HA := κ (FQ 3 0 HN hk hr (by decide));have HF := κ hf;clear hf hk;go_enter Tryz.func71, Tryz.ntmps71;go_wp2_with fail;refine HA.mono ?_;rintro e w2 ⟨rfl, hb⟩;rw [HF.out];go_wp2_with fail;go_ret;exact ⟨rfl, hb⟩
theorem KA (HN : NdT w1 lv l) (hk : KSt w1 w q lv ks) (hr : ∀ k ∈ ks, 0 ≤ k ∧ k < (l.length : Int)) (hf : eZ l 53 1 ks = true) :
 Calls Tryz.prog 71 #[.pointer (some ⟨q, 0, none⟩), .int .i64 51] w fun e w' => e = .returned (.bool true) ∧ Below w1.heap.size w1 w' := by
 have HA := κ (GK 53 1 HN hk hr (by decide));have HF := κ hf;clear hf hk;go_enter Tryz.func71, Tryz.ntmps71;go_wp2_with fail;refine HA.mono ?_;rintro e w2 ⟨rfl, hb⟩;rw [HF.out];go_wp2_with fail;go_ret;exact ⟨rfl, hb⟩
theorem Kz {a b : Int} (HN : NdT w1 lv l) (hk : KSt w1 w q lv [a, b]) (hr : ∀ k ∈ [a, b], 0 ≤ k ∧ k < (l.length : Int)) (ha : bw 1 (kindOf l a) = true) (hb : bw 0 (kindOf l b) = true) :
 Calls Tryz.prog 71 #[.pointer (some ⟨q, 0, none⟩), .int .i64 53] w fun e w' => e = .returned (.bool true) ∧ Below w1.heap.size w1 w' := by
 have HA := κ (wo 1 (by decide) HN hk hr);have HRR := κ hr;have HFA := κ (show ofG l 1 [a, b] = (true, [b]) by simp [ofG, ha]);have HFB := κ (show ofG l 0 [b] = (true, []) by simp [ofG, hb]);clear ha hb hk hr;go_enter Tryz.func71, Tryz.ntmps71;exact Jt
end
theorem cQ {w : World} {o : Obj} {n : Nat} (hn : n = w.heap.size) : (w.alloc o).heap[n]? = some o := by subst hn; exact ψe w o
theorem Jk {w : World} {l : List Nd} {ks : List Int} {la pa ka : Option Addr} {lc pn pc kn kc : Nat} (k : Int) (t : ByteArray) (ln col : Int) (HN : NdT w (.slice la l.length lc) l) (hk : Ints w (.slice ka kn kc) ks) : ∀ W, W = w.alloc (.cells #[.int .i64 k, .string t, .slice pa pn pc, .slice ka kn kc, .int .i64 ln, .int .i64 col] 41) →
 RowKit.Hid (NdT W (.slice la l.length lc) l) ∧ RowKit.Hid (KSt W (W.alloc (.cells #[.slice la l.length lc, .slice ka kn kc] 117)) (w.heap.size + 1) (.slice la l.length lc) ks) ∧ RowKit.Hid (Below w.heap.size w W) ∧ RowKit.Hid (W.cell? ⟨w.heap.size, 0, none⟩ = some (.int .i64 k)) := by
 rintro W rfl;have hb1 : Below w.heap.size w (w.alloc (.cells #[.int .i64 k, .string t, .slice pa pn pc, .slice ka kn kc, .int .i64 ln, .int .i64 col] 41)) := bQ (ξf _ _) _;exact ⟨HN.below hb1, ⟨bQ (ξf _ _) _, by simp, _, cQ (by simp), hk.below hb1⟩, hb1, bO (ψe _ _) 0 _ rfl⟩
theorem Jo {p : Prop} (h : p := by
 rintro e w2 ⟨rfl, hb2⟩;have HK2 := κ (HK.below hb2);have e0 := cell_later hb2 (ay HE _);clear HK HE hb2;go_wp2_with fail;refine (wL HK2).mono ?_;rintro e w3 ⟨rfl, hk3⟩;have HD := κ (HB1.trans (hk3.bel.mono HB1.size));clear hk3;go_wp2_with fail;go_ret;exact ⟨rfl, HD⟩
 ) : p := h
theorem Ml {w : World} {l : List Nd} {la pa ka : Option Addr} {lc pn pc kc : Nat} (t : ByteArray) (ln col : Int) (HN : NdT w (.slice la l.length lc) l) (hk : Ints w (.slice ka 0 kc) [])  :
 Calls Tryz.prog 38 #[.slice la l.length lc, .agg #[.int .i64 1, .string t, .slice pa pn pc, .slice ka 0 kc, .int .i64 ln, .int .i64 col]] w fun e w' => e = .returned (.bool true) ∧ Below w.heap.size w w' := by
 obtain ⟨HN1, HK, HB1, HE⟩ := Jk (pa := pa) (pn := pn) (pc := pc) 1 t ln col HN hk _ rfl;clear hk HN;go_enter Tryz.func38, Tryz.ntmps38;go_wp2_with fail;refine (eP (w.heap.size + 1) 1 (by decide) t pa ka pn pc 0 kc ln col _).mono ?_;exact Jo
theorem Km {w : World} {l : List Nd} {la pa ka : Option Addr} {lc pn pc kc : Nat} (t : ByteArray) (ln col : Int) (HN : NdT w (.slice la l.length lc) l) (hk : Ints w (.slice ka 0 kc) [])  :
 Calls Tryz.prog 38 #[.slice la l.length lc, .agg #[.int .i64 10, .string t, .slice pa pn pc, .slice ka 0 kc, .int .i64 ln, .int .i64 col]] w fun e w' => e = .returned (.bool true) ∧ Below w.heap.size w w' := by
 obtain ⟨HN1, HK, HB1, HE⟩ := Jk (pa := pa) (pn := pn) (pc := pc) 10 t ln col HN hk _ rfl;clear hk HN;go_enter Tryz.func38, Tryz.ntmps38;go_wp2_with fail;refine (eP (w.heap.size + 1) 10 (by decide) t pa ka pn pc 0 kc ln col _).mono ?_;exact Jo
theorem Kj {w : World} {l : List Nd} {la pa ka : Option Addr} {lc pn pc kc : Nat} (t : ByteArray) (ln col : Int) (HN : NdT w (.slice la l.length lc) l) (hk : Ints w (.slice ka 0 kc) [])  :
 Calls Tryz.prog 38 #[.slice la l.length lc, .agg #[.int .i64 31, .string t, .slice pa pn pc, .slice ka 0 kc, .int .i64 ln, .int .i64 col]] w fun e w' => e = .returned (.bool true) ∧ Below w.heap.size w w' := by
 obtain ⟨HN1, HK, HB1, HE⟩ := Jk (pa := pa) (pn := pn) (pc := pc) 31 t ln col HN hk _ rfl;clear hk HN;go_enter Tryz.func38, Tryz.ntmps38;go_wp2_with fail;refine (eP (w.heap.size + 1) 31 (by decide) t pa ka pn pc 0 kc ln col _).mono ?_;exact Jo
theorem Kl {w : World} {l : List Nd} {ks : List Int} {la pa ka : Option Addr} {lc pn pc kc : Nat} (t : ByteArray) (ln col : Int) (HN : NdT w (.slice la l.length lc) l) (hk : Ints w (.slice ka ks.length kc) ks) (hr : ∀ k ∈ ks, 0 ≤ k ∧ k < (l.length : Int)) (hf : mI l 0 0 ks = true) (HN13 : ((ks.length : Int) != 1) = true) :
 Calls Tryz.prog 38 #[.slice la l.length lc, .agg #[.int .i64 13, .string t, .slice pa pn pc, .slice ka ks.length kc, .int .i64 ln, .int .i64 col]] w fun e w' => e = .returned (.bool true) ∧ Below w.heap.size w w' := by
 obtain ⟨HN1, HK, HB1, HE⟩ := Jk (pa := pa) (pn := pn) (pc := pc) 13 t ln col HN hk _ rfl;have HRR := κ hr;clear hk hr HN;go_enter Tryz.func38, Tryz.ntmps38;go_wp2_with fail;refine (DY (w.heap.size + 1) t pa ka pn pc ks.length kc ln col _ HN13).mono ?_;rintro e w2 ⟨rfl, hb2⟩;have HK2 := κ (HK.below hb2);have e0 := cell_later hb2 (ay HE _);clear HK HE hb2;go_wp2_with fail;refine (Ku HN1 HK2 HRR hf).mono ?_;rintro e w3 ⟨rfl, hb3⟩;have HD := κ (HB1.trans (hb3.mono HB1.size));clear hb3;go_wp2_with fail;go_ret;exact ⟨rfl, HD⟩
theorem Kk {w : World} {l : List Nd} {a b : Int} {la pa ka : Option Addr} {lc pn pc kc : Nat} (t : ByteArray) (ln col : Int) (HN : NdT w (.slice la l.length lc) l) (hk : Ints w (.slice ka 2 kc) [a, b]) (hr : ∀ k ∈ [a, b], 0 ≤ k ∧ k < (l.length : Int)) (hx : bw 0 (kindOf l a) = true) (hy : bw 0 (kindOf l b) = true) :
 Calls Tryz.prog 38 #[.slice la l.length lc, .agg #[.int .i64 17, .string t, .slice pa pn pc, .slice ka 2 kc, .int .i64 ln, .int .i64 col]] w fun e w' => e = .returned (.bool true) ∧ Below w.heap.size w w' := by
 obtain ⟨HN1, HK, HB1, HE⟩ := Jk (pa := pa) (pn := pn) (pc := pc) 17 t ln col HN hk _ rfl;have HRR := κ hr;clear hk hr HN;go_enter Tryz.func38, Tryz.ntmps38;go_wp2_with fail;refine (eP (w.heap.size + 1) 17 (by decide) t pa ka pn pc 2 kc ln col _).mono ?_;rintro e w2 ⟨rfl, hb2⟩;have HK2 := κ (HK.below hb2);have e0 := cell_later hb2 (ay HE _);clear HK HE hb2;go_wp2_with fail;refine (Kt HN1 HK2 HRR hx hy).mono ?_;rintro e w3 ⟨rfl, hb3⟩;have HD := κ (HB1.trans (hb3.mono HB1.size));clear hb3;go_wp2_with fail;go_ret;exact ⟨rfl, HD⟩
theorem Kg {w : World} {l : List Nd} {a b : Int} {la pa ka : Option Addr} {lc pn pc kc : Nat} (t : ByteArray) (ln col : Int) (HN : NdT w (.slice la l.length lc) l) (hk : Ints w (.slice ka 2 kc) [a, b]) (hr : ∀ k ∈ [a, b], 0 ≤ k ∧ k < (l.length : Int)) (hx : bw 1 (kindOf l a) = true) (hy : bw 0 (kindOf l b) = true) :
 Calls Tryz.prog 38 #[.slice la l.length lc, .agg #[.int .i64 53, .string t, .slice pa pn pc, .slice ka 2 kc, .int .i64 ln, .int .i64 col]] w fun e w' => e = .returned (.bool true) ∧ Below w.heap.size w w' := by
 obtain ⟨HN1, HK, HB1, HE⟩ := Jk (pa := pa) (pn := pn) (pc := pc) 53 t ln col HN hk _ rfl;have HRR := κ hr;clear hk hr HN;go_enter Tryz.func38, Tryz.ntmps38;go_wp2_with fail;refine (eP (w.heap.size + 1) 53 (by decide) t pa ka pn pc 2 kc ln col _).mono ?_;rintro e w2 ⟨rfl, hb2⟩;have HK2 := κ (HK.below hb2);have e0 := cell_later hb2 (ay HE _);clear HK HE hb2;go_wp2_with fail;refine (Kz HN1 HK2 HRR hx hy).mono ?_;rintro e w3 ⟨rfl, hb3⟩;have HD := κ (HB1.trans (hb3.mono HB1.size));clear hb3;go_wp2_with fail;go_ret;exact ⟨rfl, HD⟩
theorem Kh {w : World} {l : List Nd} {ks : List Int} {la pa ka : Option Addr} {lc pn pc kc : Nat} (t : ByteArray) (ln col : Int) (HN : NdT w (.slice la l.length lc) l) (hk : Ints w (.slice ka ks.length kc) ks) (hr : ∀ k ∈ ks, 0 ≤ k ∧ k < (l.length : Int)) (hf : eZ l 53 1 ks = true) :
 Calls Tryz.prog 38 #[.slice la l.length lc, .agg #[.int .i64 51, .string t, .slice pa pn pc, .slice ka ks.length kc, .int .i64 ln, .int .i64 col]] w fun e w' => e = .returned (.bool true) ∧ Below w.heap.size w w' := by
 obtain ⟨HN1, HK, HB1, HE⟩ := Jk (pa := pa) (pn := pn) (pc := pc) 51 t ln col HN hk _ rfl;have HRR := κ hr;clear hk hr HN;go_enter Tryz.func38, Tryz.ntmps38;go_wp2_with fail;refine (eP (w.heap.size + 1) 51 (by decide) t pa ka pn pc ks.length kc ln col _).mono ?_;rintro e w2 ⟨rfl, hb2⟩;have HK2 := κ (HK.below hb2);have e0 := cell_later hb2 (ay HE _);clear HK HE hb2;go_wp2_with fail;refine (KA HN1 HK2 HRR hf).mono ?_;rintro e w3 ⟨rfl, hb3⟩;have HD := κ (HB1.trans (hb3.mono HB1.size));clear hb3;go_wp2_with fail;go_ret;exact ⟨rfl, HD⟩
theorem Ki {w : World} {l : List Nd} {ks : List Int} {la pa ka : Option Addr} {lc pn pc kc : Nat} (t : ByteArray) (ln col : Int) (HN : NdT w (.slice la l.length lc) l) (hk : Ints w (.slice ka ks.length kc) ks) (hr : ∀ k ∈ ks, 0 ≤ k ∧ k < (l.length : Int)) (hf : mI l 3 0 ks = true) :
 Calls Tryz.prog 38 #[.slice la l.length lc, .agg #[.int .i64 50, .string t, .slice pa pn pc, .slice ka ks.length kc, .int .i64 ln, .int .i64 col]] w fun e w' => e = .returned (.bool true) ∧ Below w.heap.size w w' := by
 obtain ⟨HN1, HK, HB1, HE⟩ := Jk (pa := pa) (pn := pn) (pc := pc) 50 t ln col HN hk _ rfl;have HRR := κ hr;clear hk hr HN;go_enter Tryz.func38, Tryz.ntmps38;go_wp2_with fail;refine (eP (w.heap.size + 1) 50 (by decide) t pa ka pn pc ks.length kc ln col _).mono ?_;rintro e w2 ⟨rfl, hb2⟩;have HK2 := κ (HK.below hb2);have e0 := cell_later hb2 (ay HE _);clear HK HE hb2;go_wp2_with fail;refine (KC HN1 HK2 HRR hf).mono ?_;rintro e w3 ⟨rfl, hb3⟩;have HD := κ (HB1.trans (hb3.mono HB1.size));clear hb3;go_wp2_with fail;go_ret;exact ⟨rfl, HD⟩
end Go.Proofs.YtbchkldhnjahaaaGreatDoor
namespace Kiln
def Hw (l : List Nd) : Bool := (List.range l.length).all fun i => match l[i]? with
 | some n => (n.kids.all fun k => decide (0 ≤ k) && decide (k < (i : Int))) && MJ l n
 | none => true
theorem Hv {l : List Nd} (h : Hw l = true) {i : Nat} {n : Nd} (hn : l[i]? = some n) : (∀ k ∈ n.kids, 0 ≤ k ∧ k < (i : Int)) ∧ MJ l n = true := by
 unfold Hw at h;rw [List.all_eq_true] at h;have := h i (by simpa using (ξz.1 hn).1);rw [hn] at this;simp only [ξg, List.all_eq_true, ψc] at this;exact ⟨this.1, this.2⟩
end Kiln
namespace Go.Proofs.YtbchkldhnjahaaaGreatDoor
open Go.RowKit Kiln
open Go.Proofs
theorem Hz {w : World} {lv pv kv : Value} {l : List Nd} {n : Nd} (HN : NdT w lv l) (hp : Strs w pv n.path) (hk : Ints w kv n.kids) (hr : ∀ k ∈ n.kids, 0 ≤ k ∧ k < (l.length : Int)) (hf : MJ l n = true) :
 Calls Tryz.prog 38 #[lv, .agg #[.int .i64 n.kind, str n.text, pv, kv, .int .i64 n.line, .int .i64 n.col]] w fun e w' => e = .returned (.bool true) ∧ Below w.heap.size w w' := by
 obtain ⟨la, lc, rfl, _⟩ := id HN;obtain ⟨pa, pc, rfl, _⟩ := id hp;obtain ⟨ka, kc, rfl, _⟩ := id hk;obtain ⟨kind, text, path, kids, line, col⟩ := n;simp only at hk hr ⊢;unfold MJ at hf;simp only at hf;split at hf
 · rename_i h;have : kids = [] := by simpa using hf
   subst this;rcases h with rfl | rfl | rfl
   · exact Kj _ line col HN hk
   · exact Ml _ line col HN hk
   · exact Km _ line col HN hk
 · split at hf
   · rename_i h;subst h;simp only [ξg, Bool.not_eq_true', ξY] at hf;exact Kl _ line col HN hk hr hf.2 (by rw [ψa]; omega)
   · split at hf
     · rename_i h;subst h;match kids, hf, hk, hr with
       | [a, b], hf, hk, hr =>
        simp only [ξg] at hf;exact Kk _ line col HN hk hr hf.1 hf.2
     · split at hf
       · rename_i h;subst h;match kids, hf, hk, hr with
         | [a, b], hf, hk, hr =>
          simp only [ξg] at hf;exact Kg _ line col HN hk hr hf.1 hf.2
       · split at hf
         · rename_i h;subst h;exact Kh _ line col HN hk hr hf
         · split at hf
           · rename_i h;subst h;exact Ki _ line col HN hk hr hf
           · cases hf
theorem Fz (w : World) (lv : Value) (l : List Nd) (root : Nat) (hl : NdT w lv l) (hgood : Hw l = true) (hroot : root < l.length) (hlen : l.length ≤ 4398046511104) :
 Calls Tryz.prog 19 #[lv, .int .i64 root] w fun e w' => e = .returned (.int .i64 0) ∧ Below w.heap.size w w' := by
 have hmk : ∀ w : World, (Instr.makeSlice 81 (.int .i64 ((root : Int) + 1)) (.int .i64 ((root : Int) + 1))).run Tryz.prog w = .ok (.slice (some ⟨w.heap.size, 0, none⟩) (root + 1) (root + 1)) (w.alloc (.cells (madeCells #[.bool false] (root + 1)) 4)) := by
  have := run_make_row' (P := Tryz.prog) 81 4 (.bool false) 1 Tryz.underlying81 Mk rfl .i64 .i64 (root + 1) (by omega) (by omega);simpa using this
 have HL := κ hl;have HGD := κ hgood;obtain ⟨la, lcap, rfl, -⟩ := hl;have hm0 : Dt (w.alloc (.cells (madeCells #[.bool false] (root + 1)) 4)) w.heap.size (root + 1) (fun _ => false) := World.rowIs_made w (.bool false) (root + 1) 4;have hb0 := bQ (ξf _ w) (.cells (madeCells #[.bool false] (root + 1)) 4);obtain ⟨wy, hwy⟩ : ∃ wy, w.alloc (.cells (madeCells #[.bool false] (root + 1)) 4) = wy := ⟨_, rfl⟩;rw [hwy] at hm0 hb0;have g0 : wy.cell? ⟨w.heap.size, root, none⟩ = some (.bool false) := World.rowIs.cell hm0 (ξJ _);have g1 : wy.frozen? ⟨w.heap.size, root, none⟩ = false := World.rowIs.frozen hm0 root;have HM1 := κ (Dt.put (m' := fun j => if j = root then true else false) (k := root) hm0 (fun j => rfl));have HB0 := κ (hb0.setCell (p := ⟨w.heap.size, root, none⟩) (ξF _) (.bool true));have HRT := κ hroot;have q0 : (decide ((root : Int) < 0)) = false := by simp
 have q1 : (decide (l.length ≤ root)) = false := by simpa using hroot
 have q2 : (decide ((l.length : Int) ≤ root)) = false := by simp; omega
 have hr0 : (root : Int) < (l.length : Int) := by omega
 have hr1 : (root : Int) < (root : Int) + 1 := by omega
 clear hm0 hb0 hgood hroot;go_enter Tryz.func19, Tryz.ntmps19;go_wp2_with fail;clear hmk g0 g1 hwy;go_loopg [6] (root + 2) (fun g v wr => ∃ (n : Nat) (m : Nat → Bool) (z : Int) (wx : World), wx = wr ∧ v = .int .i64 z ∧ z = (n : Int) - 1 ∧ n + 1 = g ∧ n ≤ root + 1 ∧ Dt wr w.heap.size (root + 1) m ∧ Below w.heap.size w wr)
 case atStart => exact ⟨root + 1, _, _, _, rfl, rfl, by omega, rfl, ξF _, HM1, HB0⟩
 case round =>
  obtain ⟨n, m, z, wx2, rfl, rfl, hz, hg, hn, hm, hb⟩ := hrel;have HB := κ hb;have HM := κ hm;have hsz := hb.size;clear hb hm;cases n with
  | zero =>
   obtain rfl : z = -1 := by omega
   clear hz hg hn;go_wp2_with fail;go_ret;exact ⟨rfl, HB⟩
  | succ i =>
   obtain rfl : z = (i : Int) := by omega
   obtain ⟨fu, rfl⟩ : ∃ fu, gk = fu + 1 := ⟨gk - 1, by omega⟩;have hi0 : (i : Int) < (l.length : Int) := by omega
   have hi1 : (i : Int) < (root : Int) + 1 := by omega
   clear hz;have e2 := HM.cell (i := i) (by omega);cases hmi : m i with
   | false =>
    rw [hmi] at e2;clear hmi;go_wp2_with fail;go_roundg fu
    case measure => omega
    case rel => exact ⟨i, m, _, _, rfl, rfl, by omega, by omega, by omega, HM, HB⟩
   | true =>
    rw [hmi] at e2;obtain ⟨nd, hnd⟩ : ∃ nd, l[i]? = some nd := ⟨_, ξw (by omega)⟩;have HG := κ (Hv HGD hnd);clear hmi;obtain ⟨bn, offn, capn, pv, kv, hv, hpv, hkv, hc⟩ := HL.one hnd;simp only [ξR] at hv;obtain ⟨rfl, -, rfl⟩ := hv;obtain ⟨pa, pcap, rfl, -⟩ := id hpv;obtain ⟨ka, kcap, rfl, hkc, hkm, -⟩ := id hkv;unfold maxLen at hkm;have HKV := κ hkv;have HPV := κ hpv;have HC := κ hc;have e3 : wx2.cell? ⟨bn, offn + i * 6 + 3, none⟩ = some (.slice ka nd.kids.length kcap) := cell_later HB (hc 3 _ rfl _ rfl);clear hc hkv hpv hnd;go_wp2_with fail;go_loopg [39] (nd.kids.length + 1) (fun g v wr => ∃ (t : Nat) (m : Nat → Bool) (wx : World), wx = wr ∧ v = .int .i64 (t : Nat) ∧ t + g = nd.kids.length + 1 ∧ t ≤ nd.kids.length ∧ Dt wr w.heap.size (root + 1) m ∧ Below w.heap.size w wr)
    case atStart => exact ⟨0, m, _, rfl, rfl, by omega, ξM _, HM, HB⟩
    case round =>
     clear HM HB e2 e3;obtain ⟨t, m2, wx3, rfl, rfl, hg, ht, hm, hb⟩ := hrel;have HB := κ hb;have HM := κ hm;have hsz := hb.size;by_cases hlt : t < nd.kids.length
     · obtain ⟨k, hk⟩ : ∃ k, nd.kids[t]? = some k := ⟨_, ξw hlt⟩;obtain ⟨hk0, hk1⟩ := HG.out.1 k (ξB hk);obtain ⟨rb, roff, rfl, hc⟩ := ints_at HKV hk;obtain ⟨kn, rfl⟩ : ∃ kn : Nat, k = kn := ⟨k.toNat, by omega⟩;have e1 : wx3.cell? ⟨rb, roff + t, none⟩ = some (.int .i64 kn) := cell_later hb hc;have hti : (t : Int) < (nd.kids.length : Int) := by omega
       have hkr : (kn : Int) < (root : Int) + 1 := by omega
       obtain ⟨fv, rfl⟩ : ∃ fv, gk = fv + 1 := ⟨gk - 1, by omega⟩;have e2 := HM.cell (i := kn) (by omega);have f2 := World.rowIs.frozen HM kn;clear hc hb hm hk;go_wp2_with fail;go_roundg fv
       case measure => omega
       case rel => exact ⟨t + 1, _, _, rfl, rfl, by omega, by omega, HM.put (m' := fun j => if j = kn then true else m2 j) (fun j => rfl), HB.setCell (ξF _) _⟩
     · obtain rfl : t = nd.kids.length := by omega
       have e0 : wx3.cell? ⟨bn, offn + i * 6, none⟩ = some (.int .i64 nd.kind) := cell_later HB (HC 0 _ rfl _ rfl);have e1 : wx3.cell? ⟨bn, offn + i * 6 + 1, none⟩ = some (str nd.text) := cell_later HB (HC 1 _ rfl _ rfl);have e2 : wx3.cell? ⟨bn, offn + i * 6 + 2, none⟩ = some (.slice pa nd.path.length pcap) := cell_later HB (HC 2 _ rfl _ rfl);have e3 : wx3.cell? ⟨bn, offn + i * 6 + 3, none⟩ = some (.slice ka nd.kids.length kcap) := cell_later HB (HC 3 _ rfl _ rfl);have e4 : wx3.cell? ⟨bn, offn + i * 6 + 4, none⟩ = some (.int .i64 nd.line) := cell_later HB (HC 4 _ rfl _ rfl);have e5 : wx3.cell? ⟨bn, offn + i * 6 + 5, none⟩ = some (.int .i64 nd.col) := cell_later HB (HC 5 _ rfl _ rfl);have HFT := κ (Hz (HL.below HB) (HPV.below HB) (HKV.below HB) (fun k hk => ⟨(HG.out.1 k hk).1, by have := (HG.out.1 k hk).2; omega⟩) HG.out.2);clear hm hb hg;go_wp2_with fail;refine HFT.mono ?_;rintro e w4 ⟨rfl, hb4⟩;have HB4 := κ (HB.trans (hb4.mono hsz));have HM4 := κ (HM.below (hb4.block _ (World.rowIs.lt HM)));clear hb4;go_wp2_with fail;go_roundg fu
       case measure => omega
       case rel => exact ⟨i, _, _, _, rfl, rfl, by omega, by omega, by omega, HM4, HB4⟩
end Go.Proofs.YtbchkldhnjahaaaGreatDoor
namespace Kiln
def I3 : Bytes := [118, 97, 108, 32, 120, 32, 61, 32, 49, 32, 43, 32, 50, 32, 42, 32, 51]
def pX : List Tok := [⟨1, [118, 97, 108], [], 1, 1⟩, ⟨2, [120], [], 1, 5⟩, ⟨1, [61], [], 1, 7⟩, ⟨4, [49], [], 1, 9⟩, ⟨2, [43], [], 1, 11⟩, ⟨4, [50], [], 1, 13⟩, ⟨2, [42], [], 1, 15⟩, ⟨4, [51], [], 1, 17⟩]
def Iy : List Nd := [⟨31, [120], [], [], 1, 5⟩, ⟨1, [49], [], [], 1, 9⟩, ⟨1, [50], [], [], 1, 13⟩, ⟨1, [51], [], [], 1, 17⟩, ⟨10, [42], [], [], 1, 15⟩, ⟨13, [], [], [2, 3], 1, 15⟩, ⟨17, [], [], [4, 5], 1, 15⟩, ⟨10, [43], [], [], 1, 11⟩, ⟨13, [], [], [1, 6], 1, 11⟩, ⟨17, [], [], [7, 8], 1, 11⟩, ⟨53, [], [], [0, 9], 1, 5⟩, ⟨51, [], [], [10], 1, 1⟩, ⟨50, [], [], [11], 1, 1⟩]
def Nc : PS := ⟨8, Iy, [1, 1, 1, 1, 1, 2, 3, 1, 4, 5, 6, 7, 8], 0, [uV]⟩
end Kiln
namespace Go.Proofs.YtbchkldhnjahaaaGreatDoor
open Go.RowKit Kiln
open Go.Proofs
theorem KT : gJ I3 = .ok pX := by kernel_rfl
theorem KR : eY pX (iV pX 1001) ps0 = .ok (12, Nc) := by kernel_rfl
theorem FT : pX.all cL = true := by kernel_rfl
theorem KV : ∀ u ∈ pX, Fits u := by
 intro u hu;simp only [pX, List.mem_cons, List.not_mem_nil, or_false] at hu;rcases hu with rfl | rfl | rfl | rfl | rfl | rfl | rfl | rfl <;> exact ⟨by simp, by simp, by simp [Lib.join]⟩
theorem KU : Hw Iy = true := by kernel_rfl
theorem FR (w : World) (hg : Gl w) : Calls Tryz.prog 10 #[] w fun e w' => e = .returned (.bool true) ∧ Below w.heap.size w w' := by
 have HG := κ hg; clear hg;have HSC := κ (rz ⟨I3.toArray⟩ w HG);go_enter Tryz.func10, Tryz.ntmps10;go_wp2_with fail;refine HSC.mono ?_;rintro e w2 hpost;have HB2 := κ hpost.1;obtain ⟨v, xs, rfl, hown, htk⟩ := Je hpost KT;clear HSC hpost;have HT := κ (Am hown htk);clear hown htk;have HP := κ (xU v pX w2 (HG.below HB2.out) HT.out (by simp [pX]) KV);obtain ⟨a, cap, hv, -⟩ := id HT;replace hv : v = .slice a 8 cap := hv;subst hv;go_wp2_with fail;refine HP.mono ?_;rw [FT, KR];rintro e w3 ⟨hb3, nv, rfl, hn⟩;have HB3 := κ (HB2.trans (hb3.mono HB2.size));have HN := κ hn;obtain ⟨na, ncap, hnv, hnx⟩ := id HN;replace hnv : nv = .slice na 13 ncap := hnv;subst hnv;obtain ⟨nb, noff, rfl, hnc⟩ := hnx (by simp [Nc, Iy]);obtain ⟨pv, kv, -, -, hc⟩ := hnc 9 _ rfl;have c9 : w3.cell? ⟨nb, noff + 54, none⟩ = some (.int .i64 17) := hc 0 _ rfl;have HC := κ (Fz w3 _ Iy 12 HN KU (by decide) (by decide));clear hb3 hn hnx hnc hc HP;go_wp2_with fail;refine HC.mono ?_;rintro e w4 ⟨rfl, hb4⟩;have HB4 := κ (HB3.trans (hb4.mono HB3.size));clear hb4;go_wp2_with fail;go_ret;exact ⟨rfl, HB4⟩
end Go.Proofs.YtbchkldhnjahaaaGreatDoor
