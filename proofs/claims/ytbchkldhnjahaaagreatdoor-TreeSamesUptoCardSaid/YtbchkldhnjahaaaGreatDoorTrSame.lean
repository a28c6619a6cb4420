/- Which trees are the same, as plain functions: the program's way and the reference's. No program in sight. The reference's way to tell the same trees (classes of nodes), as a plain function, and that it tells them. No program in sight. The map that counts pairs of nodes (tree.Same's met). Conditions: those of each theorem. The stack of pairs that tree.Same keeps, and what bounds it, as plain facts. Conditions: those of each theorem. The reference's small comparisons (strings, ints) and a node's kids as classes (turned): what each call returns. Conditions: those of each theorem. tree.Same: what the call returns. Conditions: those of each theorem. -/
import Derived.Test.YtbchkldhnjahaaaGreatDoorTrBel
import Derived.Test.YtbchkldhnjahaaaGreatDoorTrOp
import Derived.DeepKeys4
import Derived.WideKeyEntry
import Derived.Maps.OwnSet
import Derived.Test.YtbchkldhnjahaaaGreatDoorTrE
import Derived.Deep.CutBlock
namespace Kiln
/-- a tree: what a node is made of -/
inductive Tre where
  | node (kind : Int) (text : Bytes) (path : List Bytes) (kids : List Tre)

def nodeAt (l : List Nd) (i : Int) : Option Nd := if 0 ≤ i then l[i.toNat]? else none
theorem nodeAt_some {l : List Nd} {i : Int} {n : Nd} (h : nodeAt l i = some n) : 0 ≤ i ∧ i < l.length := by
  unfold nodeAt at h
  split at h
  · have := (List.getElem?_eq_some_iff.1 h).1
    omega
  · cases h
theorem nodeAt_nat (l : List Nd) (i : Nat) : nodeAt l (i : Int) = l[i]? := by simp [nodeAt]
theorem nodeAt_none {l : List Nd} {i : Int} (h : ¬ (0 ≤ i ∧ i < l.length)) : nodeAt l i = none := by
  unfold nodeAt
  split
  · exact List.getElem?_eq_none_iff.2 (by omega)
  · rfl

/-- all of a list, or nothing -/
def allSome {α β : Type} (f : α → Option β) : List α → Option (List β)
  | [] => some []
  | x :: l => match f x with
    | none => none
    | some y => match allSome f l with
      | none => none
      | some ys => some (y :: ys)
theorem allSome_congr {α β : Type} {f g : α → Option β} : ∀ {l : List α}, (∀ x ∈ l, f x = g x) → allSome f l = allSome g l
  | [], _ => rfl
  | x :: l, h => by
    simp only [allSome]
    rw [h x (by simp), allSome_congr fun y hy => h y (List.mem_cons_of_mem _ hy)]
theorem allSome_len {α β : Type} {f : α → Option β} : ∀ {l : List α} {ys : List β}, allSome f l = some ys → ys.length = l.length
  | [], ys, h => by simp only [allSome, Option.some.injEq] at h; subst h; rfl
  | x :: l, ys, h => by
    simp only [allSome] at h
    split at h
    · cases h
    · split at h
      · cases h
      · rename_i _ _ _ _ hl
        simp only [Option.some.injEq] at h
        subst h
        simp [allSome_len hl]

/-- the tree of a node; none: a kid is not lower -/
def treF (l : List Nd) : Nat → Int → Option Tre
  | 0, _ => none
  | f + 1, i => match nodeAt l i with
    | none => none
    | some n => match allSome (fun c => if c < i then treF l f c else none) n.kids with
      | none => none
      | some ts => some (.node n.kind n.text n.path ts)
def treP (l : List Nd) (i : Int) : Option Tre := treF l (i.toNat + 1) i

theorem treF_neg {l : List Nd} {f : Nat} {i : Int} (h : i < 0) : treF l f i = none := by
  cases f with
  | zero => rfl
  | succ f => simp only [treF]; rw [nodeAt_none (by omega)]
theorem treF_fuel {l : List Nd} : ∀ (f g : Nat) (i : Int), i.toNat < f → i.toNat < g → treF l f i = treF l g i
  | 0, _, _, h, _ => absurd h (by omega)
  | _, 0, _, _, h => absurd h (by omega)
  | f + 1, g + 1, i, hf, hg => by
    simp only [treF]
    cases hn : nodeAt l i with
    | none => rfl
    | some n =>
      have hi := (nodeAt_some hn).1
      simp only
      rw [allSome_congr (g := fun c => if c < i then treF l g c else none)]
      intro c _
      by_cases hc : c < i
      · rw [if_pos hc, if_pos hc]
        by_cases h0 : c < 0
        · rw [treF_neg h0, treF_neg h0]
        · exact treF_fuel f g c (by omega) (by omega)
      · rw [if_neg hc, if_neg hc]
theorem treP_eq (l : List Nd) (i : Int) : treP l i = match nodeAt l i with
    | none => none
    | some n => match allSome (fun c => if c < i then treP l c else none) n.kids with
      | none => none
      | some ts => some (.node n.kind n.text n.path ts) := by
  show treF l (i.toNat + 1) i = _
  simp only [treF]
  cases hn : nodeAt l i with
  | none => rfl
  | some n =>
    have hi := (nodeAt_some hn).1
    simp only
    rw [allSome_congr (g := fun c => if c < i then treP l c else none)]
    intro c _
    by_cases hc : c < i
    · rw [if_pos hc, if_pos hc]
      by_cases h0 : c < 0
      · rw [treF_neg h0]; exact (treF_neg h0).symm
      · exact treF_fuel _ _ c (by omega) (by omega)
    · rw [if_neg hc, if_neg hc]

/-- are two trees the same, and trees? -/
def SameT (a b : List Nd) (i k : Int) : Prop := ∃ t, treP a i = some t ∧ treP b k = some t

theorem allSome_iff {α β : Type} {f : α → Option β} : ∀ {l : List α} {ts : List β}, allSome f l = some ts ↔ ts.length = l.length ∧ ∀ (j : Nat) x, l[j]? = some x → ∃ y, ts[j]? = some y ∧ f x = some y
  | [], ts => by
    constructor
    · intro h
      simp only [allSome, Option.some.injEq] at h
      subst h
      exact ⟨rfl, fun j x hj => by simp at hj⟩
    · rintro ⟨h, _⟩
      have : ts = [] := List.eq_nil_of_length_eq_zero h
      subst this; rfl
  | x :: l, ts => by
    constructor
    · intro h
      simp only [allSome] at h
      split at h
      · cases h
      · rename_i y hy
        split at h
        · cases h
        · rename_i ys hl
          simp only [Option.some.injEq] at h
          subst h
          have ih := (allSome_iff (f := f)).1 hl
          refine ⟨by simp [ih.1], fun j z hj => ?_⟩
          cases j with
          | zero => simp only [List.getElem?_cons_zero, Option.some.injEq] at hj; subst hj; exact ⟨y, by simp, hy⟩
          | succ j => exact ih.2 j z (by simpa using hj)
    · rintro ⟨hlen, hj⟩
      cases ts with
      | nil => simp at hlen
      | cons t ts =>
        obtain ⟨y, hy, hfy⟩ := hj 0 x (by simp)
        simp only [List.getElem?_cons_zero, Option.some.injEq] at hy
        subst hy
        have hl : allSome f l = some ts := (allSome_iff (f := f)).2 ⟨by simpa using hlen, fun j z hz => hj (j + 1) z (by simpa using hz)⟩
        simp only [allSome, hfy, hl]

/-- the tree of a node, kid by kid -/
theorem treP_iff {l : List Nd} {i : Int} {t : Tre} : treP l i = some t ↔ ∃ n ts, nodeAt l i = some n ∧ t = .node n.kind n.text n.path ts ∧ ts.length = n.kids.length ∧ ∀ (j : Nat) c, n.kids[j]? = some c → c < i ∧ ∃ u, ts[j]? = some u ∧ treP l c = some u := by
  rw [treP_eq]
  cases hn : nodeAt l i with
  | none => simp
  | some n =>
    simp only
    constructor
    · intro h
      split at h
      · cases h
      · rename_i ts hts
        simp only [Option.some.injEq] at h
        obtain ⟨h1, h2⟩ := allSome_iff.1 hts
        refine ⟨n, ts, rfl, h.symm, h1, fun j c hc => ?_⟩
        obtain ⟨u, hu, hcu⟩ := h2 j c hc
        by_cases hci : c < i
        · rw [if_pos hci] at hcu; exact ⟨hci, u, hu, hcu⟩
        · rw [if_neg hci] at hcu; cases hcu
    · rintro ⟨n', ts, hn', rfl, h1, h2⟩
      simp only [Option.some.injEq] at hn'
      subst hn'
      have : allSome (fun c => if c < i then treP l c else none) n.kids = some ts := allSome_iff.2 ⟨h1, fun j c hc => by
        obtain ⟨hci, u, hu, hcu⟩ := h2 j c hc
        exact ⟨u, hu, by rw [if_pos hci]; exact hcu⟩⟩
      rw [this]

theorem ext_len {α : Type} {a b : List α} (hl : a.length = b.length) (h : ∀ (j : Nat) x, a[j]? = some x → b[j]? = some x) : a = b := by
  refine List.ext_getElem? fun j => ?_
  cases ha : a[j]? with
  | some x => exact (h j x ha).symm
  | none => exact (List.getElem?_eq_none_iff.2 (by have := List.getElem?_eq_none_iff.1 ha; omega)).symm

/-- what two nodes have in common if their trees are the same -/
def headB (x y : Nd) : Bool := x.kind == y.kind && (x.text == y.text && (x.path.length == y.path.length && x.kids.length == y.kids.length))
theorem SameT.head {a b : List Nd} {i k : Int} (h : SameT a b i k) : ∃ x y, nodeAt a i = some x ∧ nodeAt b k = some y ∧ x.kind = y.kind ∧ x.text = y.text ∧ x.path = y.path ∧ x.kids.length = y.kids.length ∧
    ∀ (j : Nat) p q, x.kids[j]? = some p → y.kids[j]? = some q → p < i ∧ q < k ∧ SameT a b p q := by
  obtain ⟨t, h1, h2⟩ := h
  obtain ⟨x, ts, hx, e1, l1, k1⟩ := treP_iff.1 h1
  obtain ⟨y, us, hy, e2, l2, k2⟩ := treP_iff.1 h2
  subst e1
  simp only [Tre.node.injEq] at e2
  obtain ⟨e3, e4, e5, rfl⟩ := e2
  refine ⟨x, y, hx, hy, e3, e4, e5, by omega, fun j p q hp hq => ?_⟩
  obtain ⟨hpi, u, hu, hpu⟩ := k1 j p hp
  obtain ⟨hqk, v, hv, hqv⟩ := k2 j q hq
  rw [hu] at hv
  simp only [Option.some.injEq] at hv
  subst hv
  exact ⟨hpi, hqk, u, hpu, hqv⟩

theorem pick_list {α : Type} {P : Nat → α → Prop} : ∀ (n : Nat), (∀ j, j < n → ∃ x, P j x) → ∃ l : List α, l.length = n ∧ ∀ (j : Nat) x, l[j]? = some x → P j x
  | 0, _ => ⟨[], rfl, fun j x h => by simp at h⟩
  | n + 1, h => by
    obtain ⟨l, hl, hx⟩ := pick_list n fun j hj => h j (by omega)
    obtain ⟨x, hn⟩ := h n (by omega)
    refine ⟨l ++ [x], by simp [hl], fun j y hj => ?_⟩
    by_cases hjn : j < l.length
    · rw [List.getElem?_append_left hjn] at hj; exact hx j y hj
    · rw [List.getElem?_append_right (by omega)] at hj
      have : j = n := by
        have := (List.getElem?_eq_some_iff.1 hj).1
        simp at this; omega
      subst this
      simp [hl] at hj
      subst hj; exact hn

/-- pairs that are alike and whose kids are such pairs again are of one tree -/
theorem same_closed {a b : List Nd} {M : Int → Int → Prop} (hM : ∀ i k, M i k → ∃ x y, nodeAt a i = some x ∧ nodeAt b k = some y ∧ x.kind = y.kind ∧ x.text = y.text ∧ x.path = y.path ∧ x.kids.length = y.kids.length ∧
    ∀ (j : Nat) p q, x.kids[j]? = some p → y.kids[j]? = some q → p < i ∧ q < k ∧ M p q) : ∀ (f : Nat) i k, i.toNat < f → M i k → SameT a b i k
  | 0, _, _, h, _ => absurd h (by omega)
  | f + 1, i, k, hf, h => by
    obtain ⟨x, y, hx, hy, e1, e2, e3, e4, hk⟩ := hM i k h
    have hi := (nodeAt_some hx).1
    obtain ⟨ts, hl, hts⟩ := pick_list (P := fun j t => ∃ p q, x.kids[j]? = some p ∧ y.kids[j]? = some q ∧ p < i ∧ q < k ∧ treP a p = some t ∧ treP b q = some t) x.kids.length fun j hj => by
      obtain ⟨p, hp⟩ : ∃ p, x.kids[j]? = some p := ⟨_, List.getElem?_eq_getElem hj⟩
      obtain ⟨q, hq⟩ : ∃ q, y.kids[j]? = some q := ⟨_, List.getElem?_eq_getElem (by omega)⟩
      obtain ⟨h1, h2, h3⟩ := hk j p q hp hq
      obtain ⟨x', y', hx', _⟩ := hM p q h3
      have hp0 := (nodeAt_some hx').1
      obtain ⟨t, h4, h5⟩ := same_closed hM f p q (by omega) h3
      exact ⟨t, p, q, hp, hq, h1, h2, h4, h5⟩
    refine ⟨.node x.kind x.text x.path ts, treP_iff.2 ⟨x, ts, hx, rfl, hl, fun j c hc => ?_⟩, treP_iff.2 ⟨y, ts, hy, by rw [e1, e2, e3], by omega, fun j c hc => ?_⟩⟩
    · obtain ⟨t, ht⟩ : ∃ t, ts[j]? = some t := ⟨_, List.getElem?_eq_getElem (by have := (List.getElem?_eq_some_iff.1 hc).1; omega)⟩
      obtain ⟨p, q, hp, hq, h1, h2, h3, h4⟩ := hts j t ht
      rw [hp] at hc
      simp only [Option.some.injEq] at hc
      subst hc
      exact ⟨h1, t, ht, h3⟩
    · obtain ⟨t, ht⟩ : ∃ t, ts[j]? = some t := ⟨_, List.getElem?_eq_getElem (by have := (List.getElem?_eq_some_iff.1 hc).1; omega)⟩
      obtain ⟨p, q, hp, hq, h1, h2, h3, h4⟩ := hts j t ht
      rw [hq] at hc
      simp only [Option.some.injEq] at hc
      subst hc
      exact ⟨h2, t, ht, h4⟩
end Kiln

namespace Kiln
theorem downP_mono (l : List Nd) : ∀ (n : Nat) (m : Nat → Bool) (j : Nat), m j = true → downP l n m j = true
  | 0, _, _, h => h
  | n + 1, m, j, h => by
    simp only [downP]
    refine downP_mono l n _ j ?_
    split
    · simp [markP, h]
    · exact h
theorem downP_high (l : List Nd) : ∀ (n : Nat) (m : Nat → Bool) (j : Nat), n ≤ j → downP l n m j = m j
  | 0, _, _, _ => rfl
  | n + 1, m, j, h => by
    simp only [downP]
    rw [downP_high l n _ j (by omega)]
    split
    · simp [markP, show ¬ j < n by omega]
    · rfl
theorem downP_closed (l : List Nd) : ∀ (n : Nat) (m : Nat → Bool) (i : Nat) (c : Nat), i < n → downP l n m i = true → (c : Int) ∈ kidsOf l i → c < i → downP l n m c = true
  | 0, _, _, _, h, _, _, _ => absurd h (by omega)
  | n + 1, m, i, c, hi, hd, hc, hci => by
    simp only [downP] at hd ⊢
    by_cases hin : i < n
    · exact downP_closed l n _ i c hin hd hc hci
    · obtain rfl : i = n := by omega
      rw [downP_high l i _ i (Nat.le_refl _)] at hd
      have hm : m i = true := by
        split at hd
        · rename_i h; exact h
        · exact hd
      refine downP_mono l i _ c ?_
      rw [if_pos hm]
      simp only [markP, Bool.or_eq_true, Bool.and_eq_true, decide_eq_true_eq]
      exact .inr ⟨hci, by simpa using hc⟩
theorem metP_root (l : List Nd) (i : Nat) (hi : i < l.length) : metP l [(i : Int)] i = true := by
  unfold metP
  refine downP_mono l _ _ i ?_
  simp [markP, hi]
theorem below_mem {l : List Nd} {roots : List Int} {i : Nat} : i ∈ belowP l roots ↔ i < l.length ∧ metP l roots i = true := by
  unfold belowP
  rw [List.mem_filter, List.mem_range]

/-- a node's kids as classes -/
def turnP (l : List Nd) (i : Nat) (o : Nat → Int) : List Int := (kidsOf l i).map fun c => if 0 ≤ c ∧ c < (i : Int) then o c.toNat else -1
def ndAt (l : List Nd) (i : Nat) : Nd := l.getD i ⟨0, [], [], [], 0, 0⟩
def isN (n : Nd) (ks : List Int) (e : Nd) : Bool := e.kind == n.kind && (e.text == n.text && (e.path == n.path && e.kids == ks))
/-- the class of the first one that is the same -/
def findC (n : Nd) (ks : List Int) : List (Nd × Int) → Int → Int
  | [], d => d
  | e :: r, d => if isN n ks e.1 then e.2 else findC n ks r d
def classP (l : List Nd) (i : Nat) (o : Nat → Int) (all : List (Nd × Int)) : Int :=
  if (turnP l i o).any (fun c => decide (c < 0)) then -1 else findC (ndAt l i) (turnP l i o) all all.length
def setO (o : Nat → Int) (i : Nat) (c : Int) : Nat → Int := fun j => if j = i then c else o j
def classStep (l : List Nd) (s : (Nat → Int) × List (Nd × Int)) (i : Nat) : (Nat → Int) × List (Nd × Int) :=
  (setO s.1 i (classP l i s.1 s.2), s.2 ++ [({ ndAt l i with kids := turnP l i (setO s.1 i (classP l i s.1 s.2)) }, classP l i s.1 s.2)])
def classAll (l : List Nd) (s : (Nat → Int) × List (Nd × Int)) (xs : List Nat) : (Nat → Int) × List (Nd × Int) := xs.foldl (classStep l) s
def c0 : Nat → Int := fun _ => 0
def rsameP (a b : List Nd) (i k : Nat) : Bool :=
  let s := classAll a (c0, []) (belowP a [(i : Int)])
  let t := classAll b (c0, s.2) (belowP b [(k : Int)])
  decide (0 ≤ s.1 i) && s.1 i == t.1 k

theorem turnP_set (l : List Nd) (i : Nat) (o : Nat → Int) (c : Int) : turnP l i (setO o i c) = turnP l i o := by
  unfold turnP
  refine List.map_congr_left fun x _ => ?_
  split
  · rename_i h
    rw [setO, if_neg (by omega)]
  · rfl
theorem isN_iff {n e : Nd} {ks : List Int} : isN n ks e = true ↔ e.kind = n.kind ∧ e.text = n.text ∧ e.path = n.path ∧ e.kids = ks := by
  unfold isN
  simp only [Bool.and_eq_true, beq_iff_eq]
theorem findC_or (n : Nd) (ks : List Int) (d : Int) : ∀ all : List (Nd × Int), (∃ e ∈ all, isN n ks e.1 = true ∧ findC n ks all d = e.2) ∨ ((∀ e ∈ all, isN n ks e.1 = false) ∧ findC n ks all d = d)
  | [] => .inr ⟨by simp, rfl⟩
  | e :: r => by
    cases h : isN n ks e.1 with
    | true => exact .inl ⟨e, by simp, h, by simp [findC, h]⟩
    | false =>
      rcases findC_or n ks d r with ⟨e', he, h1, h2⟩ | ⟨h1, h2⟩
      · exact .inl ⟨e', List.mem_cons_of_mem _ he, h1, by simp [findC, h, h2]⟩
      · refine .inr ⟨fun x hx => ?_, by simp [findC, h, h2]⟩
        rcases List.mem_cons.1 hx with rfl | hx
        · exact h
        · exact h1 x hx

/-- a class that some entry has -/
def Used (all : List (Nd × Int)) (c : Int) : Prop := 0 ≤ c ∧ ∃ e ∈ all, e.2 = c
theorem Used.more {all : List (Nd × Int)} {c : Int} (h : Used all c) (x : Nd × Int) : Used (all ++ [x]) c := ⟨h.1, let ⟨e, he, hc⟩ := h.2; ⟨e, List.mem_append.2 (.inl he), hc⟩⟩
/-- classes are trees -/
structure CI (τ : Int → Tre) (all : List (Nd × Int)) : Prop where
  low : ∀ e ∈ all, e.2 < (all.length : Int)
  pos : ∀ e ∈ all, 0 ≤ e.2 → τ e.2 = .node e.1.kind e.1.text e.1.path (e.1.kids.map τ) ∧ ∀ c ∈ e.1.kids, Used all c
  neg : ∀ e ∈ all, e.2 < 0 → ∃ c ∈ e.1.kids, c < 0
  inj : ∀ c d, Used all c → Used all d → τ c = τ d → c = d
/-- what a node's class says -/
def CL (l : List Nd) (τ : Int → Tre) (all : List (Nd × Int)) (o : Nat → Int) (p : Nat) : Prop := (Used all (o p) ∧ treP l p = some (τ (o p))) ∨ (o p < 0 ∧ treP l p = none)

theorem CI.nil (τ : Int → Tre) : CI τ [] := ⟨by simp, by simp, by simp, fun c d h => by obtain ⟨_, e, he, _⟩ := h; simp at he⟩

theorem ndAt_some {l : List Nd} {i : Nat} (hi : i < l.length) : nodeAt l (i : Int) = some (ndAt l i) ∧ kidsOf l i = (ndAt l i).kids := by
  unfold ndAt kidsOf
  rw [nodeAt_nat]
  simp [List.getD, List.getElem?_eq_getElem hi]

theorem class_step {l : List Nd} {τ : Int → Tre} {all : List (Nd × Int)} {o : Nat → Int} {i : Nat} (hi : i < l.length) (h : CI τ all) (hk : ∀ c : Nat, (c : Int) ∈ kidsOf l i → c < i → CL l τ all o c) :
    ∃ τ' : Int → Tre, (∀ c, Used all c → τ' c = τ c) ∧ CI τ' (classStep l (o, all) i).2 ∧ CL l τ' (classStep l (o, all) i).2 (classStep l (o, all) i).1 i := by
  obtain ⟨hn, hkn⟩ := ndAt_some hi
  obtain ⟨n, hnn⟩ : ∃ n, ndAt l i = n := ⟨_, rfl⟩
  obtain ⟨ks, hks⟩ : ∃ ks, turnP l i o = ks := ⟨_, rfl⟩
  obtain ⟨c, hc⟩ : ∃ c, classP l i o all = c := ⟨_, rfl⟩
  have e1 : (classStep l (o, all) i) = (setO o i c, all ++ [({ n with kids := ks }, c)]) := by
    unfold classStep
    simp only [turnP_set, hks, hnn, hc]
  rw [e1]
  simp only
  rw [hnn] at hn hkn
  unfold classP at hc
  rw [hks, hnn] at hc
  have hset : setO o i c i = c := by simp [setO]
  by_cases hneg : ks.any (fun c => decide (c < 0)) = true
  · rw [if_pos hneg] at hc
    subst hc
    obtain ⟨x, hx, hx0⟩ := List.any_eq_true.1 hneg
    have hx0 : x < 0 := by simpa using hx0
    refine ⟨τ, fun _ _ => rfl, ⟨fun e he => ?_, fun e he h0 => ?_, fun e he h0 => ?_, fun c d hcu hdu ht => ?_⟩, .inr ⟨by rw [hset]; decide, ?_⟩⟩
    · rw [List.length_append]
      rcases List.mem_append.1 he with he | he
      · have := h.low e he; simp; omega
      · simp only [List.mem_singleton] at he; subst he; simp; omega
    · rcases List.mem_append.1 he with he | he
      · exact ⟨(h.pos e he h0).1, fun c hc => ((h.pos e he h0).2 c hc).more _⟩
      · simp only [List.mem_singleton] at he; subst he; simp at h0
    · rcases List.mem_append.1 he with he | he
      · exact h.neg e he h0
      · simp only [List.mem_singleton] at he; subst he; exact ⟨x, hx, hx0⟩
    · have old : ∀ c, Used (all ++ [({ n with kids := ks }, (-1 : Int))]) c → Used all c := fun c hcu => by
        obtain ⟨h1, e, he, rfl⟩ := hcu
        rcases List.mem_append.1 he with he | he
        · exact ⟨h1, e, he, rfl⟩
        · simp only [List.mem_singleton] at he; subst he; simp at h1
      exact h.inj c d (old c hcu) (old d hdu) ht
    · cases ht : treP l (i : Int) with
      | none => rfl
      | some t =>
        obtain ⟨n', ts, hn', -, -, hj⟩ := treP_iff.1 ht
        rw [hn] at hn'
        simp only [Option.some.injEq] at hn'
        subst hn'
        rw [← hks] at hx
        unfold turnP at hx
        rw [List.mem_map] at hx
        obtain ⟨y, hy, rfl⟩ := hx
        obtain ⟨j, hjl, hjy⟩ := List.getElem_of_mem (hkn ▸ hy)
        obtain ⟨hyi, u, _, hyu⟩ := hj j y (by rw [List.getElem?_eq_getElem hjl, hjy])
        have hy0 : 0 ≤ y := by
          refine Classical.byContradiction fun hlt => ?_
          have hnone : treP l y = none := treF_neg (by omega)
          rw [hnone] at hyu; cases hyu
        rw [if_pos ⟨hy0, hyi⟩] at hx0
        obtain ⟨yn, rfl⟩ : ∃ yn : Nat, y = yn := ⟨y.toNat, by omega⟩
        simp only [Int.toNat_natCast] at hx0
        rcases hk yn hy (by omega) with ⟨⟨h0, _⟩, _⟩ | ⟨_, h0⟩
        · omega
        · rw [h0] at hyu; cases hyu
  · rw [if_neg hneg] at hc
    have hpos : ∀ x ∈ ks, 0 ≤ x := fun x hx => by
      refine Classical.byContradiction fun hlt => hneg (List.any_eq_true.2 ⟨x, hx, by simpa using hlt⟩)
    -- each kid is lower and a tree
    have hkid : ∀ (j : Nat) y, n.kids[j]? = some y → y < (i : Int) ∧ ∃ c, ks[j]? = some c ∧ Used all c ∧ treP l y = some (τ c) := fun j y hy => by
      have hyk : y ∈ kidsOf l i := by rw [hkn]; exact List.mem_of_getElem? hy
      have hj : ks[j]? = some (if 0 ≤ y ∧ y < (i : Int) then o y.toNat else -1) := by
        rw [← hks]; unfold turnP; rw [hkn, List.getElem?_map, hy]; rfl
      have hp := hpos _ (List.mem_of_getElem? hj)
      by_cases hr : 0 ≤ y ∧ y < (i : Int)
      · rw [if_pos hr] at hj hp
        obtain ⟨yn, rfl⟩ : ∃ yn : Nat, y = yn := ⟨y.toNat, by omega⟩
        simp only [Int.toNat_natCast] at hj hp
        rcases hk yn hyk (by omega) with ⟨hu, ht⟩ | ⟨h0, _⟩
        · exact ⟨hr.2, _, hj, hu, ht⟩
        · omega
      · rw [if_neg hr] at hp; omega
    have hklen : ks.length = n.kids.length := by rw [← hks]; unfold turnP; rw [hkn]; simp
    have hku : ∀ x ∈ ks, Used all x := fun x hx => by
      obtain ⟨j, hj, rfl⟩ := List.getElem_of_mem hx
      obtain ⟨_, c, h1, h2, _⟩ := hkid j (n.kids[j]'(by omega)) (List.getElem?_eq_getElem (by omega))
      rw [List.getElem?_eq_getElem hj] at h1
      simp only [Option.some.injEq] at h1
      rw [h1]; exact h2
    have htree : treP l (i : Int) = some (.node n.kind n.text n.path (ks.map τ)) := treP_iff.2 ⟨n, ks.map τ, hn, rfl, by simp [hklen], fun j y hy => by
      obtain ⟨h1, c, h2, _, h3⟩ := hkid j y hy
      exact ⟨h1, τ c, by rw [List.getElem?_map, h2]; rfl, h3⟩⟩
    rcases findC_or n ks all.length all with ⟨e, he, hm, hf⟩ | ⟨hno, hf⟩
    · rw [hf] at hc
      obtain ⟨m1, m2, m3, m4⟩ := isN_iff.1 hm
      have he0 : 0 ≤ e.2 := by
        refine Classical.byContradiction fun hlt => ?_
        obtain ⟨x, hx, hx0⟩ := h.neg e he (by omega)
        rw [m4] at hx
        have := hpos x hx; omega
      have hte := (h.pos e he he0).1
      rw [m1, m2, m3, m4, hc] at hte
      have hcu : Used all c := ⟨hc ▸ he0, e, he, hc⟩
      have old : ∀ d, Used (all ++ [({ n with kids := ks }, c)]) d → Used all d := fun d hd => by
        obtain ⟨h1, e', he', rfl⟩ := hd
        rcases List.mem_append.1 he' with he' | he'
        · exact ⟨h1, e', he', rfl⟩
        · simp only [List.mem_singleton] at he'; subst he'; exact hcu
      refine ⟨τ, fun _ _ => rfl, ⟨fun e' he' => ?_, fun e' he' h0 => ?_, fun e' he' h0 => ?_, fun c d h1 h2 ht => h.inj c d (old c h1) (old d h2) ht⟩, .inl ⟨by rw [hset]; exact hcu.more _, by rw [hset, hte]; exact htree⟩⟩
      · rw [List.length_append]
        rcases List.mem_append.1 he' with he' | he'
        · have := h.low e' he'; simp; omega
        · simp only [List.mem_singleton] at he'; subst he'
          have := h.low e he
          simp; omega
      · rcases List.mem_append.1 he' with he' | he'
        · exact ⟨(h.pos e' he' h0).1, fun c hc => ((h.pos e' he' h0).2 c hc).more _⟩
        · simp only [List.mem_singleton] at he'; subst he'
          exact ⟨hte, fun x hx => (hku x hx).more _⟩
      · rcases List.mem_append.1 he' with he' | he'
        · exact h.neg e' he' h0
        · simp only [List.mem_singleton] at he'; subst he'; exact absurd hcu.1 (by simp only at h0; omega)
    · rw [hf] at hc
      have hfresh : ∀ d, Used all d → d ≠ c := fun d hd => by
        obtain ⟨_, e, he, rfl⟩ := hd
        have := h.low e he; omega
      obtain ⟨τ', hτ'⟩ : ∃ τ' : Int → Tre, τ' = fun d => if d = c then .node n.kind n.text n.path (ks.map τ) else τ d := ⟨_, rfl⟩
      have hold : ∀ d, Used all d → τ' d = τ d := fun d hd => by rw [hτ']; simp only; rw [if_neg (hfresh d hd)]
      have hnew : τ' c = .node n.kind n.text n.path (ks.map τ) := by rw [hτ']; simp
      have hmap : ∀ xs : List Int, (∀ x ∈ xs, Used all x) → xs.map τ' = xs.map τ := fun xs hxs => List.map_congr_left fun x hx => hold x (hxs x hx)
      -- the new tree is none of the old ones
      have hdiff : ∀ d, Used all d → τ d ≠ .node n.kind n.text n.path (ks.map τ) := fun d hd ht => by
        obtain ⟨h0, e, he, rfl⟩ := hd
        obtain ⟨h1, h2⟩ := h.pos e he h0
        rw [h1] at ht
        simp only [Tre.node.injEq] at ht
        obtain ⟨t1, t2, t3, t4⟩ := ht
        have hkk : e.1.kids = ks := by
          have hl : e.1.kids.length = ks.length := by simpa using congrArg List.length t4
          refine ext_len hl fun j x hx => ?_
          obtain ⟨y, hy⟩ : ∃ y, ks[j]? = some y := ⟨_, List.getElem?_eq_getElem (by have := (List.getElem?_eq_some_iff.1 hx).1; omega)⟩
          have : (e.1.kids.map τ)[j]? = (ks.map τ)[j]? := by rw [t4]
          rw [List.getElem?_map, List.getElem?_map, hx, hy] at this
          simp only [Option.map_some, Option.some.injEq] at this
          rw [hy, h.inj x y (h2 x (List.mem_of_getElem? hx)) (hku y (List.mem_of_getElem? hy)) this]
        have := hno e he
        rw [isN_iff.2 ⟨t1, t2, t3, hkk⟩] at this
        cases this
      have split : ∀ d, Used (all ++ [({ n with kids := ks }, c)]) d → Used all d ∨ d = c := fun d hd => by
        obtain ⟨h1, e', he', rfl⟩ := hd
        rcases List.mem_append.1 he' with he' | he'
        · exact .inl ⟨h1, e', he', rfl⟩
        · simp only [List.mem_singleton] at he'; subst he'; exact .inr rfl
      refine ⟨τ', hold, ⟨fun e' he' => ?_, fun e' he' h0 => ?_, fun e' he' h0 => ?_, fun x y hx hy ht => ?_⟩, .inl ⟨by rw [hset]; exact ⟨by omega, ({ n with kids := ks }, c), List.mem_append.2 (.inr (List.mem_singleton.2 rfl)), rfl⟩, by rw [hset, hnew]; exact htree⟩⟩
      · rw [List.length_append]
        rcases List.mem_append.1 he' with he' | he'
        · have := h.low e' he'; simp; omega
        · simp only [List.mem_singleton] at he'; subst he'; simp; omega
      · rcases List.mem_append.1 he' with he' | he'
        · obtain ⟨h1, h2⟩ := h.pos e' he' h0
          refine ⟨?_, fun c hc => (h2 c hc).more _⟩
          rw [hold e'.2 ⟨h0, e', he', rfl⟩, hmap _ h2]; exact h1
        · simp only [List.mem_singleton] at he'; subst he'
          refine ⟨?_, fun x hx => (hku x hx).more _⟩
          simp only
          rw [hnew, hmap _ hku]
      · rcases List.mem_append.1 he' with he' | he'
        · exact h.neg e' he' h0
        · simp only [List.mem_singleton] at he'; subst he'; simp only at h0; omega
      · rcases split x hx with hx | hx
        · rcases split y hy with hy | hy
          · rw [hold x hx, hold y hy] at ht; exact h.inj x y hx hy ht
          · rw [hold x hx, hy, hnew] at ht; exact absurd ht (hdiff x hx)
        · rcases split y hy with hy | hy
          · rw [hold y hy, hx, hnew] at ht; exact absurd ht.symm (hdiff y hy)
          · rw [hx, hy]

/-- a whole row of nodes, each behind those of which it is made -/
theorem class_all {l : List Nd} : ∀ (xs : List Nat) (done : List Nat) (τ : Int → Tre) (o : Nat → Int) (all : List (Nd × Int)), CI τ all → (∀ p ∈ done, CL l τ all o p) → (∀ x ∈ xs, x < l.length) → (∀ x ∈ xs, ∀ y ∈ done, y ≠ x) → xs.Pairwise (· ≠ ·) →
    (∀ (j : Nat) x, xs[j]? = some x → ∀ c : Nat, (c : Int) ∈ kidsOf l x → c < x → c ∈ done ∨ c ∈ xs.take j) →
    ∃ τ' : Int → Tre, (∀ c, Used all c → Used (classAll l (o, all) xs).2 c ∧ τ' c = τ c) ∧ CI τ' (classAll l (o, all) xs).2 ∧ (∀ p ∈ done ++ xs, CL l τ' (classAll l (o, all) xs).2 (classAll l (o, all) xs).1 p)
  | [], done, τ, o, all, h, hd, _, _, _, _ => ⟨τ, fun c hc => ⟨hc, rfl⟩, h, by simpa [classAll] using hd⟩
  | x :: xs, done, τ, o, all, h, hd, hl, hne, hp, hk => by
    obtain ⟨τ1, k1, k2, k3⟩ := class_step (o := o) (i := x) (hl x (by simp)) h fun c hc hcx => by
      rcases hk 0 x (by simp) c hc hcx with h1 | h1
      · exact hd c h1
      · simp at h1
    obtain ⟨s1, hs1⟩ : ∃ s1, classStep l (o, all) x = s1 := ⟨_, rfl⟩
    obtain ⟨o1, all1⟩ := s1
    have hu : ∀ c, Used all c → Used all1 c := fun c hc => by
      have : all1 = all ++ [({ ndAt l x with kids := turnP l x (setO o x (classP l x o all)) }, classP l x o all)] := by
        have := congrArg Prod.snd hs1; exact this.symm
      rw [this]; exact hc.more _
    have ho : ∀ p, p ≠ x → o1 p = o p := fun p hpx => by
      have : o1 = setO o x (classP l x o all) := (congrArg Prod.fst hs1).symm
      rw [this, setO, if_neg hpx]
    rw [hs1] at k2 k3
    simp only at k2 k3
    rw [List.pairwise_cons] at hp
    obtain ⟨τ2, m1, m2, m3⟩ := class_all xs (done ++ [x]) τ1 o1 all1 k2 (fun p hp' => by
      rcases List.mem_append.1 hp' with h1 | h1
      · have hpx := hne x (by simp) p h1
        rcases hd p h1 with ⟨hu1, ht⟩ | ⟨h0, ht⟩
        · exact .inl ⟨by rw [ho p hpx]; exact hu _ hu1, by rw [ho p hpx, k1 _ hu1]; exact ht⟩
        · exact .inr ⟨by rw [ho p hpx]; exact h0, ht⟩
      · simp only [List.mem_singleton] at h1; subst h1; exact k3) (fun y hy => hl y (List.mem_cons_of_mem _ hy)) (fun y hy p hp' => by
        rcases List.mem_append.1 hp' with h1 | h1
        · exact hne y (List.mem_cons_of_mem _ hy) p h1
        · simp only [List.mem_singleton] at h1; subst h1; exact hp.1 y hy) hp.2 (fun j y hy c hc hcy => by
        rcases hk (j + 1) y (by simpa using hy) c hc hcy with h1 | h1
        · exact .inl (List.mem_append.2 (.inl h1))
        · rw [List.take_succ_cons] at h1
          rcases List.mem_cons.1 h1 with rfl | h1
          · exact .inl (List.mem_append.2 (.inr (by simp)))
          · exact .inr h1)
    have he : classAll l (o, all) (x :: xs) = classAll l (o1, all1) xs := by unfold classAll; rw [List.foldl_cons, hs1]
    rw [he]
    refine ⟨τ2, fun c hc => ⟨(m1 c (hu c hc)).1, by rw [(m1 c (hu c hc)).2, k1 c hc]⟩, m2, fun p hp' => m3 p ?_⟩
    simpa using hp'

theorem below_rows (l : List Nd) (i : Nat) (hi : i < l.length) : i ∈ belowP l [(i : Int)] ∧ (∀ x ∈ belowP l [(i : Int)], x < l.length) ∧ (belowP l [(i : Int)]).Pairwise (· ≠ ·) ∧
    ∀ (j : Nat) x, (belowP l [(i : Int)])[j]? = some x → ∀ c : Nat, (c : Int) ∈ kidsOf l x → c < x → c ∈ ([] : List Nat) ∨ c ∈ (belowP l [(i : Int)]).take j := by
  have hlt : (belowP l [(i : Int)]).Pairwise (· < ·) := List.Pairwise.filter _ List.pairwise_lt_range
  refine ⟨below_mem.2 ⟨hi, metP_root l i hi⟩, fun x hx => (below_mem.1 hx).1, hlt.imp (fun h => Nat.ne_of_lt h), fun j x hj c hc hcx => .inr ?_⟩
  have hx := below_mem.1 (List.mem_of_getElem? hj)
  have hcm : c ∈ belowP l [(i : Int)] := below_mem.2 ⟨by omega, downP_closed l _ _ x c hx.1 hx.2 hc hcx⟩
  obtain ⟨m, hm, rfl⟩ := List.getElem_of_mem hcm
  have hmj : m < j := by
    refine Classical.byContradiction fun hge => ?_
    obtain ⟨hjl, hjx⟩ := List.getElem?_eq_some_iff.1 hj
    rcases Nat.lt_or_ge j m with h1 | h1
    · have := List.pairwise_iff_getElem.1 hlt j m hjl hm h1
      omega
    · obtain rfl : m = j := by omega
      omega
  rw [List.mem_take_iff_getElem]
  exact ⟨m, by omega, rfl⟩

/-- the reference tells the same trees -/
theorem rsame_iff {a b : List Nd} {i k : Nat} (hi : i < a.length) (hk : k < b.length) : rsameP a b i k = true ↔ SameT a b i k := by
  obtain ⟨h1, h2, h3, h4⟩ := below_rows a i hi
  obtain ⟨h5, h6, h7, h8⟩ := below_rows b k hk
  obtain ⟨τ1, -, m2, m3⟩ := class_all (l := a) (belowP a [(i : Int)]) [] (fun _ => .node 0 [] [] []) c0 [] (CI.nil _) (by simp) h2 (by simp) h3 h4
  obtain ⟨τ2, n1, n2, n3⟩ := class_all (l := b) (belowP b [(k : Int)]) [] τ1 c0 _ m2 (by simp) h6 (by simp) h7 h8
  have ci := m3 i (by simpa using h1)
  have ck := n3 k (by simpa using h5)
  unfold rsameP
  obtain ⟨s, hs⟩ : ∃ s, classAll a (c0, []) (belowP a [(i : Int)]) = s := ⟨_, rfl⟩
  obtain ⟨t, ht⟩ : ∃ t, classAll b (c0, s.2) (belowP b [(k : Int)]) = t := ⟨_, rfl⟩
  rw [hs] at n1 n2 n3 ck ci
  rw [ht] at n1 n2 ck
  simp only [hs, ht, Bool.and_eq_true, decide_eq_true_eq, beq_iff_eq]
  constructor
  · rintro ⟨p0, pe⟩
    rcases ci with ⟨hu, htr⟩ | ⟨h0, _⟩
    · rcases ck with ⟨hu2, htr2⟩ | ⟨h0, _⟩
      · refine ⟨τ1 (s.1 i), htr, ?_⟩
        rw [← (n1 _ hu).2, pe]; exact htr2
      · omega
    · omega
  · rintro ⟨u, hu1, hu2⟩
    rcases ci with ⟨hu, htr⟩ | ⟨_, htr⟩
    · rcases ck with ⟨huk, htrk⟩ | ⟨_, htrk⟩
      · refine ⟨hu.1, n2.inj _ _ (n1 _ hu).1 huk ?_⟩
        rw [htr] at hu1
        rw [htrk] at hu2
        simp only [Option.some.injEq] at hu1 hu2
        rw [(n1 _ hu).2, hu1, hu2]
      · rw [htrk] at hu2; cases hu2
    · rw [htr] at hu1; cases hu1
end Kiln

namespace Go.Proofs.YtbchkldhnjahaaaGreatDoor
open Go.RowKit Kiln
open Go.Proofs
open Go.ChangeMaps (setBlock)

/-- a pair as a value, and as a key -/
def pairV (i k : Int) : Value := .agg #[.int .i64 i, .int .i64 k]
def pairL (i k : Int) : Lit := .string (keyBytes [.int .i64 i, .int .i64 k])
def i64B (i : Int) : Prop := (Lit.int .i64 i).wf = true
theorem cellsPair : Tryz.prog.cellsOf 84 = 2 := by kernel_rfl
theorem pair_wide : (match Tryz.prog.underlying 84 with | some (.array _ _) | some (.struct _) => true | _ => false) = true := by rw [Tryz.underlying84]
set_option maxRecDepth 100000 in
theorem pair_row : (84 : TypeId) < Tryz.prog.types.size := of_decide_eq_true (by kernel_rfl)
theorem pair_at : Tryz.prog.keyTypeAt 2 84 = true := by kernel_rfl
set_option maxRecDepth 100000 in
theorem pair_law : WideMaps.KeyLaw Tryz.prog 84 := deep_law_laid prog_laidOut (m := 2) (by omega) pair_row pair_at pair_wide
theorem pair_keyed : Maps.Keyed Tryz.prog 84 := Maps.Keyed.of_law pair_law
theorem pair_keytype : Tryz.prog.keyType 84 = true := by kernel_rfl
theorem types_size : ∃ m, Tryz.prog.types.size = m + 1 := ⟨Tryz.prog.types.size - 1, by kernel_rfl⟩
theorem pair_key (i k : Int) (hi : i64B i) (hk : i64B k) : keyOf Tryz.prog 84 (pairV i k) = some (pairL i k) := by
  unfold i64B at hi hk
  obtain ⟨m, hm⟩ := types_size
  unfold keyOf pairV
  simp only [Tryz.underlying84]
  rw [if_pos (by simp [pair_keytype, Value.formed, Tryz.underlying84, cellsPair]), hm]
  unfold Program.keyLits
  simp only [Tryz.underlying84, Value.cells]
  rw [if_pos (by rw [cellsPair]; exact ⟨rfl, by simp⟩)]
  simp [List.mapM_cons, cellsInt, Program.keyLits, Tryz.underlying3, hi, hk, pairL]

theorem pairL_inj {i k i' k' : Int} (hi : i64B i) (hk : i64B k) (hi' : i64B i') (hk' : i64B k') (h : pairL i k = pairL i' k') : i = i' ∧ k = k' := by
  have h1 := pair_key i k hi hk
  have h2 := pair_key i' k' hi' hk'
  rw [h] at h1
  have := pair_law.inj h1 h2
  unfold pairV at this
  simp at this
  exact this

/-- the map in a block says how often each pair was met -/
def PrS (w : World) (bm n : Nat) (cnt : Int → Int → Nat) : Prop := ∃ D : DataW Unit, w.ownsMap Tryz.prog 84 (plainElem Tryz.prog 3) bm n D ∧ ∀ i k, i64B i → i64B k → D.atKey (pairL i k) (.lit (.int .i64 0)) = .lit (.int .i64 (cnt i k))
def bumpC (cnt : Int → Int → Nat) (i k : Int) : Int → Int → Nat := fun i' k' => if i' = i ∧ k' = k then cnt i k + 1 else cnt i' k'

set_option maxRecDepth 100000 in
theorem int_zero (w : World) : (zeroValue 3).run Tryz.prog w = .ok (.int .i64 0) w := by kernel_rfl

theorem PrS.made (w : World) : PrS (w.alloc (.map #[] 0)) w.heap.size 0 (fun _ _ => 0) := ⟨_, World.ownsMap_made w _ _ _, fun _ _ _ _ => rfl⟩
theorem PrS.look {w : World} {bm n : Nat} {cnt : Int → Int → Nat} (h : PrS w bm n cnt) {i k : Int} (hi : i64B i) (hk : i64B k) :
    (Instr.lookup 82 (.map (some bm)) (pairV i k) false).run Tryz.prog w = .ok (.int .i64 (cnt i k)) w := by
  obtain ⟨D, ho, hD⟩ := h
  obtain ⟨c, hrun, hat, _⟩ := ho.lookup_int pair_keyed Tryz.underlying82 Tryz.underlying3 (int_zero w) (pair_key i k hi hk)
  rw [hD i k hi hk] at hat
  simp only [DataW.lit.injEq, Lit.int.injEq, true_and] at hat
  rw [hrun, hat]
theorem PrS.keep {w w' : World} {bm n : Nat} {cnt : Int → Int → Nat} (h : PrS w bm n cnt) (hk : w'.heap[bm]? = w.heap[bm]?) : PrS w' bm n cnt := by
  obtain ⟨D, ⟨es, clock, hb, F, hs, hD⟩, hc⟩ := h
  exact ⟨D, ⟨es, clock, hk.trans hb, F, hs, hD⟩, hc⟩
theorem PrS.lt {w : World} {bm n : Nat} {cnt : Int → Int → Nat} (h : PrS w bm n cnt) : bm < w.heap.size := by
  obtain ⟨D, ho, _⟩ := h
  exact ho.lt

/-- the entry of a key: new, or an old one -/
theorem entry_run {P : Program} {w : World} {t k e : TypeId} {R : Value → Option (DataW Unit × List MemPlace)} {b : Nat} {es : Array MapEntry} {clock : Nat} (K : WideMaps.KeyLaw P k) (ht : P.underlying t = some (.map k e)) {z : Value} (hz : (zeroValue e).run P w = .ok z w) (hb : w.heap[b]? = some (.map es clock)) (F : WideElems.Fit P k R es clock)
    {key : Value} {kl : Lit} (hkey : keyOf P k key = some kl) :
    (∃ st w1, (Instr.mapEntry t (.map (some b)) key).run P w = .ok (.tuple #[z, .int .i64 (st : Nat)]) w1 ∧ (Instr.mapUpdate t (.map (some b)) key z).run P w = .ok () w1 ∧ (Instr.lookup t (.map (some b)) key false).run P w = .ok z w) ∨
    (∃ v st w1, (Instr.mapEntry t (.map (some b)) key).run P w = .ok (.tuple #[v, .int .i64 (st : Nat)]) w1 ∧ w1.heap[b]? = w.heap[b]?) := by
  rcases K.find w hkey es.toList F.keys with ⟨h1, _⟩ | ⟨j, e0, h1, h2, h3⟩
  · refine .inl ⟨clock, setBlock w b (.map (es.push ⟨key, z, clock⟩) (clock + 1)), ?_, ?_, ?_⟩
    · simp [Instr.mapEntry, run_underlying ht, MapKept.run_getObj_map hb, K.check w false hkey, h1, hz, MapKept.run_setObj_map _ hb, Result.andThen, setBlock, goInt]
    · simp [Instr.mapUpdate, run_underlying ht, MapKept.run_getObj_map hb, K.check w false hkey, h1, MapKept.run_setObj_map _ hb, Result.andThen, setBlock, goInt]
    · simp [Instr.lookup, run_underlying ht, MapKept.run_getObj_map hb, K.check w es.isEmpty hkey, h1, hz, Result.andThen]
  · have hj : es[j]? = some e0 := by simpa using h2
    refine .inr ⟨e0.val, e0.born, setBlock w b (.map (es.modify j fun e => { e with key := key }) clock), ?_, ?_⟩
    · simp [Instr.mapEntry, run_underlying ht, MapKept.run_getObj_map hb, K.check w false hkey, h1, hj, h3, K.stays w hkey, MapKept.run_setObj_map _ hb, Result.andThen, setBlock, goInt]
    · have hsame : (es.modify j fun e => { e with key := key }) = es := by
        refine Array.ext_getElem? fun i => ?_
        rw [Array.getElem?_modify]
        split
        · rename_i hji
          subst hji
          rw [hj]
          simp only [Option.map_some, Option.some.injEq]
          rw [← h3]
        · rfl
      rw [Go.ChangeMaps.heap_setBlock_same hb, hsame, hb]

theorem setBlock_twice (w : World) (b : Nat) (o o' : Obj) : setBlock (setBlock w b o) b o' = setBlock w b o' := by
  unfold setBlock
  simp

theorem PrS.bump {w : World} {bm n : Nat} {cnt : Int → Int → Nat} (h : PrS w bm n cnt) (hn : n + 1 < maxLen) {i k : Int} (hi : i64B i) (hk : i64B k) (hc : cnt i k + 1 ≤ 9223372036854775807) :
    ∃ v0 st w1 w2, (Instr.mapEntry 82 (.map (some bm)) (pairV i k)).run Tryz.prog w = .ok (.tuple #[v0, .int .i64 (st : Nat)]) w1 ∧
      (Instr.lookup 82 (.map (some bm)) (pairV i k) false).run Tryz.prog w1 = .ok (.int .i64 (cnt i k)) w1 ∧
      (Instr.entryStore 82 (.map (some bm)) (.int .i64 (st : Nat)) (.int .i64 ((cnt i k : Nat) + 1))).run Tryz.prog w1 = .ok () w2 ∧
      PrS w2 bm (n + 1) (bumpC cnt i k) ∧ w.grownBy w2 (some bm) := by
  have hl := h.look hi hk
  obtain ⟨D, ho, hD⟩ := id h
  obtain ⟨es, clock, hb, F, hs, hDe⟩ := id ho
  have hkey := pair_key i k hi hk
  have hwf : (Lit.int .i64 ((cnt i k : Nat) + 1)).wf = true := WalkArith.wf_i64 (by omega)
  obtain ⟨v0, st, es1, clock1, e1, -, e3⟩ := WideElems.entry_then_store pair_law Tryz.underlying82 int_zero hb F hkey
  obtain ⟨es', clock', e4, e5⟩ := e3 (setBlock w bm (.map es1 clock1)) (.int .i64 ((cnt i k : Nat) + 1)) (Go.ChangeMaps.heap_setBlock_same hb _)
  obtain ⟨w3, e6, ho3, hg3⟩ := ho.update pair_keyed Tryz.underlying82 (by omega) hkey (plainElem_int (H := Unit) Tryz.underlying3 hwf)
  rw [e5] at e6
  simp only [Result.ok.injEq, true_and] at e6
  refine ⟨v0, st, _, _, e1, ?_, e4, ?_, ?_⟩
  · rcases entry_run pair_law Tryz.underlying82 (int_zero w) hb F hkey with ⟨st', w1, f1, f2, f3⟩ | ⟨v', st', w1, f1, f2⟩
    · rw [e1] at f1
      simp only [Result.ok.injEq] at f1
      obtain ⟨-, rfl⟩ := f1
      obtain ⟨w4, e7, ho4, _⟩ := ho.update pair_keyed Tryz.underlying82 (by omega) hkey (plainElem_int (H := Unit) Tryz.underlying3 (by decide : (Lit.int .i64 0).wf = true))
      rw [f2] at e7
      simp only [Result.ok.injEq, true_and] at e7
      subst e7
      rw [hl] at f3
      simp only [Result.ok.injEq, Value.int.injEq, true_and, and_true] at f3
      obtain ⟨c, hrun, hat, _⟩ := ho4.lookup_int pair_keyed Tryz.underlying82 Tryz.underlying3 (int_zero _) hkey
      rw [Go.Maps.atKey_put_same ho.isMap (by trivial)] at hat
      simp only [DataW.lit.injEq, Lit.int.injEq, true_and] at hat
      rw [hrun, ← hat, f3]
    · rw [e1] at f1
      simp only [Result.ok.injEq] at f1
      obtain ⟨-, rfl⟩ := f1
      exact (h.keep f2).look hi hk
  · rw [setBlock_twice, e6]
    refine ⟨_, ho3, fun i' k' hi' hk' => ?_⟩
    unfold bumpC
    by_cases he : i' = i ∧ k' = k
    · obtain ⟨rfl, rfl⟩ := he
      rw [Go.Maps.atKey_put_same ho.isMap (by trivial), if_pos ⟨rfl, rfl⟩]
      simp
    · rw [Go.Maps.atKey_put_other (fun e => he (pairL_inj hi' hk' hi hk e)), if_neg he]
      exact hD i' k' hi' hk'
  · rw [setBlock_twice, e6]; exact hg3
end Go.Proofs.YtbchkldhnjahaaaGreatDoor

namespace Kiln
/-- so many kids have the nodes from one on -/
def kidsSum (l : List Nd) (n : Nat) : Nat := ((l.drop n).map fun x => x.kids.length).sum
theorem kidsSum_step {l : List Nd} {i : Nat} {x : Nd} (h : l[i]? = some x) : kidsSum l i = x.kids.length + kidsSum l (i + 1) := by
  obtain ⟨hi, rfl⟩ := List.getElem?_eq_some_iff.1 h
  unfold kidsSum
  rw [List.drop_eq_getElem_cons hi, List.map_cons, List.sum_cons]
theorem kidsSum_mono (l : List Nd) {i j : Nat} (h : i ≤ j) : kidsSum l j ≤ kidsSum l i := by
  obtain ⟨d, rfl⟩ : ∃ d, j = i + d := ⟨j - i, by omega⟩
  induction d with
  | zero => exact Nat.le_refl _
  | succ d ih =>
    refine Nat.le_trans ?_ (ih (by omega))
    cases hx : l[i + d]? with
    | some x => rw [kidsSum_step hx]; rw [Nat.add_assoc]; omega
    | none =>
      have := List.getElem?_eq_none_iff.1 hx
      unfold kidsSum
      rw [List.drop_eq_nil_of_le (by omega)]; simp
theorem kids_le_sum {l : List Nd} {i : Nat} {x : Nd} (h : l[i]? = some x) : x.kids.length + kidsSum l (i + 1) ≤ kidsSum l 0 := by
  rw [← kidsSum_step h]; exact kidsSum_mono l (Nat.zero_le _)

/-- so many pairs are not met yet -/
def unmet (la lb : Nat) (cnt : Int → Int → Nat) : Nat := ((List.range (la * lb)).filter fun j => cnt ((j / lb : Nat) : Int) ((j % lb : Nat) : Int) == 0).length
theorem filt_le {α : Type} {p q : α → Bool} (h : ∀ x, q x = true → p x = true) : ∀ l : List α, (l.filter q).length ≤ (l.filter p).length
  | [] => Nat.le_refl _
  | x :: l => by
    have ih := filt_le h l
    cases hq : q x with
    | true => rw [List.filter_cons_of_pos hq, List.filter_cons_of_pos (h x hq)]; simp; exact ih
    | false =>
      rw [List.filter_cons_of_neg (by simp [hq])]
      cases hp : p x with
      | true => rw [List.filter_cons_of_pos hp]; simp; omega
      | false => rw [List.filter_cons_of_neg (by simp [hp])]; exact ih
theorem filt_lt {α : Type} {p q : α → Bool} {y : α} (h : ∀ x, q x = true → p x = true) (hp : p y = true) (hq : q y = false) : ∀ l : List α, y ∈ l → (l.filter q).length + 1 ≤ (l.filter p).length
  | [], hy => by simp at hy
  | x :: l, hy => by
    rcases List.mem_cons.1 hy with rfl | hy
    · rw [List.filter_cons_of_neg (by simp [hq]), List.filter_cons_of_pos hp]
      have := filt_le h l
      simp; exact this
    · have ih := filt_lt h hp hq l hy
      cases hqx : q x with
      | true => rw [List.filter_cons_of_pos hqx, List.filter_cons_of_pos (h x hqx)]; simp; omega
      | false =>
        rw [List.filter_cons_of_neg (by simp [hqx])]
        cases hpx : p x with
        | true => rw [List.filter_cons_of_pos hpx]; simp; omega
        | false => rw [List.filter_cons_of_neg (by simp [hpx])]; exact ih
end Kiln
namespace Go.Proofs.YtbchkldhnjahaaaGreatDoor
open Go.RowKit Kiln
open Go.Proofs

theorem unmet_bump {la lb i k : Nat} {cnt : Int → Int → Nat} (hi : i < la) (hk : k < lb) (h0 : cnt i k = 0) : unmet la lb (bumpC cnt i k) + 1 ≤ unmet la lb cnt := by
  unfold unmet
  have hd : (i * lb + k) / lb = i := by
    rw [Nat.mul_comm, Nat.mul_add_div (by omega), Nat.div_eq_of_lt hk, Nat.add_zero]
  have hm : (i * lb + k) % lb = k := by
    rw [Nat.mul_comm, Nat.mul_add_mod, Nat.mod_eq_of_lt hk]
  refine filt_lt (y := i * lb + k) (fun j hj => ?_) ?_ ?_ _ ?_
  · simp only [beq_iff_eq, bumpC] at hj ⊢
    split at hj
    · omega
    · exact hj
  · simp only [hd, hm, beq_iff_eq]; exact h0
  · simp only [hd, hm, bumpC, and_self, if_true]; rfl
  · rw [List.mem_range]
    calc i * lb + k < i * lb + lb := by omega
      _ = (i + 1) * lb := by rw [Nat.add_mul, Nat.one_mul]
      _ ≤ la * lb := Nat.mul_le_mul_right _ hi
theorem unmet_more {la lb : Nat} {cnt : Int → Int → Nat} {i k : Int} : unmet la lb (bumpC cnt i k) ≤ unmet la lb cnt := by
  unfold unmet
  refine filt_le (fun j hj => ?_) _
  simp only [beq_iff_eq, bumpC] at hj ⊢
  split at hj
  · omega
  · exact hj
theorem unmet_le (la lb : Nat) (cnt : Int → Int → Nat) : unmet la lb cnt ≤ la * lb := by
  unfold unmet
  have := List.length_filter_le (fun j => cnt ((j / lb : Nat) : Int) ((j % lb : Nat) : Int) == 0) (List.range (la * lb))
  simpa using this

/-- pairs as cells -/
def pairs (S : List (Int × Int)) : List Value := S.flatMap fun p => [.int .i64 p.1, .int .i64 p.2]
theorem pairs_len (S : List (Int × Int)) : (pairs S).length = S.length * 2 := by
  induction S with
  | nil => rfl
  | cons p S ih => simp only [pairs, List.flatMap_cons, List.length_append, List.length_cons, List.length_nil] at ih ⊢; omega
theorem pairs_app (S T : List (Int × Int)) : pairs (S ++ T) = pairs S ++ pairs T := by simp [pairs]
/-- a stack of pairs, in memory -/
def StkS (B : Nat) (w : World) (v : Value) (S : List (Int × Int)) : Prop := w.ownsRow B 84 2 v S.length (pairs S)
theorem StkS.lt {B : Nat} {w : World} {v : Value} {S : List (Int × Int)} (h : StkS B w v S) : ∀ k, v.ownBlock = some k → B ≤ k ∧ k < w.heap.size := World.ownsRow.lt h
theorem StkS.keep {B : Nat} {w w' : World} {v : Value} {S : List (Int × Int)} (h : StkS B w v S) (hk : SameAt w w' v) : StkS B w' v S := row_keep h hk
theorem StkS.below {B : Nat} {w w' : World} {v : Value} {S : List (Int × Int)} (h : StkS B w v S) (hb : Below w.heap.size w w') : StkS B w' v S := h.keep fun k e => hb.block k (h.lt k e).2
theorem StkS.form {B : Nat} {w : World} {v : Value} {S : List (Int × Int)} (h : StkS B w v S) : ∃ a cap, v = .slice a S.length cap := row_form h
theorem StkS.one {B : Nat} {w : World} (i k : Int) (hB : B ≤ w.heap.size) : StkS B (w.alloc (.cells #[.int .i64 i, .int .i64 k] 84)) (.slice (some ⟨w.heap.size, 0, none⟩) 1 1) [(i, k)] :=
  ⟨by simp [pairs], .inr ⟨w.heap.size, 1, _, rfl, hB, heap_alloc_new w _, Nat.le_refl _, by simp [maxLen], by simp, by simp [pairs]⟩⟩
theorem StkS.top {B : Nat} {w : World} {v : Value} {S : List (Int × Int)} {p : Int × Int} (h : StkS B w v (S ++ [p])) : ∃ g cap, v = .slice (some ⟨g, 0, none⟩) (S.length + 1) cap ∧ S.length + 1 ≤ cap ∧ cap ≤ maxLen ∧
    w.cell? ⟨g, S.length * 2, none⟩ = some (.int .i64 p.1) ∧ w.cell? ⟨g, S.length * 2 + 1, none⟩ = some (.int .i64 p.2) ∧ StkS B w (.slice (some ⟨g, 0, none⟩) S.length cap) S := by
  have hl : (S ++ [p]).length = S.length + 1 := by simp
  rcases id h.2 with ⟨_, h0⟩ | ⟨g, cap, cur, hv, hb, hg, hle, hm, hs, hx⟩
  · simp at h0
  · rw [hl] at hv hle hx
    subst hv
    have hc : ∀ (j : Nat) u, (pairs (S ++ [p]))[j]? = some u → w.cell? ⟨g, j, none⟩ = some u := fun j u hu => by
      have := World.ownsRow.cells h (g := g) rfl j u hu
      rwa [addr_add0] at this
    refine ⟨g, cap, rfl, hle, hm, hc _ _ ?_, hc _ _ ?_, pairs_len S, .inr ⟨g, cap, cur, rfl, hb, hg, by omega, hm, hs, ?_⟩⟩
    · rw [pairs_app, List.getElem?_append_right (by rw [pairs_len]; omega), pairs_len]; simp [pairs]
    · rw [pairs_app, List.getElem?_append_right (by rw [pairs_len]; omega), pairs_len]; simp [pairs]
    · rw [pairs_app] at hx
      have h2 := congrArg (List.take (S.length * 2)) hx
      have h3 : (pairs S ++ pairs [p]).take (S.length * 2) = pairs S := by
        rw [List.take_append_of_le_length (by rw [pairs_len]; exact Nat.le_refl _)]
        exact List.take_of_length_le (by rw [pairs_len]; exact Nat.le_refl _)
      rw [List.take_take, Nat.min_eq_left (by omega), h3] at h2
      exact h2
theorem pop_run (g n cap : Nat) (w : World) (h : n ≤ cap) : (Instr.sliceAt 85 (.slice (some ⟨g, 0, none⟩) (n + 1) cap) none (some (.int .i64 (n : Nat))) none).run Tryz.prog w = .ok (.slice (some ⟨g, 0, none⟩) n cap) w := by
  have h2 : (n : Int) ≤ cap := by omega
  simp [go_sem, Tryz.underlying85, h2]
end Go.Proofs.YtbchkldhnjahaaaGreatDoor

namespace Go.Proofs.YtbchkldhnjahaaaGreatDoor
open Go.RowKit Kiln
open Go.Proofs

theorem strs_at {w : World} {a : Option Addr} {n cap : Nat} {l : List Bytes} (h : Strs w (.slice a n cap) l) {i : Nat} {x : Bytes} (hi : l[i]? = some x) : ∃ b off, a = some ⟨b, off, none⟩ ∧ w.cell? ⟨b, off + i, none⟩ = some (str x) := by
  obtain ⟨a', cap', hv, -, hl⟩ := h
  simp only [Value.slice.injEq] at hv
  obtain ⟨rfl, -, -⟩ := hv
  obtain ⟨b, off, rfl, hx⟩ := hl (by rintro rfl; simp at hi)
  exact ⟨b, off, rfl, hx i x hi⟩
theorem ne_at {α : Type} {a b : List α} {i : Nat} {x y : α} (ha : a[i]? = some x) (hb : b[i]? = some y) (h : x ≠ y) : a ≠ b := by
  rintro rfl
  rw [ha] at hb
  exact h (Option.some.inj hb)
theorem take_more {α : Type} {a b : List α} {i : Nat} {x : α} (h : a.take i = b.take i) (ha : a[i]? = some x) (hb : b[i]? = some x) : a.take (i + 1) = b.take (i + 1) := by
  rw [take_snoc ha, take_snoc hb, h]
theorem str_ne {x y : Bytes} (h : x ≠ y) : ((⟨x.toArray⟩ : ByteArray) == ⟨y.toArray⟩) = false := by
  cases hb : ((⟨x.toArray⟩ : ByteArray) == ⟨y.toArray⟩) with
  | false => rfl
  | true =>
    refine absurd ?_ h
    have := congrArg (fun s : ByteArray => s.data.toList) ((MapKept.bytes_beq _ _).1 hb)
    simpa using this
theorem str_same (x : Bytes) : ((⟨x.toArray⟩ : ByteArray) == ⟨x.toArray⟩) = true := (MapKept.bytes_beq _ _).2 rfl

set_option maxRecDepth 100000 in
set_option maxHeartbeats 2000000 in
theorem ints_eq_any (w : World) (av bv : Value) (a b : List Int) (ha : Ints w av a) (hb : Ints w bv b) :
    Calls Tryz.prog 35 #[av, bv] w fun e w' => e = .returned (.bool (a == b)) ∧ ∃ m, w' = w.drewN m := by
  have HA := Lib.hid ha
  have HB := Lib.hid hb
  obtain ⟨aa, acap, rfl, hac, ham, -⟩ := ha
  obtain ⟨ba, bcap, rfl, hbc, hbm, -⟩ := hb
  unfold maxLen at ham hbm
  by_cases hlen : a.length = b.length
  · have q0 : ((a.length : Int) != (b.length : Int)) = false := by rw [hlen]; simp
    go_enter Tryz.func35, Tryz.ntmps35
    go_wp2_with fail
    have HLE := Lib.hid hlen
    clear hlen q0
    go_loopg [5] (a.length + 1) (fun g v wr => ∃ (t : Nat) (wx : World), wx = wr ∧ v = .int .i64 (t : Nat) ∧ t + g = a.length + 1 ∧ t ≤ a.length ∧ a.take t = b.take t ∧ ∃ m, wr = w.drewN m)
    case atStart => exact ⟨0, _, rfl, rfl, by omega, Nat.zero_le _, by simp, 0, rfl⟩
    case round =>
      obtain ⟨t, wx, rfl, rfl, hg, ht, hab, m, hbx⟩ := hrel
      have HBX := Lib.hid hbx
      have hce : ∀ ad, wx.cell? ad = w.cell? ad := fun ad => by rw [hbx]; rfl
      have HAB := Lib.hid hab
      clear hab
      by_cases hlt : t < a.length
      · obtain ⟨x, hx⟩ : ∃ x, a[t]? = some x := ⟨_, List.getElem?_eq_getElem hlt⟩
        obtain ⟨y, hy⟩ : ∃ y, b[t]? = some y := ⟨_, List.getElem?_eq_getElem (by have := HLE.out; omega)⟩
        obtain ⟨fu, rfl⟩ : ∃ fu, gk = fu + 1 := ⟨gk - 1, by omega⟩
        obtain ⟨ab, aoff, rfl, hc1⟩ := ints_at HA.out hx
        obtain ⟨bb, boff, rfl, hc2⟩ := ints_at HB.out hy
        have e1 : wx.cell? ⟨ab, aoff + t, none⟩ = some (.int .i64 x) := (hce _).trans hc1
        have e2 : wx.cell? ⟨bb, boff + t, none⟩ = some (.int .i64 y) := (hce _).trans hc2
        have hti : (t : Int) < (a.length : Int) := by omega
        have hti2 : (t : Int) < (b.length : Int) := by have := HLE.out; omega
        have HX := Lib.hid hx
        have HY := Lib.hid hy
        clear hc1 hc2 hx hy hbx hce
        by_cases hxy : x = y
        · subst hxy
          have q1 : (x != x) = false := by simp
          go_wp2_with fail
          go_quiet (fail)
          go_wp2_with fail
          go_roundg fu
          case measure => omega
          case rel => exact ⟨t + 1, _, rfl, rfl, by omega, by omega, take_more HAB.out HX.out HY.out, m + nq, by rw [HBX.out, World.drewN_drewN]⟩
        · have q1 : (x != y) = true := by rw [bne_iff_ne]; exact hxy
          have HN := Lib.hid (show (a == b) = false by rw [beq_eq_false_iff_ne]; exact ne_at HX.out HY.out hxy)
          go_wp2_with fail
          go_quiet (fail)
          go_wp2_with fail
          go_ret
          exact ⟨by rw [HN.out]; rfl, m + nq, by rw [HBX.out, World.drewN_drewN]⟩
      · obtain rfl : t = a.length := by omega
        have HE : RowKit.Hid ((a == b) = true) := by
          show _ = _
          have h1 := HAB.out
          rw [List.take_length, HLE.out, List.take_length] at h1
          rw [beq_iff_eq]; exact h1
        clear hbx hce
        go_wp2_with fail
        go_ret
        exact ⟨by rw [HE.out]; rfl, m, HBX.out⟩
  · have q0 : ((a.length : Int) != (b.length : Int)) = true := by rw [bne_iff_ne]; omega
    have HN := Lib.hid (show (a == b) = false by rw [beq_eq_false_iff_ne]; rintro rfl; exact hlen rfl)
    clear hlen
    go_enter Tryz.func35, Tryz.ntmps35
    go_wp2_with fail
    go_ret
    exact ⟨by rw [HN.out]; rfl, 0, rfl⟩
set_option maxRecDepth 100000 in
set_option maxHeartbeats 2000000 in
theorem strings_eq_any (w : World) (av bv : Value) (a b : List Bytes) (ha : Strs w av a) (hb : Strs w bv b) (hbm : b.length ≤ 9223372036854775807) :
    Calls Tryz.prog 34 #[av, bv] w fun e w' => e = .returned (.bool (a == b)) ∧ ∃ m, w' = w.drewN m := by
  have HA := Lib.hid ha
  have HB := Lib.hid hb
  obtain ⟨aa, acap, rfl, hac, -⟩ := ha
  obtain ⟨ba, bcap, rfl, hbc, -⟩ := hb
  by_cases hlen : a.length = b.length
  · have q0 : ((a.length : Int) != (b.length : Int)) = false := by rw [hlen]; simp
    go_enter Tryz.func34, Tryz.ntmps34
    go_wp2_with fail
    have HLE := Lib.hid hlen
    clear hlen q0
    go_loopg [5] (a.length + 1) (fun g v wr => ∃ (t : Nat) (wx : World), wx = wr ∧ v = .int .i64 (t : Nat) ∧ t + g = a.length + 1 ∧ t ≤ a.length ∧ a.take t = b.take t ∧ ∃ m, wr = w.drewN m)
    case atStart => exact ⟨0, _, rfl, rfl, by omega, Nat.zero_le _, by simp, 0, rfl⟩
    case round =>
      obtain ⟨t, wx, rfl, rfl, hg, ht, hab, m, hbx⟩ := hrel
      have HBX := Lib.hid hbx
      have hce : ∀ ad, wx.cell? ad = w.cell? ad := fun ad => by rw [hbx]; rfl
      have HAB := Lib.hid hab
      clear hab
      by_cases hlt : t < a.length
      · obtain ⟨x, hx⟩ : ∃ x, a[t]? = some x := ⟨_, List.getElem?_eq_getElem hlt⟩
        obtain ⟨y, hy⟩ : ∃ y, b[t]? = some y := ⟨_, List.getElem?_eq_getElem (by have := HLE.out; omega)⟩
        obtain ⟨fu, rfl⟩ : ∃ fu, gk = fu + 1 := ⟨gk - 1, by omega⟩
        obtain ⟨ab, aoff, rfl, hc1⟩ := strs_at HA.out hx
        obtain ⟨bb, boff, rfl, hc2⟩ := strs_at HB.out hy
        have e1 : wx.cell? ⟨ab, aoff + t, none⟩ = some (str x) := (hce _).trans hc1
        have e2 : wx.cell? ⟨bb, boff + t, none⟩ = some (str y) := (hce _).trans hc2
        have hti : (t : Int) < (a.length : Int) := by omega
        have hti2 : (t : Int) < (b.length : Int) := by have := HLE.out; omega
        have HX := Lib.hid hx
        have HY := Lib.hid hy
        clear hc1 hc2 hx hy hbx hce
        by_cases hxy : x = y
        · subst hxy
          have q1 := str_same x
          have q2 : ((⟨x.toArray⟩ : ByteArray) != ⟨x.toArray⟩) = false := by rw [bne, q1]; rfl
          go_wp2_with fail
          go_quiet (fail)
          go_wp2_with fail
          go_roundg fu
          case measure => omega
          case rel => exact ⟨t + 1, _, rfl, rfl, by omega, by omega, take_more HAB.out HX.out HY.out, m + nq, by rw [HBX.out, World.drewN_drewN]⟩
        · have q1 : (x == y) = false := by rw [beq_eq_false_iff_ne]; exact hxy
          have HN := Lib.hid (show (a == b) = false by rw [beq_eq_false_iff_ne]; exact ne_at HX.out HY.out hxy)
          go_wp2_with fail
          go_quiet (fail)
          go_wp2_with fail
          go_ret
          exact ⟨by rw [HN.out]; rfl, m + nq, by rw [HBX.out, World.drewN_drewN]⟩
      · obtain rfl : t = a.length := by omega
        have HE : RowKit.Hid ((a == b) = true) := by
          show _ = _
          have h1 := HAB.out
          rw [List.take_length, HLE.out, List.take_length] at h1
          rw [beq_iff_eq]; exact h1
        clear hbx hce
        go_wp2_with fail
        go_ret
        exact ⟨by rw [HE.out]; rfl, m, HBX.out⟩
  · have q0 : ((a.length : Int) != (b.length : Int)) = true := by rw [bne_iff_ne]; omega
    have HN := Lib.hid (show (a == b) = false by rw [beq_eq_false_iff_ne]; rintro rfl; exact hlen rfl)
    clear hlen
    go_enter Tryz.func34, Tryz.ntmps34
    go_wp2_with fail
    go_ret
    exact ⟨by rw [HN.out]; rfl, 0, rfl⟩
end Go.Proofs.YtbchkldhnjahaaaGreatDoor

namespace Kiln
/-- a pair that is alike, its kids being such pairs -/
def MetOK (a b : List Nd) (R : Int → Int → Prop) (i k : Int) : Prop := ∃ x y, nodeAt a i = some x ∧ nodeAt b k = some y ∧ x.kind = y.kind ∧ x.text = y.text ∧ x.path = y.path ∧ x.kids.length = y.kids.length ∧
    ∀ (j : Nat) p q, x.kids[j]? = some p → y.kids[j]? = some q → p < i ∧ q < k ∧ R p q
theorem MetOK.mono {a b : List Nd} {R R' : Int → Int → Prop} {i k : Int} (h : MetOK a b R i k) (hr : ∀ p q, R p q → R' p q) : MetOK a b R' i k := by
  obtain ⟨x, y, h1, h2, h3, h4, h5, h6, h7⟩ := h
  exact ⟨x, y, h1, h2, h3, h4, h5, h6, fun j p q hp hq => let ⟨u, v, z⟩ := h7 j p q hp hq; ⟨u, v, hr _ _ z⟩⟩
/-- what holds at each round's head -/
structure SI (a b : List Nd) (i k : Int) (B : Bool) (S : List (Int × Int)) (cnt : Int → Int → Nat) : Prop where
  ok : B = true → ∀ p ∈ S, SameT a b p.1 p.2
  met : ∀ i' k', cnt i' k' ≠ 0 → MetOK a b (fun p q => cnt p q ≠ 0 ∨ (p, q) ∈ S) i' k'
  root : cnt i k ≠ 0 ∨ (i, k) ∈ S
  depth : ∀ (s : Nat) p, S[s]? = some p → 0 ≤ p.1 → s ≤ kidsSum a (p.1.toNat + 1)
  len : S.length ≤ kidsSum a 0 + 1
theorem SI.done {a b : List Nd} {i k : Int} {B : Bool} {cnt : Int → Int → Nat} (h : SI a b i k B [] cnt) : SameT a b i k :=
  same_closed (M := fun p q => cnt p q ≠ 0) (fun p q hpq => by
    obtain ⟨x, y, h1, h2, h3, h4, h5, h6, h7⟩ := h.met p q hpq
    exact ⟨x, y, h1, h2, h3, h4, h5, h6, fun j u v hu hv => let ⟨z1, z2, z3⟩ := h7 j u v hu hv; ⟨z1, z2, z3.resolve_right (by simp)⟩⟩) (i.toNat + 1) i k (by omega) (h.root.resolve_right (by simp))
end Kiln
namespace Go.Proofs.YtbchkldhnjahaaaGreatDoor
open Go.RowKit Kiln
open Go.Proofs

theorem bumpC_ge (cnt : Int → Int → Nat) (i k p q : Int) (h : cnt p q ≠ 0) : bumpC cnt i k p q ≠ 0 := by
  unfold bumpC; split
  · omega
  · exact h
theorem bumpC_self (cnt : Int → Int → Nat) (i k : Int) : bumpC cnt i k i k = cnt i k + 1 := by simp [bumpC]
theorem bumpC_other (cnt : Int → Int → Nat) {i k p q : Int} (h : ¬ (p = i ∧ q = k)) : bumpC cnt i k p q = cnt p q := by unfold bumpC; rw [if_neg h]
/-- a pair that was met before is passed over -/
theorem SI.again {a b : List Nd} {i k i' k' : Int} {B : Bool} {S : List (Int × Int)} {cnt : Int → Int → Nat} (h : SI a b i k B (S ++ [(i', k')]) cnt) (hc : cnt i' k' ≠ 0) : SI a b i k B S (bumpC cnt i' k') := by
  have hR : ∀ p q, cnt p q ≠ 0 ∨ (p, q) ∈ S ++ [(i', k')] → bumpC cnt i' k' p q ≠ 0 ∨ (p, q) ∈ S := fun p q hpq => by
    rcases hpq with h1 | h1
    · exact .inl (bumpC_ge _ _ _ _ _ h1)
    · rcases List.mem_append.1 h1 with h1 | h1
      · exact .inr h1
      · simp only [List.mem_singleton, Prod.mk.injEq] at h1
        obtain ⟨rfl, rfl⟩ := h1
        exact .inl (bumpC_ge _ _ _ _ _ hc)
  refine ⟨fun hb p hp => h.ok hb p (List.mem_append.2 (.inl hp)), fun p q hpq => ?_, hR _ _ h.root, fun s p hs => h.depth s p ?_, ?_⟩
  · have : cnt p q ≠ 0 := by
      by_cases he : p = i' ∧ q = k'
      · obtain ⟨rfl, rfl⟩ := he; exact hc
      · rwa [bumpC_other cnt he] at hpq
    exact (h.met p q this).mono hR
  · rw [List.getElem?_append_left (List.getElem?_eq_some_iff.1 hs).1]; exact hs
  · have := h.len; simp at this; omega
/-- a new pair: its kids are laid on the stack -/
theorem SI.push {a b : List Nd} {i k i' k' : Int} {B : Bool} {S : List (Int × Int)} {cnt : Int → Int → Nat} {x y : Nd} (h : SI a b i k B (S ++ [(i', k')]) cnt) (hx : nodeAt a i' = some x) (hy : nodeAt b k' = some y)
    (e1 : x.kind = y.kind) (e2 : x.text = y.text) (e3 : x.path = y.path) (e4 : x.kids.length = y.kids.length) (hlow : ∀ (j : Nat) p q, x.kids[j]? = some p → y.kids[j]? = some q → p < i' ∧ q < k') : SI a b i k B (S ++ x.kids.zip y.kids) (bumpC cnt i' k') := by
  have hi' := (nodeAt_some hx).1
  have hxn : a[i'.toNat]? = some x := by unfold nodeAt at hx; rw [if_pos hi'] at hx; exact hx
  have hzip : ∀ (j : Nat) p q, x.kids[j]? = some p → y.kids[j]? = some q → (p, q) ∈ x.kids.zip y.kids := fun j p q hp hq => List.mem_of_getElem? (i := j) (by rw [List.getElem?_zip_eq_some]; exact ⟨hp, hq⟩)
  have hR : ∀ p q, cnt p q ≠ 0 ∨ (p, q) ∈ S ++ [(i', k')] → bumpC cnt i' k' p q ≠ 0 ∨ (p, q) ∈ S ++ x.kids.zip y.kids := fun p q hpq => by
    rcases hpq with h1 | h1
    · exact .inl (bumpC_ge _ _ _ _ _ h1)
    · rcases List.mem_append.1 h1 with h1 | h1
      · exact .inr (List.mem_append.2 (.inl h1))
      · simp only [List.mem_singleton, Prod.mk.injEq] at h1
        obtain ⟨rfl, rfl⟩ := h1
        exact .inl (by rw [bumpC_self]; omega)
  have hdep : S.length ≤ kidsSum a (i'.toNat + 1) := h.depth S.length (i', k') (by rw [List.getElem?_append_right (Nat.le_refl _)]; simp) hi'
  have hsum := kidsSum_step hxn
  refine ⟨fun hb p hp => ?_, fun p q hpq => ?_, hR _ _ h.root, fun s p hs hp0 => ?_, ?_⟩
  · rcases List.mem_append.1 hp with hp | hp
    · exact h.ok hb p (List.mem_append.2 (.inl hp))
    · obtain ⟨x', y', hx', hy', -, -, -, -, hk⟩ := (h.ok hb (i', k') (List.mem_append.2 (.inr (by simp)))).head
      rw [hx] at hx'; rw [hy] at hy'
      simp only [Option.some.injEq] at hx' hy'
      subst hx'; subst hy'
      obtain ⟨j, hj⟩ := List.mem_iff_getElem?.1 hp
      rw [show p = (p.1, p.2) from rfl, List.getElem?_zip_eq_some] at hj
      exact (hk j p.1 p.2 hj.1 hj.2).2.2
  · by_cases he : p = i' ∧ q = k'
    · obtain ⟨rfl, rfl⟩ := he
      exact ⟨x, y, hx, hy, e1, e2, e3, e4, fun j u v hu hv => ⟨(hlow j u v hu hv).1, (hlow j u v hu hv).2, .inr (List.mem_append.2 (.inr (hzip j u v hu hv)))⟩⟩
    · rw [bumpC_other cnt he] at hpq
      exact (h.met p q hpq).mono hR
  · by_cases hsl : s < S.length
    · rw [List.getElem?_append_left hsl] at hs
      exact h.depth s p (by rw [List.getElem?_append_left hsl]; exact hs) hp0
    · rw [List.getElem?_append_right (by omega)] at hs
      have hsz := (List.getElem?_eq_some_iff.1 hs).1
      rw [List.length_zip] at hsz
      rw [show p = (p.1, p.2) from rfl, List.getElem?_zip_eq_some] at hs
      have h1 := (hlow _ p.1 p.2 hs.1 hs.2).1
      have h2 := kidsSum_mono a (i := p.1.toNat + 1) (j := i'.toNat) (by omega)
      omega
  · have h2 := kidsSum_mono a (i := 0) (j := i'.toNat) (by omega)
    rw [List.length_append, List.length_zip]
    omega

theorem oldKept {w w' : World} {k : Nat} {o : Obj} (z : w.heap[k]? = some o) (h : Below w.heap.size w w') : w'.heap[k]? = some o := (h.block _ (Array.getElem?_eq_some_iff.1 z).1).trans z
theorem infoPair : (Tryz.prog.info? 84).map (fun i => (i.zero, i.size, i.bytes)) = some (some (.agg #[.int .i64 0, .int .i64 0]), 2, 16) := by kernel_rfl
theorem one_pair (p q : Int) : ∀ u ∈ [Value.int .i64 p, .int .i64 q], u.oneCell' = true := by
  intro u hu
  simp only [List.mem_cons, List.not_mem_nil, or_false] at hu
  rcases hu with rfl | rfl <;> rfl
theorem i64B_nat {n : Nat} (h : n ≤ 9223372036854775807) : i64B (n : Int) := by unfold i64B; exact WalkArith.wf_i64 (by omega)

set_option maxRecDepth 100000 in
set_option maxHeartbeats 8000000 in
theorem same_any (w : World) (av bv : Value) (a b : List Nd) (i k : Int) (B : Bool) (hB : B = true ↔ SameT a b i k) (ha : NdT w av a) (hb : NdT w bv b) (hla : a.length ≤ 1048576) (hlb : b.length ≤ 1048576) (hka : kidsSum a 0 ≤ 1048576) (hpa : ∀ x ∈ a, x.path.length ≤ 1048576) :
    Calls Tryz.prog 17 #[av, .int .i64 i, bv, .int .i64 k] w fun e w' => e = .returned (.bool B) ∧ Below w.heap.size w w' := by
  have HA := Lib.hid ha
  have HB := Lib.hid hb
  have HBB := Lib.hid hB
  have HPA := Lib.hid hpa
  obtain ⟨aa, acap, rfl, -⟩ := ha
  obtain ⟨ba, bcap, rfl, -⟩ := hb
  have hmk : (Instr.makeMap 82 none).run Tryz.prog w = .ok (.map (some w.heap.size)) (w.alloc (.map #[] 0)) := rfl
  obtain ⟨KS, hKS⟩ : ∃ KS, kidsSum a 0 = KS := ⟨_, rfl⟩
  obtain ⟨G0, hG0⟩ : ∃ G0, (KS + 1) * (a.length * b.length) + 3 = G0 := ⟨_, rfl⟩
  have hG1 : G0 ≤ 2305843009213693952 := by
    rw [← hG0]
    have h1 : a.length * b.length ≤ 1048576 * 1048576 := Nat.mul_le_mul hla hlb
    have h2 : (KS + 1) * (a.length * b.length) ≤ 1048577 * (1048576 * 1048576) := Nat.mul_le_mul (by omega) h1
    omega
  have HP0 := Lib.hid ((PrS.made w).keep (w' := (w.alloc (.map #[] 0)).alloc (.cells #[.int .i64 i, .int .i64 k] 84)) (Below.heap_alloc _ _ _ (by simp)))
  have HS0 := Lib.hid (StkS.one (B := w.heap.size + 1) (w := w.alloc (.map #[] 0)) i k (by simp))
  have HB0 := Lib.hid (bl_al (bl_al (Below.refl _ w) (.map #[] 0)) (.cells #[.int .i64 i, .int .i64 k] 84))
  have hun := unmet_le a.length b.length (fun _ _ => 0)
  have hmul : (KS + 1) * unmet a.length b.length (fun _ _ => 0) ≤ (KS + 1) * (a.length * b.length) := Nat.mul_le_mul_left _ hun
  have HI0 : RowKit.Hid (SI a b i k B [(i, k)] (fun _ _ => 0)) := ⟨fun h p hp => by
      simp only [List.mem_singleton] at hp; subst hp; exact HBB.out.1 h, fun _ _ h => absurd rfl h, .inr (by simp), fun s p hs _ => by
      cases s with
      | zero => exact Nat.zero_le _
      | succ s => simp at hs, by simp⟩
  have HST : RowKit.Hid ((KS + 1) * unmet a.length b.length (fun _ _ => 0) + 1 + 1 ≤ G0) := by
    show (KS + 1) * unmet a.length b.length (fun _ _ => 0) + 1 + 1 ≤ G0
    omega
  have HKS := Lib.hid hKS
  clear hB hpa hun hmul hG0 hKS
  go_enter Tryz.func17, Tryz.ntmps17
  go_wp2_with fail
  clear hmk
  go_loopg [10] (G0) (fun g v wr => ∃ (S : List (Int × Int)) (cnt : Int → Int → Nat) (n : Nat) (wx : World), wx = wr ∧ StkS (w.heap.size + 1) wr v S ∧ PrS wr w.heap.size n cnt ∧ Below w.heap.size w wr ∧ w.heap.size + 1 ≤ wr.heap.size ∧ SI a b i k B S cnt ∧ (KS + 1) * unmet a.length b.length cnt + S.length + 1 ≤ g ∧ n + g ≤ G0 ∧ ∀ p q, cnt p q + g ≤ G0)
  case atStart => exact ⟨_, _, 0, _, rfl, by simpa using HS0.out, HP0.out, HB0.out, by simp, HI0.out, by have := HST.out; simpa using this, by omega, by intros; simp⟩
  case round =>
    clear HP0 HS0 HB0 HI0 HST
    obtain ⟨S, cnt, n, wx1, rfl, hs, hp, hb, hsz1, hi, hg, hng, hcg⟩ := hrel
    have HPR := Lib.hid hp
    have HBL := Lib.hid hb
    have HSI := Lib.hid hi
    have HCG := Lib.hid hcg
    by_cases hS : S = []
    · subst hS
      obtain ⟨sa, scap, rfl⟩ := hs.form
      have HBT : RowKit.Hid (B = true) := HBB.out.2 hi.done
      clear hs hp hb hi hcg
      go_wp2_with fail
      go_ret
      exact ⟨by rw [HBT.out]; rfl, HBL.out⟩
    · obtain ⟨S', p, rfl⟩ : ∃ S' p, S = S' ++ [p] := ⟨S.dropLast, S.getLast hS, (List.dropLast_concat_getLast hS).symm⟩
      obtain ⟨pi, pk⟩ := p
      obtain ⟨fu, rfl⟩ : ∃ fu, gk = fu + 1 := ⟨gk - 1, by omega⟩
      have hSl := hi.len
      rw [HKS.out] at hSl
      simp only [List.length_append, List.length_cons, List.length_nil] at hSl hg
      obtain ⟨sg, scap, rfl, hsc, hsm, c0, c1, hcut⟩ := hs.top
      have HSC := Lib.hid hcut
      have HS1 := Lib.hid (StkS.lt hcut)
      have hpop := fun w => pop_run sg S'.length scap w (by omega)
      unfold maxLen at hsm
      have hix : (S'.length : Int) < (S'.length : Int) + 1 := by omega
      have HG := Lib.hid hg
      clear hs hp hb hi hcg hS hcut hg
      by_cases h1 : pi < 0
      · have HF : RowKit.Hid (B = false) := by
          show _ = _
          cases hBv : B with
          | false => rfl
          | true => obtain ⟨x, y, hx, hy, _⟩ := (HSI.out.ok hBv (pi, pk) (by simp)).head; have := nodeAt_some hx; have := nodeAt_some hy; omega
        go_wp2_with fail
        go_ret
        exact ⟨by rw [HF.out]; rfl, bl_al HBL.out _⟩
      by_cases h2 : (a.length : Int) ≤ pi
      · have HF : RowKit.Hid (B = false) := by
          show _ = _
          cases hBv : B with
          | false => rfl
          | true => obtain ⟨x, y, hx, hy, _⟩ := (HSI.out.ok hBv (pi, pk) (by simp)).head; have := nodeAt_some hx; have := nodeAt_some hy; omega
        go_wp2_with fail
        go_ret
        exact ⟨by rw [HF.out]; rfl, bl_al HBL.out _⟩
      by_cases h3 : pk < 0
      · have HF : RowKit.Hid (B = false) := by
          show _ = _
          cases hBv : B with
          | false => rfl
          | true => obtain ⟨x, y, hx, hy, _⟩ := (HSI.out.ok hBv (pi, pk) (by simp)).head; have := nodeAt_some hx; have := nodeAt_some hy; omega
        go_wp2_with fail
        go_ret
        exact ⟨by rw [HF.out]; rfl, bl_al HBL.out _⟩
      by_cases h4 : (b.length : Int) ≤ pk
      · have HF : RowKit.Hid (B = false) := by
          show _ = _
          cases hBv : B with
          | false => rfl
          | true => obtain ⟨x, y, hx, hy, _⟩ := (HSI.out.ok hBv (pi, pk) (by simp)).head; have := nodeAt_some hx; have := nodeAt_some hy; omega
        go_wp2_with fail
        go_ret
        exact ⟨by rw [HF.out]; rfl, bl_al HBL.out _⟩
      obtain ⟨iN, rfl⟩ : ∃ iN : Nat, pi = iN := ⟨pi.toNat, by omega⟩
      obtain ⟨kN, rfl⟩ : ∃ kN : Nat, pk = kN := ⟨pk.toNat, by omega⟩
      obtain ⟨wA, hwA⟩ : ∃ wA, wx1.alloc (.cells #[.int .i64 (iN : Nat), .int .i64 (kN : Nat)] 84) = wA := ⟨_, rfl⟩
      have hA1 : wA.heap[wx1.heap.size]? = some (.cells #[.int .i64 (iN : Nat), .int .i64 (kN : Nat)] 84 (0, 0)) := by rw [← hwA]; exact heap_alloc_new _ _
      have cA0 : wA.cell? ⟨wx1.heap.size, 0, none⟩ = some (.int .i64 (iN : Nat)) := cell3 hA1 0 _ rfl
      have cA1 : wA.cell? ⟨wx1.heap.size, 1, none⟩ = some (.int .i64 (kN : Nat)) := cell3 hA1 1 _ rfl
      have hPA : PrS wA w.heap.size n cnt := by rw [← hwA]; exact HPR.out.keep (Below.heap_alloc _ _ _ HPR.out.lt)
      have hSA : StkS (w.heap.size + 1) wA (.slice (some ⟨sg, 0, none⟩) S'.length scap) S' := by rw [← hwA]; exact HSC.out.below (bl_al (Below.refl _ _) _)
      have hBA : Below w.heap.size w wA := by rw [← hwA]; exact bl_al HBL.out _
      have wfi : i64B (iN : Int) := i64B_nat (by omega)
      have wfk : i64B (kN : Int) := i64B_nat (by omega)
      obtain ⟨cc, hcc⟩ : ∃ cc, cnt iN kN = cc := ⟨_, rfl⟩
      have hcb := HCG.out iN kN
      have hPD : PrS wA.drew w.heap.size n cnt := hPA.keep rfl
      have hlk := hPD.look wfi wfk
      obtain ⟨v0, st, w1, w2, e1, e2, e3, hP2, hg2⟩ := hPD.bump (by unfold maxLen; omega) wfi wfk (by omega)
      rw [hcc] at hlk e2 e3 hcb
      have hl2 := hP2.look wfi wfk
      have hl3 := (hP2.keep (w' := w2.drew) rfl).look wfi wfk
      have hbc : bumpC cnt iN kN iN kN = cc + 1 := by simp [bumpC, hcc]
      rw [hbc] at hl2 hl3
      unfold pairV at hlk e1 e2 hl2 hl3
      have ew : IntKind.i64.wrap ((cc : Int) + 1) = (cc : Int) + 1 := IntWalk.i64_in _ (by omega)
      have HP2 := Lib.hid hP2
      have HG2 := Lib.hid hg2
      have HBA := Lib.hid hBA
      have HSA := Lib.hid hSA
      have HCC := Lib.hid hcc
      clear hP2 hg2 hBA hSA hPA hPD hcc hbc hcb
      go_wp2_with fail
      go_region
      clear hlk e1 e2 e3
      have hN1 : wx1.heap.size < wA.heap.size := (Array.getElem?_eq_some_iff.1 hA1).1
      have h2k : ∀ q, q < wA.heap.size → q ≠ w.heap.size → w2.heap[q]? = wA.heap[q]? := fun q hq hne => HG2.out.block q hq (fun e => hne (Option.some.inj e))
      have hA2 : w2.heap[wx1.heap.size]? = some (.cells #[.int .i64 (iN : Nat), .int .i64 (kN : Nat)] 84 (0, 0)) := (h2k _ hN1 (by omega)).trans hA1
      have HS2 := Lib.hid (HSA.out.keep (w' := w2) fun q e => h2k q (HSA.out.lt q e).2 (by have := (HSA.out.lt q e).1; omega))
      have HB2 := Lib.hid ((bl_dr HBA.out).grown HG2.out HBA.out.size (fun q e => by cases e; exact Nat.le_refl _))
      have hz2 : wA.heap.size ≤ w2.heap.size := HG2.out.size
      have HA2 := Lib.hid hA2
      clear hA2 hA1 cA0 cA1 h2k HG2 HSA HBA
      have n0 : w2.cell? ⟨wx1.heap.size, 0, none⟩ = some (.int .i64 (iN : Nat)) := cell3 HA2.out 0 _ rfl
      have n1 : w2.cell? ⟨wx1.heap.size, 1, none⟩ = some (.int .i64 (kN : Nat)) := cell3 HA2.out 1 _ rfl
      by_cases hc0 : cc = 0
      · subst hc0
        obtain ⟨x, hx⟩ : ∃ x, a[iN]? = some x := ⟨_, List.getElem?_eq_getElem (by omega)⟩
        obtain ⟨y, hy⟩ : ∃ y, b[kN]? = some y := ⟨_, List.getElem?_eq_getElem (by omega)⟩
        have hxl : (iN : Int) < (a.length : Int) := by omega
        have hyl : (kN : Int) < (b.length : Int) := by omega
        obtain ⟨xb, xo, xc, xpv, xkv, hxv, hxp, hxk, hxc⟩ := HA.out.one hx
        obtain ⟨yb, yo, yc, ypv, ykv, hyv, hyp, hyk, hyc⟩ := HB.out.one hy
        simp only [Value.slice.injEq] at hxv hyv
        obtain ⟨rfl, -, rfl⟩ := hxv
        obtain ⟨rfl, -, rfl⟩ := hyv
        obtain ⟨xpa, xpc, rfl, -⟩ := id hxp
        obtain ⟨ypa, ypc, rfl, -⟩ := id hyp
        obtain ⟨xka, xkc, rfl, -⟩ := id hxk
        obtain ⟨yka, ykc, rfl, -⟩ := id hyk
        have x0 : w2.cell? ⟨xb, xo + iN * 6, none⟩ = some (.int .i64 x.kind) := cell_later HB2.out (hxc 0 _ rfl _ rfl)
        have x1 : w2.cell? ⟨xb, xo + iN * 6 + 1, none⟩ = some (str x.text) := cell_later HB2.out (hxc 1 _ rfl _ rfl)
        have x2 : w2.cell? ⟨xb, xo + iN * 6 + 2, none⟩ = some (.slice xpa x.path.length xpc) := cell_later HB2.out (hxc 2 _ rfl _ rfl)
        have x3 : w2.cell? ⟨xb, xo + iN * 6 + 3, none⟩ = some (.slice xka x.kids.length xkc) := cell_later HB2.out (hxc 3 _ rfl _ rfl)
        have x4 : w2.cell? ⟨xb, xo + iN * 6 + 4, none⟩ = some (.int .i64 x.line) := cell_later HB2.out (hxc 4 _ rfl _ rfl)
        have x5 : w2.cell? ⟨xb, xo + iN * 6 + 5, none⟩ = some (.int .i64 x.col) := cell_later HB2.out (hxc 5 _ rfl _ rfl)
        have y0 : w2.cell? ⟨yb, yo + kN * 6, none⟩ = some (.int .i64 y.kind) := cell_later HB2.out (hyc 0 _ rfl _ rfl)
        have y1 : w2.cell? ⟨yb, yo + kN * 6 + 1, none⟩ = some (str y.text) := cell_later HB2.out (hyc 1 _ rfl _ rfl)
        have y2 : w2.cell? ⟨yb, yo + kN * 6 + 2, none⟩ = some (.slice ypa y.path.length ypc) := cell_later HB2.out (hyc 2 _ rfl _ rfl)
        have y3 : w2.cell? ⟨yb, yo + kN * 6 + 3, none⟩ = some (.slice yka y.kids.length ykc) := cell_later HB2.out (hyc 3 _ rfl _ rfl)
        have y4 : w2.cell? ⟨yb, yo + kN * 6 + 4, none⟩ = some (.int .i64 y.line) := cell_later HB2.out (hyc 4 _ rfl _ rfl)
        have y5 : w2.cell? ⟨yb, yo + kN * 6 + 5, none⟩ = some (.int .i64 y.col) := cell_later HB2.out (hyc 5 _ rfl _ rfl)
        have HX := Lib.hid hx
        have HY := Lib.hid hy
        have HXP := Lib.hid hxp
        have HYP := Lib.hid hyp
        have HXK := Lib.hid hxk
        have HYK := Lib.hid hyk
        clear hx hy hxp hyp hxk hyk hxc hyc ew
        have x0a := cell_al x0
        have x0b := fun o => cell_al (x0a o)
        have x1a := cell_al x1
        have x1b := fun o => cell_al (x1a o)
        have x2a := cell_al x2
        have x2b := fun o => cell_al (x2a o)
        have x3a := cell_al x3
        have x3b := fun o => cell_al (x3a o)
        have x4a := cell_al x4
        have x4b := fun o => cell_al (x4a o)
        have x5a := cell_al x5
        have x5b := fun o => cell_al (x5a o)
        have y0a := cell_al y0
        have y0b := fun o => cell_al (y0a o)
        have y1a := cell_al y1
        have y1b := fun o => cell_al (y1a o)
        have y2a := cell_al y2
        have y2b := fun o => cell_al (y2a o)
        have y3a := cell_al y3
        have y3b := fun o => cell_al (y3a o)
        have y4a := cell_al y4
        have y4b := fun o => cell_al (y4a o)
        have y5a := cell_al y5
        have y5b := fun o => cell_al (y5a o)
        have n0a := cell_al n0
        have n0b := fun o => cell_al (n0a o)
        have n1a := cell_al n1
        have n1b := fun o => cell_al (n1a o)
        go_upto_region 10 with fail
        go_cut [12, 13] (fun u v wc => ∃ xn yn, u = .pointer (some ⟨xn, 0, none⟩) ∧ v = .pointer (some ⟨yn, 0, none⟩) ∧ w2.heap.size ≤ xn ∧ w2.heap.size ≤ yn ∧ Below w2.heap.size w2 wc ∧
          wc.heap[xn]? = some (.cells #[.int .i64 x.kind, str x.text, .slice xpa x.path.length xpc, .slice xka x.kids.length xkc, .int .i64 x.line, .int .i64 x.col] 41 (0, 0)) ∧
          wc.heap[yn]? = some (.cells #[.int .i64 y.kind, str y.text, .slice ypa y.path.length ypc, .slice yka y.kids.length ykc, .int .i64 y.line, .int .i64 y.col] 41 (0, 0)))
        case first =>
          go_region
          · go_wp2_with fail
            go_meet
            exact ⟨_, _, rfl, rfl, Nat.le_refl _, Nat.le_succ _, bl_dr (bl_al (bl_al (Below.refl _ _) _) _), (Below.heap_alloc _ _ _ (by simp)).trans (heap_alloc_new _ _), heap_new2 _ _ _⟩
          · go_wp2_with fail
            go_meet
            exact ⟨_, _, rfl, rfl, Nat.le_succ _, Nat.le_refl _, bl_dr (bl_al (bl_al (Below.refl _ _) _) _), heap_new2 _ _ _, (Below.heap_alloc _ _ _ (by simp)).trans (heap_alloc_new _ _)⟩
        case rest =>
          obtain ⟨xn, yn, rfl, rfl, hxn, hyn, hbc, hcx, hcy⟩ := hcut
          have HBW := Lib.hid (HB2.out.trans (hbc.mono HB2.out.size))
          have HPW := Lib.hid (HP2.out.keep (w' := wc) (hbc.block _ HP2.out.lt))
          have HSW := Lib.hid (HS2.out.below hbc)
          have hcn : wc.heap[wx1.heap.size]? = some (.cells #[.int .i64 (iN : Nat), .int .i64 (kN : Nat)] 84 (0, 0)) := (hbc.block _ (Array.getElem?_eq_some_iff.1 HA2.out).1).trans HA2.out
          have hN1 : wx1.heap.size < w2.heap.size := (Array.getElem?_eq_some_iff.1 HA2.out).1
          have HCX := Lib.hid hcx
          have HCY := Lib.hid hcy
          have HCN := Lib.hid hcn
          have hzc : w2.heap.size ≤ wc.heap.size := hbc.size
          clear hbc hcx hcy hcn HB2 HP2 HS2 n0 n1 x0a x0b x1a x1b x2a x2b x3a x3b x4a x4b x5a x5b y0a y0b y1a y1b y2a y2b y3a y3b y4a y4b y5a y5b n0a n0b n1a n1b x0 x1 x2 x3 x4 x5 y0 y1 y2 y3 y4 y5
          have kx0 := cell3 HCX.out 0 _ rfl
          have kx1 := cell3 HCX.out 1 _ rfl
          have kx2 := cell3 HCX.out 2 _ rfl
          have kx3 := cell3 HCX.out 3 _ rfl
          have ky0 := cell3 HCY.out 0 _ rfl
          have ky1 := cell3 HCY.out 1 _ rfl
          have ky2 := cell3 HCY.out 2 _ rfl
          have ky3 := cell3 HCY.out 3 _ rfl
          by_cases hk1 : x.kind = y.kind
          rotate_left
          · have q1 : (x.kind != y.kind) = true := by rw [bne_iff_ne]; exact hk1
            have HF : RowKit.Hid (B = false) := by
              show _ = _
              cases hBv : B with
              | false => rfl
              | true =>
                obtain ⟨x', y', hx', hy', e1, e2, e3, e4, e5⟩ := (HSI.out.ok hBv ((iN : Int), (kN : Int)) (by simp)).head
                rw [nodeAt_nat, HX.out] at hx'
                rw [nodeAt_nat, HY.out] at hy'
                simp only [Option.some.injEq] at hx' hy'
                subst hx'; subst hy'
                exact absurd e1 hk1
            clear hk1
            go_wp2_with fail
            go_ret
            exact ⟨by rw [HF.out]; rfl, HBW.out⟩
          by_cases hk2 : x.text = y.text
          rotate_left
          · have q1 : (x.kind != y.kind) = false := by rw [hk1]; simp
            have q2 : (x.text == y.text) = false := by rw [beq_eq_false_iff_ne]; exact hk2
            have HF : RowKit.Hid (B = false) := by
              show _ = _
              cases hBv : B with
              | false => rfl
              | true =>
                obtain ⟨x', y', hx', hy', e1, e2, e3, e4, e5⟩ := (HSI.out.ok hBv ((iN : Int), (kN : Int)) (by simp)).head
                rw [nodeAt_nat, HX.out] at hx'
                rw [nodeAt_nat, HY.out] at hy'
                simp only [Option.some.injEq] at hx' hy'
                subst hx'; subst hy'
                exact absurd e2 hk2
            clear hk1 hk2
            go_wp2_with fail
            go_ret
            exact ⟨by rw [HF.out]; rfl, HBW.out⟩
          by_cases hk3 : x.path.length = y.path.length
          rotate_left
          · have q1 : (x.kind != y.kind) = false := by rw [hk1]; simp
            have q2 : (x.text == y.text) = true := by rw [hk2]; simp
            have q3 : ((x.path.length : Int) != (y.path.length : Int)) = true := by rw [bne_iff_ne]; omega
            have HF : RowKit.Hid (B = false) := by
              show _ = _
              cases hBv : B with
              | false => rfl
              | true =>
                obtain ⟨x', y', hx', hy', e1, e2, e3, e4, e5⟩ := (HSI.out.ok hBv ((iN : Int), (kN : Int)) (by simp)).head
                rw [nodeAt_nat, HX.out] at hx'
                rw [nodeAt_nat, HY.out] at hy'
                simp only [Option.some.injEq] at hx' hy'
                subst hx'; subst hy'
                exact absurd (congrArg List.length e3) hk3
            clear hk1 hk2 hk3
            go_wp2_with fail
            go_ret
            exact ⟨by rw [HF.out]; rfl, HBW.out⟩
          by_cases hk4 : x.kids.length = y.kids.length
          rotate_left
          · have q1 : (x.kind != y.kind) = false := by rw [hk1]; simp
            have q2 : (x.text == y.text) = true := by rw [hk2]; simp
            have q3 : ((x.path.length : Int) != (y.path.length : Int)) = false := by rw [hk3]; simp
            have q4 : ((x.kids.length : Int) != (y.kids.length : Int)) = true := by rw [bne_iff_ne]; omega
            have HF : RowKit.Hid (B = false) := by
              show _ = _
              cases hBv : B with
              | false => rfl
              | true =>
                obtain ⟨x', y', hx', hy', e1, e2, e3, e4, e5⟩ := (HSI.out.ok hBv ((iN : Int), (kN : Int)) (by simp)).head
                rw [nodeAt_nat, HX.out] at hx'
                rw [nodeAt_nat, HY.out] at hy'
                simp only [Option.some.injEq] at hx' hy'
                subst hx'; subst hy'
                exact absurd e4 hk4
            clear hk1 hk2 hk3 hk4
            go_wp2_with fail
            go_ret
            exact ⟨by rw [HF.out]; rfl, HBW.out⟩
          have q1 : (x.kind != y.kind) = false := by rw [hk1]; simp
          have q2 : (x.text == y.text) = true := by rw [hk2]; simp
          have q3 : ((x.path.length : Int) != (y.path.length : Int)) = false := by rw [hk3]; simp
          have q4 : ((x.kids.length : Int) != (y.kids.length : Int)) = false := by rw [hk4]; simp
          have HK1 := Lib.hid hk1
          have HK2 := Lib.hid hk2
          have HK3 := Lib.hid hk3
          have HK4 := Lib.hid hk4
          have hpl := HPA.out x (List.mem_of_getElem? HX.out)
          have hkl : x.kids.length ≤ 1048576 := by have := kids_le_sum HX.out; omega
          clear hk1 hk2 hk3 hk4
          go_wp2_with fail
          clear kx0 kx1 kx2 kx3 ky0 ky1 ky2 ky3 q1 q2 q3 q4
          go_loopg [110] (x.path.length + 1) (fun g v wr => ∃ (t : Nat) (wx : World), wx = wr ∧ v = .int .i64 (t : Nat) ∧ t + g = x.path.length + 1 ∧ t ≤ x.path.length ∧ x.path.take t = y.path.take t ∧ Below wc.heap.size wc wr)
          case atStart => exact ⟨0, _, rfl, rfl, by omega, Nat.zero_le _, by simp, Below.refl _ _⟩
          case round =>
            obtain ⟨t, wv, rfl, rfl, hg, ht, hab, hbv⟩ := hrel
            have HAB := Lib.hid hab
            have HBV := Lib.hid hbv
            have HWV := Lib.hid (HBW.out.trans (hbv.mono HBW.out.size))
            have lx2 := cell3 (oldKept HCX.out hbv) 2 _ rfl
            have ly2 := cell3 (oldKept HCY.out hbv) 2 _ rfl
            clear hab hbv
            by_cases hlt : t < x.path.length
            · obtain ⟨u, hu⟩ : ∃ u, x.path[t]? = some u := ⟨_, List.getElem?_eq_getElem hlt⟩
              obtain ⟨v, hv⟩ : ∃ v, y.path[t]? = some v := ⟨_, List.getElem?_eq_getElem (by have := HK3.out; omega)⟩
              obtain ⟨fv, rfl⟩ : ∃ fv, gk = fv + 1 := ⟨gk - 1, by omega⟩
              obtain ⟨ub, uo, rfl, hc1⟩ := strs_at HXP.out hu
              obtain ⟨vb, vo, rfl, hc2⟩ := strs_at HYP.out hv
              have f1 : wv.cell? ⟨ub, uo + t, none⟩ = some (str u) := cell_later HWV.out hc1
              have f2 : wv.cell? ⟨vb, vo + t, none⟩ = some (str v) := cell_later HWV.out hc2
              have hti : (t : Int) < (x.path.length : Int) := by omega
              have hti2 : (t : Int) < (y.path.length : Int) := by have := HK3.out; omega
              have HU := Lib.hid hu
              have HV := Lib.hid hv
              clear hc1 hc2 hu hv
              by_cases huv : u = v
              · subst huv
                go_wp2_with fail
                go_quiet (fail)
                go_wp2_with fail
                go_roundg fv
                case measure => omega
                case rel => exact ⟨t + 1, _, rfl, rfl, by omega, by omega, take_more HAB.out HU.out HV.out, ⟨HBV.out.os, HBV.out.tape, HBV.out.output, HBV.out.size, HBV.out.block⟩⟩
              · have q1 : (u == v) = false := by rw [beq_eq_false_iff_ne]; exact huv
                have HF : RowKit.Hid (B = false) := by
                  show _ = _
                  cases hBv : B with
                  | false => rfl
                  | true =>
                    obtain ⟨x', y', hx', hy', e1, e2, e3, e4, e5⟩ := (HSI.out.ok hBv ((iN : Int), (kN : Int)) (by simp)).head
                    rw [nodeAt_nat, HX.out] at hx'
                    rw [nodeAt_nat, HY.out] at hy'
                    simp only [Option.some.injEq] at hx' hy'
                    subst hx'; subst hy'
                    exact absurd e3 (ne_at HU.out HV.out huv)
                go_wp2_with fail
                go_quiet (fail)
                go_wp2_with fail
                go_ret
                exact ⟨by rw [HF.out]; rfl, ⟨HWV.out.os, HWV.out.tape, HWV.out.output, HWV.out.size, HWV.out.block⟩⟩
            · obtain rfl : t = x.path.length := by omega
              have HPE : RowKit.Hid (x.path = y.path) := by
                show _ = _
                have h1 := HAB.out
                rw [List.take_length, HK3.out, List.take_length] at h1
                exact h1
              have HPV := Lib.hid (HPW.out.keep (w' := wv) (HBV.out.block _ HPW.out.lt))
              have HSV := Lib.hid (HSW.out.below HBV.out)
              have HXV := Lib.hid (oldKept HCX.out HBV.out)
              have HYV := Lib.hid (oldKept HCY.out HBV.out)
              have HNV := Lib.hid (oldKept HCN.out HBV.out)
              have hzv : wc.heap.size ≤ wv.heap.size := HBV.out.size
              have lx3 := cell3 HXV.out 3 _ rfl
              clear HBV HAB hg ht hlt lx2 ly2
              go_wp2_with fail
              clear lx3
              obtain ⟨Z, hZ⟩ : ∃ Z, x.kids.zip y.kids = Z := ⟨_, rfl⟩
              have hZl : Z.length = x.kids.length := by rw [← hZ, List.length_zip]; have := HK4.out; omega
              have HZ := Lib.hid hZ
              clear hZ
              obtain ⟨i0, hi0, hi1, hi2, hi3⟩ := info_parts infoPair
              have HJ := Lib.hid (And.intro hi0 (And.intro hi1 (And.intro hi2 hi3)))
              clear hi0 hi1 hi2 hi3
              have HBD := Lib.hid (And.intro HPV.out.lt (And.intro (Array.getElem?_eq_some_iff.1 HNV.out).1 (And.intro (Array.getElem?_eq_some_iff.1 HXV.out).1 (Array.getElem?_eq_some_iff.1 HYV.out).1)))
              go_loopg [10, 128] (x.kids.length + 1) (fun g u v wr => ∃ (t : Nat) (wx : World), wx = wr ∧ v = .int .i64 (t : Nat) ∧ t + g = x.kids.length + 1 ∧ t ≤ x.kids.length ∧ (∀ (j : Nat) p q, j < t → x.kids[j]? = some p → y.kids[j]? = some q → p < (iN : Int) ∧ q < (kN : Int)) ∧
                StkS (w.heap.size + 1) wr u (S' ++ Z.take t) ∧ (∀ q, u.ownBlock = some q → q ≠ wx1.heap.size ∧ q ≠ xn ∧ q ≠ yn) ∧ Below w.heap.size w wr ∧ (∀ q, q < wv.heap.size → (q = w.heap.size ∨ q = wx1.heap.size ∨ q = xn ∨ q = yn) → wr.heap[q]? = wv.heap[q]?) ∧ wv.heap.size ≤ wr.heap.size)
              case atStart => exact ⟨0, _, rfl, rfl, by omega, Nat.zero_le _, fun j p q hj => absurd hj (by omega), by simpa using HSV.out, fun q hq => by
                have hq2 : sg = q := by simpa [Value.ownBlock] using hq
                have h1 := (HS1.out q hq).2
                omega, HWV.out, fun _ _ _ => rfl, Nat.le_refl _⟩
              case round =>
                obtain ⟨t, wz, rfl, rfl, hg, ht, hlow, hst, hap, hbz, hkz, hszz⟩ := hrel
                have HLOW := Lib.hid hlow
                have HSZ := Lib.hid hst
                have HAP := Lib.hid hap
                have HBZ := Lib.hid hbz
                have HKZ := Lib.hid hkz
                have hXZ := (hkz xn HBD.out.2.2.1 (.inr (.inr (.inl rfl)))).trans HXV.out
                have hYZ := (hkz yn HBD.out.2.2.2 (.inr (.inr (.inr rfl)))).trans HYV.out
                have hNZ := (hkz wx1.heap.size HBD.out.2.1 (.inr (.inl rfl))).trans HNV.out
                have lx3 := cell3 hXZ 3 _ rfl
                have ly3 := cell3 hYZ 3 _ rfl
                have ln0 := cell3 hNZ 0 _ rfl
                have ln1 := cell3 hNZ 1 _ rfl
                have hlen : (S' ++ Z.take t).length = S'.length + t := by rw [List.length_append, List.length_take]; omega
                obtain ⟨ua, ucap, hu0⟩ := hst.form
                rw [hlen] at hu0
                subst hu0
                have HLEN := Lib.hid hlen
                clear hlen hlow hap hbz hkz hXZ hYZ hNZ hst
                by_cases hlt : t < x.kids.length
                · obtain ⟨kp, hu⟩ : ∃ u, x.kids[t]? = some u := ⟨_, List.getElem?_eq_getElem hlt⟩
                  obtain ⟨kq, hv⟩ : ∃ v, y.kids[t]? = some v := ⟨_, List.getElem?_eq_getElem (by have := HK4.out; omega)⟩
                  obtain ⟨fv, rfl⟩ : ∃ fv, gk = fv + 1 := ⟨gk - 1, by omega⟩
                  obtain ⟨ub, uo, rfl, hc1⟩ := ints_at HXK.out hu
                  obtain ⟨vb, vo, rfl, hc2⟩ := ints_at HYK.out hv
                  have f1 : wz.cell? ⟨ub, uo + t, none⟩ = some (.int .i64 kp) := cell_later HBZ.out hc1
                  have f2 : wz.cell? ⟨vb, vo + t, none⟩ = some (.int .i64 kq) := cell_later HBZ.out hc2
                  have hti : (t : Int) < (x.kids.length : Int) := by omega
                  have hti2 : (t : Int) < (y.kids.length : Int) := by have := HK4.out; omega
                  have HU := Lib.hid hu
                  have HV := Lib.hid hv
                  clear hc1 hc2 hu hv
                  by_cases hp1 : (iN : Int) ≤ kp
                  · have hd1 : decide ((iN : Int) ≤ kp) = true := by simpa using hp1
                    have HF : RowKit.Hid (B = false) := by
                      show _ = _
                      cases hBv : B with
                      | false => rfl
                      | true =>
                        obtain ⟨x', y', hx', hy', e1, e2, e3, e4, e5⟩ := (HSI.out.ok hBv ((iN : Int), (kN : Int)) (by simp)).head
                        rw [nodeAt_nat, HX.out] at hx'
                        rw [nodeAt_nat, HY.out] at hy'
                        simp only [Option.some.injEq] at hx' hy'
                        subst hx'; subst hy'
                        have := (e5 t kp kq HU.out HV.out).1; omega
                    go_wp2_with fail
                    go_quiet (fail)
                    go_wp2_with fail
                    go_ret
                    exact ⟨by rw [HF.out]; rfl, ⟨HBZ.out.os, HBZ.out.tape, HBZ.out.output, HBZ.out.size, HBZ.out.block⟩⟩
                  by_cases hq1 : (kN : Int) ≤ kq
                  · have hd1 : decide ((iN : Int) ≤ kp) = false := by simpa using hp1
                    have HF : RowKit.Hid (B = false) := by
                      show _ = _
                      cases hBv : B with
                      | false => rfl
                      | true =>
                        obtain ⟨x', y', hx', hy', e1, e2, e3, e4, e5⟩ := (HSI.out.ok hBv ((iN : Int), (kN : Int)) (by simp)).head
                        rw [nodeAt_nat, HX.out] at hx'
                        rw [nodeAt_nat, HY.out] at hy'
                        simp only [Option.some.injEq] at hx' hy'
                        subst hx'; subst hy'
                        have := (e5 t kp kq HU.out HV.out).2.1; omega
                    go_wp2_with fail
                    go_quiet (fail)
                    go_wp2_with fail
                    go_ret
                    exact ⟨by rw [HF.out]; rfl, ⟨HBZ.out.os, HBZ.out.tape, HBZ.out.output, HBZ.out.size, HBZ.out.block⟩⟩
                  have hd1 : decide ((iN : Int) ≤ kp) = false := by simpa using hp1
                  have hzt : Z[t]? = some (kp, kq) := by rw [← HZ.out, List.getElem?_zip_eq_some]; exact ⟨HU.out, HV.out⟩
                  have hall : (S' ++ Z.take (t + 1)) = (S' ++ Z.take t) ++ [(kp, kq)] := by rw [take_snoc hzt, List.append_assoc]
                  have HALL := Lib.hid hall
                  clear hzt hall
                  go_wp2_with fail
                  go_quiet (fail)
                  go_wp2_with fail
                  obtain ⟨wq, hwq⟩ : ∃ wq, wz.drewN nq = wq := ⟨_, rfl⟩
                  have HDR : RowKit.Hid (wq.heap = wz.heap ∧ Below w.heap.size w wq) := by
                    show wq.heap = wz.heap ∧ Below w.heap.size w wq
                    rw [← hwq]; exact ⟨rfl, bl_drN HBZ.out _⟩
                  have cq : ∀ ad, wq.cell? ad = wz.cell? ad := fun ad => by rw [← hwq]; rfl
                  have f1' := (cq _).trans f1
                  have f2' := (cq _).trans f2
                  have lx3' := (cq _).trans lx3
                  have ly3' := (cq _).trans ly3
                  have f1a := cell_al f1'
                  have f2a := cell_al f2'
                  have lx3a := cell_al lx3'
                  have ly3a := cell_al ly3'
                  have HSQ : RowKit.Hid (∀ o, (wq.alloc o).ownsRow (w.heap.size + 1) 84 2 (.slice ua (S'.length + t) ucap) (S'.length + t) (pairs (S' ++ Z.take t))) := fun o => by
                    have := (HSZ.out.keep (w' := wq) (fun q _ => by rw [HDR.out.1])).below (bl_al (Below.refl _ wq) o)
                    unfold StkS at this
                    rw [HLEN.out] at this
                    exact this
                  have hqs : w.heap.size + 1 ≤ wq.heap.size := by rw [HDR.out.1]; have := HBD.out.1; omega
                  rw [hwq]
                  clear hwq cq f1 f2 lx3 ly3 ln0 ln1
                  have hKS1 : KS ≤ 1048576 := by rw [← HKS.out]; exact hka
                  go_region_law ((refine step_append_lies _ rfl (.tmp 149) (.tmp 161) 85 rfl (w.heap.size + 1) 84 i0 (.agg #[.int .i64 0, .int .i64 0]) 2 16 Tryz.underlying85 HJ.out.1 HJ.out.2.1 HJ.out.2.2.1 HJ.out.2.2.2 rfl (by decide) (.slice ua (S'.length + t) ucap) (S'.length + t) (pairs (S' ++ Z.take t)) (by simp [Act.eval]) (by exact HSQ.out _) ⟨wq.heap.size, 0, none⟩ 1 1 [.int .i64 kp, .int .i64 kq] (by simp [Act.eval]) rfl (by exact World.news_of_block (heap_alloc_new _ _)) (one_pair kp kq) (by decide) (by unfold maxLen; omega) (by omega) (by simp [World.drew]; omega) _ rfl ?_); intro g2 cap2 w7 hrow hgr hgb hgl)
                  all_goals
                    have h7 : ∀ q, q < wq.heap.size → (Value.slice ua (S'.length + t) ucap).ownBlock ≠ some q → w7.heap[q]? = wq.heap[q]? := fun q hq hne => (hgr.block q (by simp [World.drew]; omega) (fun e => hne e.symm)).trans (Below.heap_alloc _ _ q (by simpa [World.drew] using hq))
                    have hs7 : wq.heap.size + 1 ≤ w7.heap.size := by have := hgr.size; simp [World.drew] at this; omega
                    have HT7 := Lib.hid (show StkS (w.heap.size + 1) w7 (.slice (some ⟨g2, 0, none⟩) (S'.length + t + 1) cap2) (S' ++ Z.take (t + 1)) by
                      unfold StkS
                      rw [HALL.out, pairs_app, List.length_append, HLEN.out]
                      exact hrow)
                    have HA7 : RowKit.Hid (∀ q, (Value.slice (some ⟨g2, 0, none⟩) (S'.length + t + 1) cap2).ownBlock = some q → q ≠ wx1.heap.size ∧ q ≠ xn ∧ q ≠ yn) := fun q hq => by
                      have hq2 : g2 = q := by simpa [Value.ownBlock] using hq
                      rcases hgb with hgb | hgb
                      · rw [hq2] at hgb; exact HAP.out q hgb
                      · have := HBD.out
                        have h1 : wq.heap.size + 1 = g2 := by rw [hgb]; simp [World.drew]
                        rw [HDR.out.1] at h1
                        omega
                    have HB7 : RowKit.Hid (Below w.heap.size w w7) := ⟨hgr.os.trans HDR.out.2.os, hgr.tape.trans HDR.out.2.tape, hgr.output.trans HDR.out.2.output, by have := HDR.out.2.size; omega, fun q hq => (h7 q (by omega) (fun e => by have := (HSZ.out.lt q e).1; omega)).trans (HDR.out.2.block q hq)⟩
                    have HK7 : RowKit.Hid (∀ q, q < wv.heap.size → (q = w.heap.size ∨ q = wx1.heap.size ∨ q = xn ∨ q = yn) → w7.heap[q]? = wv.heap[q]?) := fun q hq hc => by
                      refine (h7 q (by rw [HDR.out.1]; omega) (fun e => ?_)).trans (by rw [HDR.out.1]; exact HKZ.out q hq hc)
                      have h1 := HAP.out q e
                      have h2 := (HSZ.out.lt q e).1
                      omega
                    have hz7 : wv.heap.size ≤ w7.heap.size := by rw [HDR.out.1] at hs7; omega
                    clear h7 hs7 hrow hgr hgb hgl
                    go_wp2_with fail
                    go_roundg fv
                    case measure => omega
                    case rel => exact ⟨t + 1, _, rfl, rfl, by omega, by omega, fun j p q hj hp hq => by
                      by_cases hjt : j = t
                      · subst hjt
                        rw [HU.out] at hp; rw [HV.out] at hq
                        simp only [Option.some.injEq] at hp hq
                        subst hp; subst hq
                        omega
                      · exact HLOW.out j p q (by omega) hp hq, HT7.out, HA7.out, HB7.out, HK7.out, hz7⟩
                · obtain rfl : t = x.kids.length := by omega
                  have hall : S' ++ Z.take x.kids.length = S' ++ x.kids.zip y.kids := by rw [HZ.out, ← hZl, List.take_length]
                  have HS3 := Lib.hid (show StkS (w.heap.size + 1) wz (.slice ua (S'.length + x.kids.length) ucap) (S' ++ x.kids.zip y.kids) by rw [← hall]; exact HSZ.out)
                  have HSX := Lib.hid (SI.push HSI.out (x := x) (y := y) (by rw [nodeAt_nat]; exact HX.out) (by rw [nodeAt_nat]; exact HY.out) HK1.out HK2.out HPE.out HK4.out (fun j p q hp hq => HLOW.out j p q (List.getElem?_eq_some_iff.1 hp).1 hp hq))
                  have hum := Nat.mul_le_mul_left (KS + 1) (unmet_bump (la := a.length) (lb := b.length) (cnt := cnt) (i := iN) (k := kN) (by omega) (by omega) HCC.out)
                  have HM : RowKit.Hid ((KS + 1) * unmet a.length b.length (bumpC cnt iN kN) + (S' ++ x.kids.zip y.kids).length + 1 ≤ fu) := by
                    show (KS + 1) * unmet a.length b.length (bumpC cnt iN kN) + (S' ++ x.kids.zip y.kids).length + 1 ≤ fu
                    have h1 := HG.out
                    have h2 := kids_le_sum HX.out
                    rw [HKS.out] at h2
                    rw [Nat.mul_add, Nat.mul_one] at hum
                    rw [List.length_append, List.length_zip]
                    omega
                  have HPZ := Lib.hid (HPV.out.keep (HKZ.out w.heap.size HBD.out.1 (.inl rfl)))
                  clear hum hall
                  go_wp2_with fail
                  go_roundg fu
                  case measure => omega
                  case rel => exact ⟨S' ++ x.kids.zip y.kids, bumpC cnt iN kN, n + 1, _, rfl, HS3.out, HPZ.out, HBZ.out, by omega, HSX.out, HM.out, by omega, fun p q => by
                    have := HCG.out p q
                    unfold bumpC
                    split
                    · have := HCG.out iN kN; omega
                    · omega⟩
      · have hgt : (1 : Int) < (cc : Int) + 1 := by omega
        have HSX := Lib.hid (SI.again HSI.out (by rw [HCC.out]; exact hc0))
        have hum := Nat.mul_le_mul_left (KS + 1) (unmet_more (la := a.length) (lb := b.length) (cnt := cnt) (i := iN) (k := kN))
        have HM : RowKit.Hid ((KS + 1) * unmet a.length b.length (bumpC cnt iN kN) + S'.length + 1 ≤ fu) := by
          show (KS + 1) * unmet a.length b.length (bumpC cnt iN kN) + S'.length + 1 ≤ fu
          have := HG.out; omega
        clear hum
        go_wp2_with fail
        go_roundg fu
        case measure => omega
        case rel => exact ⟨S', bumpC cnt iN kN, n + 1, _, rfl, HS2.out, HP2.out, HB2.out, by omega, HSX.out, HM.out, by omega, fun p q => by
          have := HCG.out p q
          unfold bumpC
          split
          · have := HCG.out iN kN; omega
          · omega⟩
end Go.Proofs.YtbchkldhnjahaaaGreatDoor
