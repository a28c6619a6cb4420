/- Slices of nodes in memory; of which nodes some are made, as a plain function. Conditions: those of each theorem. -/
import Derived.Test.YtbchkldhnjahaaaGreatDoorTrSt2
namespace Kiln
/-- the kids of a node -/
def kidsOf (l : List Nd) (i : Nat) : List Int := match l[i]? with
  | some n => n.kids
  | none => []
/-- those of a row below a number are marked too -/
def markP (n : Nat) (ks : List Int) (m : Nat → Bool) : Nat → Bool := fun j => m j || (decide (j < n) && ks.contains (j : Int))
/-- from so many nodes on downwards -/
def downP (l : List Nd) : Nat → (Nat → Bool) → Nat → Bool
  | 0, m => m
  | i + 1, m => downP l i (if m i then markP i (kidsOf l i) m else m)
/-- of which nodes some are made -/
def metP (l : List Nd) (roots : List Int) : Nat → Bool := downP l l.length (markP l.length roots fun _ => false)
def belowP (l : List Nd) (roots : List Int) : List Nat := (List.range l.length).filter (metP l roots)

theorem markP_nil (n : Nat) (m : Nat → Bool) : markP n [] m = m := by funext j; simp [markP]
theorem markP_zero (ks : List Int) (m : Nat → Bool) : markP 0 ks m = m := by funext j; simp [markP]
theorem markP_none (n : Nat) (ks : List Int) (m : Nat → Bool) (t : Nat) (ht : ks[t]? = none) : markP n (ks.take t) m = markP n ks m := by
  rw [List.take_of_length_le (List.getElem?_eq_none_iff.1 ht)]
theorem take_snoc {α : Type} {ks : List α} {t : Nat} {k : α} (ht : ks[t]? = some k) : ks.take (t + 1) = ks.take t ++ [k] := by
  rw [List.take_add_one, ht]; rfl
theorem markP_off (n : Nat) (ks : List Int) (m : Nat → Bool) (t : Nat) (k : Int) (ht : ks[t]? = some k) (hk : ¬ (0 ≤ k ∧ k < n)) : markP n (ks.take (t + 1)) m = markP n (ks.take t) m := by
  funext j
  unfold markP
  rw [take_snoc ht]
  by_cases hj : j < n
  · have : ((j : Int) == k) = false := by rw [beq_eq_false_iff_ne]; omega
    simp only [List.contains_append, List.contains_cons, List.contains_nil, this, Bool.or_false]
  · simp [hj]
theorem markP_on (n : Nat) (ks : List Int) (m : Nat → Bool) (t : Nat) (k : Nat) (ht : ks[t]? = some (k : Int)) (hk : k < n) (j : Nat) : markP n (ks.take (t + 1)) m j = if j = k then true else markP n (ks.take t) m j := by
  unfold markP
  rw [take_snoc ht]
  by_cases hj : j = k
  · subst hj; simp [hk]
  · have : ((j : Int) == (k : Int)) = false := by rw [beq_eq_false_iff_ne]; omega
    simp only [List.contains_append, List.contains_cons, List.contains_nil, this, Bool.or_false, hj, if_false]
theorem filter_snoc (m : Nat → Bool) (n : Nat) : (List.range (n + 1)).filter m = (List.range n).filter m ++ (if m n then [n] else []) := by
  rw [List.range_succ, List.filter_append]
  by_cases h : m n <;> simp [h]
theorem filter_len (m : Nat → Bool) (n : Nat) : ((List.range n).filter m).length ≤ n := by
  have := List.length_filter_le m (List.range n)
  simpa using this
end Kiln
namespace Go.Proofs.YtbchkldhnjahaaaGreatDoor
open Go.RowKit Kiln
open Go.Proofs

theorem Ints.below {w w' : World} {v : Value} {l : List Int} (h : Ints w v l) (hb : Below w.heap.size w w') : Ints w' v l := by
  obtain ⟨a, cap, rfl, hlc, hcm, hl⟩ := h
  refine ⟨a, cap, rfl, hlc, hcm, fun hne => ?_⟩
  obtain ⟨b, off, rfl, hx⟩ := hl hne
  exact ⟨b, off, rfl, fun i x hi => cell_later hb (hx i x hi)⟩

/-- a slice of nodes reads so -/
def NdT (w : World) (v : Value) (l : List Nd) : Prop :=
  ∃ a cap, v = .slice a l.length cap ∧ (l ≠ [] → ∃ b off, a = some ⟨b, off, none⟩ ∧ ∀ (i : Nat) n, l[i]? = some n → ∃ pv kv, Strs w pv n.path ∧ Ints w kv n.kids ∧ ∀ (j : Nat) x, (ndVals n pv kv)[j]? = some x → w.cell? ⟨b, off + (6 * i + j), none⟩ = some x)

theorem NdT.below {w w' : World} {v : Value} {l : List Nd} (h : NdT w v l) (hb : Below w.heap.size w w') : NdT w' v l := by
  obtain ⟨a, cap, hv, hl⟩ := h
  refine ⟨a, cap, hv, fun hne => ?_⟩
  obtain ⟨b, off, ha, hx⟩ := hl hne
  refine ⟨b, off, ha, fun i u hi => ?_⟩
  obtain ⟨pv, kv, hs, hk, hc⟩ := hx i u hi
  exact ⟨pv, kv, hs.below hb, hk.below hb, fun j x hj => cell_later hb (hc j x hj)⟩

theorem NdT.nil (w : World) : NdT w (.slice none 0 0) [] := ⟨none, 0, rfl, fun h => absurd rfl h⟩

theorem nds_NdT {w : World} {B : Nat} {U : Rl} {v : Value} {l : List Nd} {xs : List Value} (ho : w.ownsRow B 41 6 v l.length xs) (ht : NdS w U l xs) : NdT w v l := by
  rcases id ho.2 with ⟨rfl, h0⟩ | ⟨g, cap, cur, rfl, _⟩
  · have : l = [] := List.eq_nil_of_length_eq_zero h0
    subst this
    exact NdT.nil w
  · refine ⟨_, cap, rfl, fun _ => ⟨g, 0, rfl, fun i u hi => ?_⟩⟩
    obtain ⟨pv, kv, hs, _, hk, _, hc⟩ := ht.at i u hi
    refine ⟨pv, kv, hs, hk, fun j x hj => ?_⟩
    have := ho.cells (g := g) rfl (6 * i + j) x (hc j x hj)
    rw [Nat.zero_add, ← addr_add0]; exact this

theorem TSt.nodesT {w0 : World} {tv : Value} {ts : List Tok} {b : Nat} {qs : List Nat} {w : World} {U : Rl} {st : PS} (h : TSt w0 tv ts b qs w U st) :
    ∃ nv, w.cell? ⟨b, 2, none⟩ = some nv ∧ NdT w nv st.nodes := by
  obtain ⟨nv, dv, xs, h⟩ := h
  have h1 := h.blk
  exact ⟨nv, by simp [World.cell?, h1], nds_NdT h.nrow h.nds⟩

/-- one node of a slice, as the walk reads it -/
theorem NdT.one {w : World} {v : Value} {l : List Nd} (h : NdT w v l) {i : Nat} {n : Nd} (hi : l[i]? = some n) :
    ∃ b off cap pv kv, v = .slice (some ⟨b, off, none⟩) l.length cap ∧ Strs w pv n.path ∧ Ints w kv n.kids ∧ ∀ (j : Nat) x, (ndVals n pv kv)[j]? = some x → ∀ q, q = off + i * 6 + j → w.cell? ⟨b, q, none⟩ = some x := by
  obtain ⟨a, cap, rfl, hl⟩ := h
  obtain ⟨b, off, rfl, hx⟩ := hl (by rintro rfl; simp at hi)
  obtain ⟨pv, kv, hs, hk, hc⟩ := hx i n hi
  exact ⟨b, off, cap, pv, kv, rfl, hs, hk, fun j x hj q hq => by subst hq; rw [show off + i * 6 + j = off + (6 * i + j) by omega]; exact hc j x hj⟩
end Go.Proofs.YtbchkldhnjahaaaGreatDoor
