/- Slices of tokens in memory. -/
import Derived.Test.YtbchkldhnjahaaaGreatDoorLexWr
namespace Go.Proofs.YtbchkldhnjahaaaGreatDoor
open Go.RowKit Kiln
open Go.Proofs

/-- a slice of tokens reads so -/
def TkS (w : World) (v : Value) (l : List Tok) : Prop :=
  ∃ a cap, v = .slice a l.length cap ∧ (l ≠ [] → ∃ b off, a = some ⟨b, off, none⟩ ∧ ∀ (i : Nat) u, l[i]? = some u → ∃ pv, Strs w pv u.path ∧ ∀ (j : Nat) x, (tokVals u pv)[j]? = some x → w.cell? ⟨b, off + (5 * i + j), none⟩ = some x)

theorem TkS.below {w w' : World} {v : Value} {l : List Tok} (h : TkS w v l) (hb : Below w.heap.size w w') : TkS w' v l := by
  obtain ⟨a, cap, hv, hl⟩ := h
  refine ⟨a, cap, hv, fun hne => ?_⟩
  obtain ⟨b, off, ha, hx⟩ := hl hne
  refine ⟨b, off, ha, fun i u hi => ?_⟩
  obtain ⟨pv, hs, hc⟩ := hx i u hi
  exact ⟨pv, hs.below hb, fun j x hj => cell_later hb (hc j x hj)⟩

theorem toks_at {ob : Option Nat} {B : Nat} {w : World} : ∀ {l : List Tok} {xs : List Value}, Toks ob B w l xs → ∀ (i : Nat) u, l[i]? = some u → ∃ pv, StrsO ob B w pv u.path ∧ ∀ (j : Nat) x, (tokVals u pv)[j]? = some x → xs[5 * i + j]? = some x
  | [], _, _, i, u, hi => by simp at hi
  | t :: l, xs, ⟨pv, ys, hx, hp, hr⟩, 0, u, hi => by
    simp only [List.getElem?_cons_zero, Option.some.injEq] at hi
    subst hi
    refine ⟨pv, hp, fun j x hj => ?_⟩
    subst hx
    rw [Nat.mul_zero, Nat.zero_add, List.getElem?_append_left (List.getElem?_eq_some_iff.1 hj).1]; exact hj
  | t :: l, xs, ⟨pv, ys, hx, hp, hr⟩, i + 1, u, hi => by
    obtain ⟨pv', hs, hc⟩ := toks_at hr i u (by simpa using hi)
    refine ⟨pv', hs, fun j x hj => ?_⟩
    subst hx
    rw [List.getElem?_append_right (by simp [tokVals]; omega)]
    rw [show 5 * (i + 1) + j - (tokVals t pv).length = 5 * i + j by simp [tokVals]; omega]
    exact hc j x hj

theorem addr_add0 (g n : Nat) : (⟨g, 0, none⟩ : Addr).add n = ⟨g, n, none⟩ := by
  unfold Addr.add
  split
  · rename_i h; simp_all
  · simp

theorem toks_TkS {w : World} {B : Nat} {v : Value} {l : List Tok} {xs : List Value} (ho : w.ownsRow B 32 5 v l.length xs) (ht : Toks v.ownBlock B w l xs) : TkS w v l := by
  rcases id ho.2 with ⟨rfl, h0⟩ | ⟨g, cap, cur, rfl, _⟩
  · have : l = [] := List.eq_nil_of_length_eq_zero h0
    subst this
    exact ⟨none, 0, rfl, fun h => absurd rfl h⟩
  · refine ⟨_, cap, rfl, fun _ => ⟨g, 0, rfl, fun i u hi => ?_⟩⟩
    obtain ⟨pv, hs, hc⟩ := toks_at ht i u hi
    refine ⟨pv, hs.1, fun j x hj => ?_⟩
    have := ho.cells (g := g) rfl (5 * i + j) x (hc j x hj)
    rw [Nat.zero_add, ← addr_add0]; exact this

/-- sizes that Go's own limits allow -/
def Fits (u : Tok) : Prop := u.text.length ≤ 17592186044416 ∧ u.path.length ≤ 1099511627776 ∧ (Lib.join (u.path ++ [u.text]) [46]).length ≤ 140737488355328

theorem writeP_err {k : Int} {t : Bytes} {pa : List Bytes} {c : Nat} (h : writeP k t pa = .error c) : c = 1 := by
  unfold writeP at h
  split at h
  · cases h
  · simp only [Except.error.injEq] at h; exact h.symm

end Go.Proofs.YtbchkldhnjahaaaGreatDoor
