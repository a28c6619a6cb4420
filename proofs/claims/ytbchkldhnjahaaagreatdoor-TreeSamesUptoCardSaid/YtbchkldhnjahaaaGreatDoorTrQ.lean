/- The scopes' maps of infix names: one more directive. Conditions: those of each theorem. -/
import Derived.Test.YtbchkldhnjahaaaGreatDoorTrO
import Derived.Maps.OwnRows
namespace Go.Proofs.YtbchkldhnjahaaaGreatDoor
open Go.RowKit Kiln
open Go.Proofs

theorem lookN_snoc (k s : Bytes) (v : Fx) : ∀ nm : Names, lookN s (nm ++ [(k, v)]) = if k = s then some v else lookN s nm
  | [] => by
    show (match lookN s [] with | some f => some f | none => if k == s then some v else none) = _
    simp [lookN]
  | p :: l => by
    show (match lookN s (l ++ [(k, v)]) with | some f => some f | none => if p.1 == s then some p.2 else none) = _
    rw [lookN_snoc k s v l]
    by_cases h : k = s
    · rw [if_pos h, if_pos h]
    · rw [if_neg h, if_neg h]; rfl
theorem NmD.put {D : DataW Unit} {nm : Names} (h : NmD D nm) (hD : Go.Maps.IsMap D) (k : Bytes) (v : Fx) : NmD (D.put (.string k) (fxD v)) (nm ++ [(k, v)]) := fun s => by
  rw [lookN_snoc]
  by_cases hk : k = s
  · subst hk
    rw [if_pos rfl]
    exact ⟨Go.Maps.has_put_same hD (by simp [WideAt.IsKeyLit]) _, Go.Maps.atKey_put_same hD (by simp [WideAt.IsKeyLit]) _ _⟩
  · rw [if_neg hk, Go.Maps.has_put_other (by simpa using fun e => hk e.symm) _, Go.Maps.atKey_put_other (by simpa using fun e => hk e.symm) _ _]
    exact h s

theorem NmS.put {w : World} {m : Nat} {nm : Names} (h : NmS w m nm) (hn : nm.length < maxLen) (k : Bytes) (hk : k.length ≤ maxLen) (f : Fx) :
    ∃ w', (Instr.mapUpdate 104 (.map (some m)) (str k) (fxV f)).run Tryz.prog w = .ok () w' ∧ NmS w' m (nm ++ [(k, f)]) ∧ w.grownBy w' (some m) := by
  obtain ⟨D, ho, hd⟩ := h
  obtain ⟨w', hrun, h1, h2⟩ := ho.update lawS Tryz.underlying104 hn (key := str k) (kl := .string k) (Go.WideMaps.keyOf_string_mk Tryz.underlying9 hk) (fxElem_mk f)
  exact ⟨w', hrun, ⟨_, by simpa using h1, hd.put ho.isMap k f⟩, h2⟩
theorem NmS.made (w : World) : NmS (w.alloc (.map #[] 0)) w.heap.size [] :=
  ⟨_, World.ownsMap_made w _ _ _, fun s => by constructor <;> simp [lookN, Go.Maps.has, DataW.atKey]⟩

theorem wpList_names {ops : Array Oper} {rest : List Oper} {o : Oper} {a : Act} {w : World} {Q : Exit → Act → World → Prop} (hg : o.guard = none) (m x v : Operand)
    (hop : o.op = Op.insert 104 m x v ∨ o.op = Op.mapUpdate 104 m x v) (blk : Nat) (nm : Names) (hm : a.eval m = .map (some blk)) (h : NmS w blk nm) (hn : nm.length < maxLen)
    (k : Bytes) (f : Fx) (hx : a.eval x = str k) (hk : k.length ≤ maxLen) (hv : a.eval v = fxV f)
    (hK : ∀ w', NmS w' blk (nm ++ [(k, f)]) → w.grownBy w' (some blk) → wpList Tryz.prog ops Q rest (a.put o.dst undef) w') : wpList Tryz.prog ops Q (o :: rest) a w := by
  refine wpList_plain hg fun K' hK' => ?_
  obtain ⟨w', hrun, r1, r2⟩ := h.put hn k hk f
  unfold Oper.wp
  rcases hop with hop | hop <;> (simp [execOp, hop, hm, hx, hv, hrun, Result.andThen]; exact hK' _ _ (hK w' r1 r2))

end Go.Proofs.YtbchkldhnjahaaaGreatDoor
