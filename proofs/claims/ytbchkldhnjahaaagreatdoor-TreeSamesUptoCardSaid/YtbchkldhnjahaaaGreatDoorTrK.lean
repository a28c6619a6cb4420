/- Rows of infix names: links in memory, and the parser's row step by step, as plain functions. -/
import Derived.Test.YtbchkldhnjahaaaGreatDoorTrJ
namespace Go.Proofs.YtbchkldhnjahaaaGreatDoor
open Go.RowKit Kiln
open Go.Proofs

/-- a link as cells -/
def lkVals (x : Link) : List Value := [.int .i64 x.fx.level, .bool x.fx.right, .bool x.fx.infx, str x.text, .int .i64 x.at_.1, .int .i64 x.at_.2]
def lkAll (l : List Link) : List Value := l.flatMap lkVals
theorem lkAll_len (l : List Link) : (lkAll l).length = l.length * 6 := by
  induction l with
  | nil => rfl
  | cons x l ih => simp only [lkAll, List.flatMap_cons, List.length_append, List.length_cons] at *; rw [ih]; simp [lkVals]; omega
theorem lkAll_app (l m : List Link) : lkAll (l ++ m) = lkAll l ++ lkAll m := by simp [lkAll]
theorem lkAll_at : ∀ (l : List Link) (i : Nat) (x : Link), l[i]? = some x → ∀ (j : Nat) u, (lkVals x)[j]? = some u → (lkAll l)[i * 6 + j]? = some u
  | [], i, x, hi => by simp at hi
  | y :: l, 0, x, hi => fun j u hu => by
    simp only [List.getElem?_cons_zero, Option.some.injEq] at hi
    subst hi
    show (lkVals y ++ lkAll l)[0 * 6 + j]? = _
    rw [Nat.zero_mul, Nat.zero_add, List.getElem?_append_left (List.getElem?_eq_some_iff.1 hu).1]; exact hu
  | y :: l, i + 1, x, hi => fun j u hu => by
    show (lkVals y ++ lkAll l)[(i + 1) * 6 + j]? = _
    rw [List.getElem?_append_right (by simp [lkVals]; omega), show (i + 1) * 6 + j - (lkVals y).length = i * 6 + j by simp [lkVals]; omega]
    exact lkAll_at l i x (by simpa using hi) j u hu

/-- a row of links of the function's own -/
def LkR (B : Nat) (w : World) (U : Rl) (v : Value) (l : List Link) : Prop := w.ownsRow B 217 6 v l.length (lkAll l) ∧ Im U v 0
theorem LkR.nil (B : Nat) (w : World) (U : Rl) : LkR B w U (.slice none 0 0) [] := ⟨World.ownsRow_nil w B _ 6, Im.nil U 0⟩
theorem LkR.lt {B : Nat} {w : World} {U : Rl} {v : Value} {l : List Link} (h : LkR B w U v l) : ∀ k, v.ownBlock = some k → B ≤ k ∧ k < w.heap.size := h.1.lt
theorem LkR.step {B : Nat} {w w' : World} {U U' : Rl} {v : Value} {l : List Link} (h : LkR B w U v l) (hf : Fr w U w' U') : LkR B w' U' v l :=
  ⟨row_keep h.1 fun k e => hf.keep k (h.lt k e).2 (h.2 k e), fun k e => hf.sub k (h.lt k e).2 (h.2 k e)⟩
theorem LkR.below {B : Nat} {w w' : World} {U : Rl} {v : Value} {l : List Link} (h : LkR B w U v l) (hb : Below w.heap.size w w') : LkR B w' U v l :=
  ⟨row_keep h.1 fun k e => hb.block k (h.lt k e).2, h.2⟩
theorem LkR.alloc {B : Nat} {w : World} {U : Rl} {v : Value} {l : List Link} (h : LkR B w U v l) (o : Obj) : LkR B (w.alloc o) U v l := ⟨h.1.alloc o, h.2⟩
theorem LR.below {B : Nat} {w w' : World} {U : Rl} {v : Value} {l : List Int} (h : LR B w U v l) (hb : Below w.heap.size w w') : LR B w' U v l :=
  ⟨row_keep h.1 fun k e => hb.block k (h.lt k e).2, h.2⟩
/-- its cells, and its value -/
theorem LkR.form {B : Nat} {w : World} {U : Rl} {v : Value} {l : List Link} (h : LkR B w U v l) (hl : l ≠ []) : ∃ g cap, v = .slice (some ⟨g, 0, none⟩) l.length cap ∧ l.length ≤ cap := by
  rcases h.1.2 with ⟨_, h0⟩ | ⟨g, cap, cur, hv, _, _, hle, _⟩
  · exact absurd (List.eq_nil_of_length_eq_zero h0) hl
  · exact ⟨g, cap, hv, hle⟩
theorem LkR.at {B g n cap : Nat} {w : World} {U : Rl} {l : List Link} (h : LkR B w U (.slice (some ⟨g, 0, none⟩) n cap) l) {i : Nat} {x : Link} (hx : l[i]? = some x) (j : Nat) (u : Value) (hu : (lkVals x)[j]? = some u) : w.cell? ⟨g, i * 6 + j, none⟩ = some u := by
  have := h.1.cells (g := g) rfl (i * 6 + j) u (lkAll_at l i x hx j u hu)
  rwa [addr_add0] at this
theorem LkR.cut {B g n cap : Nat} {w : World} {U : Rl} {l : List Link} {x : Link} (h : LkR B w U (.slice (some ⟨g, 0, none⟩) n cap) (l ++ [x])) : LkR B w U (.slice (some ⟨g, 0, none⟩) l.length cap) l := by
  refine ⟨⟨lkAll_len l, .inr ?_⟩, h.2⟩
  rcases h.1.2 with ⟨e, _⟩ | ⟨g', cap', cur, hv, hb, hg, hle, hm, hs, hx⟩
  · simp at e
  · simp only [Value.slice.injEq, Option.some.injEq, Addr.mk.injEq, and_true, true_and] at hv
    obtain ⟨rfl, hn, rfl⟩ := hv
    simp only [List.length_append, List.length_cons, List.length_nil] at hle hx
    refine ⟨g, cap, cur, rfl, hb, hg, by omega, hm, hs, ?_⟩
    rw [lkAll_app] at hx
    have h2 := congrArg (List.take (l.length * 6)) hx
    have h3 : (lkAll l ++ lkAll [x]).take (l.length * 6) = lkAll l := by
      rw [List.take_append_of_le_length (by rw [lkAll_len]; exact Nat.le_refl _)]
      exact List.take_of_length_le (by rw [lkAll_len]; exact Nat.le_refl _)
    rw [List.take_take, Nat.min_eq_left (by omega), h3] at h2
    exact h2

section
variable {ts : List Tok} {st : PS}
/-- the infix name at hand, as a link -/
def lkOf (ts : List Tok) (st : PS) : Link := ⟨lookP (tokAt ts 0 st).text st.sc, (tokAt ts 0 st).text, hereP ts st⟩
def goesOn (ts : List Tok) (ex : Bool) (st : PS) : Bool := ex && isP ts 0 [61] st || infixP (tokAt ts 0 st) st
theorem rowL_step {operand : M Nat} {ex : Bool} {f : Nat} {args : List Nat} {ops : List Link} {β : Type} {k : List Nat × List Link → M β} {R : Except Flt (β × PS)} (HR : R = (rowL ts operand ex (f + 1) args ops >>= k) st) :
    (goesOn ts ex st = false ∧ R = k (args, ops) st) ∨ (goesOn ts ex st = true ∧ R = (skipM ts 1 >>= fun _ => popM (lkOf ts st) ex (ops.length + 1) args ops >>= fun p => operand >>= fun i => roomM p.1 >>= fun _ => roomM p.2 >>= fun _ => rowL ts operand ex f (p.1 ++ [i]) (p.2 ++ [lkOf ts st]) >>= k) st) := by
  cases hc : goesOn ts ex st
  · refine .inl ⟨rfl, ?_⟩
    rw [HR]
    refine bind_ok ?_
    show (if goesOn ts ex st = true then _ else pure (args, ops) : M (List Nat × List Link)) st = _
    rw [hc]; rfl
  · refine .inr ⟨rfl, ?_⟩
    rw [HR]
    have h1 : rowL ts operand ex (f + 1) args ops st = (skipM ts 1 >>= fun _ => popM (lkOf ts st) ex (ops.length + 1) args ops >>= fun p => operand >>= fun i => roomM p.1 >>= fun _ => roomM p.2 >>= fun _ => rowL ts operand ex f (p.1 ++ [i]) (p.2 ++ [lkOf ts st])) st := by
      show (if goesOn ts ex st = true then _ else pure (args, ops) : M (List Nat × List Link)) st = _
      rw [hc]; rfl
    have h2 : ∀ {m : M (List Nat × List Link)}, rowL ts operand ex (f + 1) args ops st = m st → (rowL ts operand ex (f + 1) args ops >>= k) st = (m >>= k) st := fun {m} h => by
      show M.bnd _ k st = M.bnd m k st
      unfold M.bnd
      rw [h]
    rw [h2 h1, bind_assoc_at]; apply bind_congr_at; intro _ s1
    rw [bind_assoc_at]; apply bind_congr_at; intro p s2
    rw [bind_assoc_at]; apply bind_congr_at; intro i s3
    rw [bind_assoc_at]; apply bind_congr_at; intro _ s4
    rw [bind_assoc_at]
theorem popM_nil {x : Link} {ex : Bool} {f : Nat} {args : List Nat} {β : Type} {k : List Nat × List Link → M β} {R : Except Flt (β × PS)} (HR : R = (popM x ex (f + 1) args [] >>= k) st) : R = k (args, []) st := HR
theorem popM_last {x o : Link} {ex : Bool} {f : Nat} {args : List Nat} {ops : List Link} {β : Type} {k : List Nat × List Link → M β} {R : Except Flt (β × PS)} (HR : R = (popM x ex (f + 1) args (ops ++ [o]) >>= k) st) :
    R = (aheadM o x >>= fun c => if c = true then (joinM args o ex >>= fun a => popM x ex f a ops >>= k) else k (args, ops ++ [o])) st := by
  rw [HR, show popM x ex (f + 1) args (ops ++ [o]) = (aheadM o x >>= fun c => if c = true then (joinM args o ex >>= fun a => popM x ex f a ops) else pure (args, ops ++ [o])) by
    conv => lhs; unfold popM
    simp]
  rw [bind_assoc_at]; apply bind_congr_at; intro c s1
  cases c
  · rfl
  · simp only [↓reduceIte]
    rw [bind_assoc_at]
theorem foldM_nil {ex : Bool} {f : Nat} {args : List Nat} {β : Type} {k : List Nat → M β} {R : Except Flt (β × PS)} (HR : R = (foldM ex (f + 1) args [] >>= k) st) : R = k args st := HR
theorem foldM_last {o : Link} {ex : Bool} {f : Nat} {args : List Nat} {ops : List Link} {β : Type} {k : List Nat → M β} {R : Except Flt (β × PS)} (HR : R = (foldM ex (f + 1) args (ops ++ [o]) >>= k) st) :
    R = (joinM args o ex >>= fun a => foldM ex f a ops >>= k) st := by
  rw [HR, show foldM ex (f + 1) args (ops ++ [o]) = (joinM args o ex >>= fun a => foldM ex f a ops) by
    conv => lhs; unfold foldM
    simp]
  rw [bind_assoc_at]
end

end Go.Proofs.YtbchkldhnjahaaaGreatDoor
