/- The parser's state in memory, as one word; what a function of the parser leaves. Conditions: those of each theorem. -/
import Derived.Test.YtbchkldhnjahaaaGreatDoorTrSt
namespace Go.Proofs.YtbchkldhnjahaaaGreatDoor
open Go.RowKit Kiln
open Go.Proofs
open Go.Maps (Keyed)

/-- the tokens lie so, from the start -/
structure Tks (w0 : World) (tv : Value) (ts : List Tok) : Prop where
  tok : TkS w0 tv ts
  len : ts.length ≤ 4398046511104
  int : ∀ t ∈ ts, t.kind = 4 → t.text ≠ []
  siz : ∀ t ∈ ts, t.text.length ≤ 17592186044416

/-- the scope that there is -/
def qsV : List Nat → Value
  | [] => .pointer none
  | q :: _ => .pointer (some ⟨q, 0, none⟩)

/-- the parser's state lies so; nv, dv: its two rows, xs: the nodes' cells -/
structure TSm (w0 : World) (tv : Value) (ts : List Tok) (b : Nat) (qs : List Nat) (w : World) (U : Rl) (st : PS) (nv dv : Value) (xs : List Value) : Prop where
  base : Below w0.heap.size w0 w
  hi : ∀ k, U k ≠ 0 → w0.heap.size ≤ k ∧ k < w.heap.size
  ub : U b = 1
  blk : w.heap[b]? = some (.cells #[tv, .int .i64 st.pos, nv, dv, .int .i64 st.opn, qsV qs] 76 (0, 0))
  nrow : w.ownsRow w0.heap.size 41 6 nv st.nodes.length xs
  nds : NdS w U st.nodes xs
  nim : Im U nv 2
  drow : w.ownsRow w0.heap.size 3 1 dv st.deep.length (st.deep.map fun d => Value.int .i64 (d : Nat))
  dim : Im U dv 3
  sc : ScS w U qs st.sc
  deep : st.deep.length ≤ 262144
  pos : st.pos ≤ ts.length
  opn : st.opn ≤ 1001
  many : st.nodes.length ≤ 262144
  dle : ∀ d ∈ st.deep, d ≤ 1000
def TSt (w0 : World) (tv : Value) (ts : List Tok) (b : Nat) (qs : List Nat) (w : World) (U : Rl) (st : PS) : Prop := ∃ nv dv xs, TSm w0 tv ts b qs w U st nv dv xs

section
variable {w0 : World} {tv : Value} {ts : List Tok} {b : Nat} {qs : List Nat} {w : World} {U : Rl} {st : PS} {nv dv : Value} {xs : List Value}

theorem TSt.base (h : TSt w0 tv ts b qs w U st) : Below w0.heap.size w0 w := let ⟨_, _, _, k⟩ := h; k.base
theorem TSt.hi (h : TSt w0 tv ts b qs w U st) : ∀ k, U k ≠ 0 → w0.heap.size ≤ k ∧ k < w.heap.size := let ⟨_, _, _, k⟩ := h; k.hi
theorem TSt.ub (h : TSt w0 tv ts b qs w U st) : U b = 1 := let ⟨_, _, _, k⟩ := h; k.ub
theorem TSt.sc (h : TSt w0 tv ts b qs w U st) : ScS w U qs st.sc := let ⟨_, _, _, k⟩ := h; k.sc
theorem TSt.pos (h : TSt w0 tv ts b qs w U st) : st.pos ≤ ts.length := let ⟨_, _, _, k⟩ := h; k.pos
theorem TSt.opn (h : TSt w0 tv ts b qs w U st) : st.opn ≤ 1001 := let ⟨_, _, _, k⟩ := h; k.opn
theorem TSt.many (h : TSt w0 tv ts b qs w U st) : st.nodes.length ≤ 262144 := let ⟨_, _, _, k⟩ := h; k.many
theorem TSt.zero (h : TSt w0 tv ts b qs w U st) {k : Nat} (hk : w.heap.size ≤ k) : U k = 0 := by
  rcases Nat.eq_zero_or_pos (U k) with h0 | h0
  · exact h0
  · have := (h.hi k (by omega)).2; omega

theorem TSm.same {w' : World} (h : TSm w0 tv ts b qs w U st nv dv xs) (hb : Below w0.heap.size w w') (hk : ∀ k, U k ≠ 0 → w'.heap[k]? = w.heap[k]?) : TSm w0 tv ts b qs w' U st nv dv xs := by
  have hsz := hb.size
  exact ⟨h.base.trans hb, fun k hu => ⟨(h.hi k hu).1, Nat.lt_of_lt_of_le (h.hi k hu).2 hsz⟩, h.ub,
    (hk b (by rw [h.ub]; decide)).trans h.blk, row_keep h.nrow (fun k e => hk k (by rw [h.nim k e]; decide)), h.nds.keep (fun k e => ⟨hk k (by rw [e]; decide), e⟩), h.nim, row_keep h.drow (fun k e => hk k (by rw [h.dim k e]; decide)), h.dim,
    h.sc.keep (fun k e _ => ⟨hk k (by omega), rfl⟩), h.deep, h.pos, h.opn, h.many, h.dle⟩
theorem TSm.alloc (h : TSm w0 tv ts b qs w U st nv dv xs) (o : Obj) : TSm w0 tv ts b qs (w.alloc o) U st nv dv xs :=
  h.same ((Below.refl _ w).alloc h.base.size o) fun k hu => Below.heap_alloc w o k (h.hi k hu).2
theorem TSm.below (h : TSm w0 tv ts b qs w U st nv dv xs) {w' : World} (hb : Below w.heap.size w w') : TSm w0 tv ts b qs w' U st nv dv xs :=
  h.same (hb.mono h.base.size) fun k hu => hb.block k (h.hi k hu).2
theorem TSt.same {w' : World} (h : TSt w0 tv ts b qs w U st) (hb : Below w0.heap.size w w') (hk : ∀ k, U k ≠ 0 → w'.heap[k]? = w.heap[k]?) : TSt w0 tv ts b qs w' U st :=
  let ⟨_, _, _, k⟩ := h; ⟨_, _, _, k.same hb hk⟩
theorem TSt.below (h : TSt w0 tv ts b qs w U st) {w' : World} (hb : Below w.heap.size w w') : TSt w0 tv ts b qs w' U st := let ⟨_, _, _, k⟩ := h; ⟨_, _, _, k.below hb⟩
theorem TSt.alloc (h : TSt w0 tv ts b qs w U st) (o : Obj) : TSt w0 tv ts b qs (w.alloc o) U st := let ⟨_, _, _, k⟩ := h; ⟨_, _, _, k.alloc o⟩
theorem TSt.drewN (h : TSt w0 tv ts b qs w U st) (n : Nat) : TSt w0 tv ts b qs (w.drewN n) U st := h.same ⟨rfl, rfl, rfl, Nat.le_refl _, fun _ _ => rfl⟩ fun _ _ => rfl
theorem TSt.drew (h : TSt w0 tv ts b qs w U st) : TSt w0 tv ts b qs w.drew U st := h.same ⟨rfl, rfl, rfl, Nat.le_refl _, fun _ _ => rfl⟩ fun _ _ => rfl
theorem TSt.grown {w' : World} {row : Option Nat} (h : TSt w0 tv ts b qs w U st) (hg : w.grownBy w' row) (hr : ∀ k, row = some k → w0.heap.size ≤ k ∧ U k = 0) : TSt w0 tv ts b qs w' U st :=
  h.same ((Below.refl _ w).grown hg h.base.size fun k e => (hr k e).1) fun k hu => hg.block k (h.hi k hu).2 fun e => hu (hr k e.symm).2
theorem TSt.off (h : TSt w0 tv ts b qs w U st) {p : Addr} (hp : w0.heap.size ≤ p.block) (hu : U p.block = 0) (x : Value) : TSt w0 tv ts b qs (w.setCell p x) U st :=
  h.same ((Below.refl _ w).setCell hp x) fun k hk => heap_setCell_other w p k x (by rintro rfl; exact hk hu)

/-- a block is taken in -/
theorem TSt.take {k r : Nat} (h : TSt w0 tv ts b qs w U st) (hk : U k = 0) (hl : w0.heap.size ≤ k ∧ k < w.heap.size) : TSt w0 tv ts b qs w (U.set k r) st := by
  obtain ⟨nv, dv, xs, h⟩ := h
  have hs : ∀ i, U i ≠ 0 → U.set k r i = U i := fun i hi => Rl.set_other (by rintro rfl; exact hi hk)
  refine ⟨nv, dv, xs, h.base, fun i hi => ?_, (hs b (by rw [h.ub]; decide)).trans h.ub, h.blk, h.nrow,
    h.nds.keep (fun i e => ⟨rfl, (hs i (by rw [e]; decide)).trans e⟩), fun i e => (hs i (by rw [h.nim i e]; decide)).trans (h.nim i e), h.drow, fun i e => (hs i (by rw [h.dim i e]; decide)).trans (h.dim i e),
    h.sc.keep (fun i e _ => ⟨rfl, hs i (by omega)⟩), h.deep, h.pos, h.opn, h.many, h.dle⟩
  by_cases hik : i = k
  · subst hik; exact hl
  · rw [Rl.set_other hik] at hi; exact h.hi i hi
theorem TSt.give {B r : Nat} {v : Value} {l : List Int} (h : TSt w0 tv ts b qs w U st) (hv : LR B w U v l) (hB : w0.heap.size ≤ B) : TSt w0 tv ts b qs w (U.give v r) st := by
  unfold Rl.give
  cases hb : v.ownBlock with
  | none => exact h
  | some k => exact h.take (hv.2 k hb) ⟨Nat.le_trans hB (hv.lt k hb).1, (hv.lt k hb).2⟩

theorem setCell_5 {w : World} {b : Nat} {T : TypeId} {v0 v1 v2 v3 v4 v5 : Value} (h : w.heap[b]? = some (.cells #[v0, v1, v2, v3, v4, v5] T (0, 0))) (x : Value) :
    (w.setCell ⟨b, 1, none⟩ x).heap[b]? = some (.cells #[v0, x, v2, v3, v4, v5] T (0, 0)) ∧ (w.setCell ⟨b, 2, none⟩ x).heap[b]? = some (.cells #[v0, v1, x, v3, v4, v5] T (0, 0)) ∧
    (w.setCell ⟨b, 3, none⟩ x).heap[b]? = some (.cells #[v0, v1, v2, x, v4, v5] T (0, 0)) ∧ (w.setCell ⟨b, 4, none⟩ x).heap[b]? = some (.cells #[v0, v1, v2, v3, x, v5] T (0, 0)) ∧
    (w.setCell ⟨b, 5, none⟩ x).heap[b]? = some (.cells #[v0, v1, v2, v3, v4, x] T (0, 0)) :=
  ⟨heap_setCell_same w b 1 _ T x h, heap_setCell_same w b 2 _ T x h, heap_setCell_same w b 3 _ T x h, heap_setCell_same w b 4 _ T x h, heap_setCell_same w b 5 _ T x h⟩

/-- the parser's own block has turned, and nothing else -/
theorem TSt.turn {w' : World} {qs' : List Nat} {st' : PS} (h : TSt w0 tv ts b qs w U st) (hb : Below w0.heap.size w w') (hk : ∀ k, U k ≠ 0 → k ≠ b → w'.heap[k]? = w.heap[k]?)
    (hm : ∀ nv dv, w.heap[b]? = some (.cells #[tv, .int .i64 st.pos, nv, dv, .int .i64 st.opn, qsV qs] 76 (0, 0)) →
      w'.heap[b]? = some (.cells #[tv, .int .i64 st'.pos, nv, dv, .int .i64 st'.opn, qsV qs'] 76 (0, 0)))
    (hn : st'.nodes = st.nodes) (hd : st'.deep = st.deep) (hs : ScS w' U qs' st'.sc) (hp : st'.pos ≤ ts.length) (ho : st'.opn ≤ 1001) : TSt w0 tv ts b qs' w' U st' := by
  obtain ⟨nv, dv, xs, h⟩ := h
  have hub := h.ub
  have hne : ∀ (k r : Nat), 1 < r → U k = r → k ≠ b := by rintro k r hr hk rfl; omega
  have hsz := hb.size
  refine ⟨nv, dv, xs, h.base.trans hb, fun k hu => ⟨(h.hi k hu).1, Nat.lt_of_lt_of_le (h.hi k hu).2 hsz⟩, h.ub,
    hm nv dv h.blk, ?_, ?_, h.nim, ?_, h.dim, hs, by rw [hd]; exact h.deep, hp, ho, by rw [hn]; exact h.many, by rw [hd]; exact h.dle⟩
  · rw [hn]; exact row_keep h.nrow (fun k e => hk k (by rw [h.nim k e]; decide) (hne k 2 (by decide) (h.nim k e)))
  · rw [hn]; exact h.nds.keep (fun k e => ⟨hk k (by rw [e]; decide) (hne k 4 (by decide) e), e⟩)
  · rw [hd]; exact row_keep h.drow (fun k e => hk k (by rw [h.dim k e]; decide) (hne k 3 (by decide) (h.dim k e)))

theorem TSt.bb (h : TSt w0 tv ts b qs w U st) : w0.heap.size ≤ b ∧ b < w.heap.size := h.hi b (by rw [h.ub]; decide)

theorem TSt.setPos (h : TSt w0 tv ts b qs w U st) (n : Nat) (hn : n ≤ ts.length) : TSt w0 tv ts b qs (w.setCell ⟨b, 1, none⟩ (.int .i64 n)) U { st with pos := n } := by
  have hub := h.ub
  refine h.turn ((Below.refl _ w).setCell h.bb.1 _) (fun k _ hk => heap_setCell_other w _ k _ hk) (fun nv dv h1 => (setCell_5 h1 _).1) rfl rfl ?_ hn h.opn
  exact h.sc.keep (fun k e _ => ⟨heap_setCell_other w _ k _ (by rintro rfl; omega), rfl⟩)
theorem TSt.setOpn (h : TSt w0 tv ts b qs w U st) (n : Nat) (hn : n ≤ 1001) : TSt w0 tv ts b qs (w.setCell ⟨b, 4, none⟩ (.int .i64 n)) U { st with opn := n } := by
  have hub := h.ub
  refine h.turn ((Below.refl _ w).setCell h.bb.1 _) (fun k _ hk => heap_setCell_other w _ k _ hk) (fun nv dv h1 => (setCell_5 h1 _).2.2.2.1) rfl rfl ?_ h.pos hn
  exact h.sc.keep (fun k e _ => ⟨heap_setCell_other w _ k _ (by rintro rfl; omega), rfl⟩)
/-- another scope -/
theorem TSt.setIn (h : TSt w0 tv ts b qs w U st) {qs' : List Nat} {sc : List Names} (hs : ScS w U qs' sc) : TSt w0 tv ts b qs' (w.setCell ⟨b, 5, none⟩ (qsV qs')) U { st with sc := sc } := by
  have hub := h.ub
  refine h.turn ((Below.refl _ w).setCell h.bb.1 _) (fun k _ hk => heap_setCell_other w _ k _ hk) (fun nv dv h1 => (setCell_5 h1 _).2.2.2.2) rfl rfl ?_ h.pos h.opn
  exact hs.keep (fun k e _ => ⟨heap_setCell_other w _ k _ (by rintro rfl; omega), rfl⟩)

theorem TSt.frame (h : TSt w0 tv ts b qs w U st) (i : Nat) (x : Value) : Fr w U (w.setCell ⟨b, i, none⟩ x) U :=
  (Fr.refl w U).setCell (p := ⟨b, i, none⟩) (.inr (by rw [show U (⟨b, i, none⟩ : Addr).block = 1 from h.ub]; decide)) x

/-- what the walk reads of the parser -/
theorem TSt.reads (h : TSt w0 tv ts b qs w U st) : ∃ nv dv, w.cell? ⟨b, 0, none⟩ = some tv ∧ w.cell? ⟨b, 1, none⟩ = some (.int .i64 st.pos) ∧ w.cell? ⟨b, 2, none⟩ = some nv ∧ w.cell? ⟨b, 3, none⟩ = some dv ∧
    w.cell? ⟨b, 4, none⟩ = some (.int .i64 st.opn) ∧ w.cell? ⟨b, 5, none⟩ = some (qsV qs) ∧ (∀ i, w.frozen? ⟨b, i, none⟩ = false) := by
  obtain ⟨nv, dv, xs, h1⟩ := h
  replace h1 := h1.blk
  refine ⟨nv, dv, ?_, ?_, ?_, ?_, ?_, ?_, fun i => frozen_of_row w b i _ _ h1⟩ <;> simp [World.cell?, h1]

/-- a fault, on its way -/
abbrev fltE (l c : Int) (k : Nat) : Ending := .panicked [{ v := .iface 70 (.agg #[.int .i64 l, .int .i64 c, .int .i64 k]), recovered := false }]

/-- what a function of the parser leaves: V says how the result reads -/
def TPost (w0 : World) (tv : Value) (ts : List Tok) (b : Nat) (qs : List Nat) {α : Type} (V : α → Value → World → Rl → Prop) (R : Except Flt (α × PS)) (w : World) (U : Rl) (e : Ending) (w' : World) : Prop :=
  match R with
  | .ok x => ∃ v U', e = .returned v ∧ V x.1 v w' U' ∧ TSt w0 tv ts b qs w' U' x.2 ∧ Fr w U w' U'
  | .error (.stop l c k) => e = fltE l c k ∧ Below w0.heap.size w0 w'
  | .error .out => False

/-- at a call's end -/
theorem TPost.step {α β : Type} {V : α → Value → World → Rl → Prop} {m : M α} {f : α → M β} {R : Except Flt (β × PS)} {e : Ending} {w' : World} (h : TPost w0 tv ts b qs V (m st) w U e w') (HR : R = (m >>= f) st) :
    (∃ x st' v U', e = .returned v ∧ V x v w' U' ∧ TSt w0 tv ts b qs w' U' st' ∧ Fr w U w' U' ∧ R = f x st') ∨
    (∃ l c k, e = fltE l c k ∧ Below w0.heap.size w0 w' ∧ R = .error (.stop l c k)) := by
  unfold TPost at h
  cases hm : m st with
  | ok x =>
    rw [hm] at h
    obtain ⟨v, U', h1, h2, h3, h4⟩ := h
    exact .inl ⟨x.1, x.2, v, U', h1, h2, h3, h4, HR.trans (bind_ok hm)⟩
  | error g =>
    rw [hm] at h
    cases g with
    | out => exact h.elim
    | stop l c k => exact .inr ⟨l, c, k, h.1, h.2, HR.trans (bind_err hm)⟩
/-- nothing untold is called -/
theorem ne_of {α β : Type} {m : M α} {f : α → M β} {R : Except Flt (β × PS)} (HR : R = (m >>= f) st) (hne : R ≠ .error .out) : m st ≠ .error .out := fun h => hne (HR.trans (bind_err h))

theorem TPost.good {α : Type} {V : α → Value → World → Rl → Prop} {R : Except Flt (α × PS)} {e : Ending} {w' : World} {x : α} {v : Value} {st' : PS} {U' : Rl} (hR : R = .ok (x, st')) (he : e = .returned v) (hv : V x v w' U') (hp : TSt w0 tv ts b qs w' U' st') (hf : Fr w U w' U') :
    TPost w0 tv ts b qs V R w U e w' := by subst hR; exact ⟨v, U', he, hv, hp, hf⟩
theorem TPost.bad {α : Type} {V : α → Value → World → Rl → Prop} {R : Except Flt (α × PS)} {e : Ending} {w' : World} {l c : Int} {k : Nat} (hR : R = .error (.stop l c k)) (he : e = fltE l c k) (hb : Below w0.heap.size w0 w') :
    TPost w0 tv ts b qs V R w U e w' := by subst hR; exact ⟨he, hb⟩

/-- how results read -/
def idR (i : Nat) (v : Value) (_ : World) (_ : Rl) : Prop := v = .int .i64 (i : Nat)
def unitR (_ : Unit) (v : Value) (_ : World) (_ : Rl) : Prop := v = .tuple #[]
def boolR (x : Bool) (v : Value) (_ : World) (_ : Rl) : Prop := v = .bool x
def strR (x : Bytes) (v : Value) (_ : World) (_ : Rl) : Prop := v = str x
def lstR (B : Nat) (l : List Nat) (v : Value) (w : World) (U : Rl) : Prop := LR B w U v (l.map Int.ofNat) ∧ l.length ≤ 1099511627776

end
end Go.Proofs.YtbchkldhnjahaaaGreatDoor
