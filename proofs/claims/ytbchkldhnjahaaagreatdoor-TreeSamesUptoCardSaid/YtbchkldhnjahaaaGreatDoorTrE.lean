/- A cursor over the parser's worlds; and: what the call returns, and what it leaves. Conditions: those of each theorem. -/
import Derived.Test.YtbchkldhnjahaaaGreatDoorTrP
import Derived.Test.YtbchkldhnjahaaaGreatDoorTrD
namespace Go.Proofs.YtbchkldhnjahaaaGreatDoor
open Go.RowKit Kiln
open Go.Proofs

/-- from a world on: where the parser is now -/
structure Cur (w0 : World) (tv : Value) (ts : List Tok) (b : Nat) (qs : List Nat) (w : World) (U : Rl) (wc : World) (Uc : Rl) (st : PS) : Prop where
  p : TSt w0 tv ts b qs wc Uc st
  f : Fr w U wc Uc
  le : w0.heap.size ≤ w.heap.size

section
variable {w0 : World} {tv : Value} {ts : List Tok} {b : Nat} {qs : List Nat} {w : World} {U : Rl} {st : PS} {wc : World} {Uc : Rl} {stc : PS}

theorem Cur.start (h : TSt w0 tv ts b qs w U st) : Cur w0 tv ts b qs w U w U st := ⟨h, Fr.refl w U, h.base.size⟩
theorem Cur.alloc (h : Cur w0 tv ts b qs w U wc Uc stc) (o : Obj) : Cur w0 tv ts b qs w U (wc.alloc o) Uc stc := ⟨h.p.alloc o, h.f.alloc o, h.le⟩
theorem Cur.below (h : Cur w0 tv ts b qs w U wc Uc stc) {w' : World} (hb : Below wc.heap.size wc w') : Cur w0 tv ts b qs w U w' Uc stc := ⟨h.p.below hb, h.f.below hb, h.le⟩
theorem Cur.next (h : Cur w0 tv ts b qs w U wc Uc stc) {w' : World} {U' : Rl} {st' : PS} (hp : TSt w0 tv ts b qs w' U' st') (hf : Fr wc Uc w' U') : Cur w0 tv ts b qs w U w' U' st' := ⟨hp, h.f.trans hf, h.le⟩
theorem Cur.drew (h : Cur w0 tv ts b qs w U wc Uc stc) : Cur w0 tv ts b qs w U wc.drew Uc stc := ⟨h.p.drew, h.f.drew, h.le⟩
theorem Cur.drewN (h : Cur w0 tv ts b qs w U wc Uc stc) (n : Nat) : Cur w0 tv ts b qs w U (wc.drewN n) Uc stc := ⟨h.p.drewN n, h.f.drewN n, h.le⟩
theorem Cur.size (h : Cur w0 tv ts b qs w U wc Uc stc) : w.heap.size ≤ wc.heap.size := h.f.size
/-- a list of one's own is handed over -/
theorem Cur.give {B r : Nat} {v : Value} {l : List Int} (h : Cur w0 tv ts b qs w U wc Uc stc) (hv : LR B wc Uc v l) (hB : w.heap.size ≤ B) : Cur w0 tv ts b qs w U wc (Uc.give v r) stc :=
  ⟨h.p.give hv (Nat.le_trans h.le hB), h.f.give fun k e => .inl (Nat.le_trans hB (hv.lt k e).1), h.le⟩
/-- one more is put behind a list of one's own -/
theorem Cur.push {B n g cap : Nat} {v : Value} {w2 : World} (h : Cur w0 tv ts b qs w U wc Uc stc) (hv : ∀ k, v.ownBlock = some k → B ≤ k) (hi : Im Uc v 0) (hB : w.heap.size ≤ B)
    (hg : wc.grownBy w2 v.ownBlock) (hgb : v.ownBlock = some g ∨ g = wc.heap.size) : Cur w0 tv ts b qs w U w2 Uc stc ∧ Im Uc (.slice (some ⟨g, 0, none⟩) n cap) 0 :=
  ⟨⟨h.p.grown hg fun k e => ⟨Nat.le_trans (Nat.le_trans h.le hB) (hv k e), hi k e⟩, h.f.grown hg fun k e => .inl (Nat.le_trans hB (hv k e)), h.le⟩, fun k e => by
    simp only [Value.ownBlock, Option.some.injEq] at e; subst e
    rcases hgb with e | e
    · exact hi _ e
    · exact h.p.zero (by rw [e]; exact Nat.le_refl _)⟩

/-- a call's answer, from a cursor -/
theorem Cur.call {α β : Type} {V : α → Value → World → Rl → Prop} {m : M α} {f : α → M β} {R : Except Flt (β × PS)} {e : Ending} {w' : World} (hc : Cur w0 tv ts b qs w U wc Uc stc) (h : TPost w0 tv ts b qs V (m stc) wc Uc e w') (HR : R = (m >>= f) stc) :
    (∃ x st' v U', e = .returned v ∧ V x v w' U' ∧ Cur w0 tv ts b qs w U w' U' st' ∧ Fr wc Uc w' U' ∧ R = f x st') ∨
    (∃ l c k, e = fltE l c k ∧ TPost w0 tv ts b qs (fun (_ : β) _ _ _ => True) R w U e w' ∧ ∀ V' : β → Value → World → Rl → Prop, TPost w0 tv ts b qs V' R w U e w') := by
  rcases h.step HR with ⟨x, st', v, U', h1, h2, h3, h4, h5⟩ | ⟨l, c, k, h1, h2, h3⟩
  · exact .inl ⟨x, st', v, U', h1, h2, hc.next h3 h4, h4, h5⟩
  · exact .inr ⟨l, c, k, h1, TPost.bad h3 h1 h2, fun _ => TPost.bad h3 h1 h2⟩

/-- the last call's answer, from a cursor -/
theorem Cur.last {α : Type} {V : α → Value → World → Rl → Prop} {m : M α} {R : Except Flt (α × PS)} {e : Ending} {w' : World} (hc : Cur w0 tv ts b qs w U wc Uc stc) (h : TPost w0 tv ts b qs V (m stc) wc Uc e w') (HR : R = m stc) :
    (∃ x v U', e = .returned v ∧ V x v w' U' ∧ TPost w0 tv ts b qs V R w U (.returned v) w') ∨ (∃ l c k, e = fltE l c k ∧ TPost w0 tv ts b qs V R w U (fltE l c k) w') := by
  rw [← HR] at h
  unfold TPost at h ⊢
  cases R with
  | ok x =>
    obtain ⟨v, U', rfl, h2, h3, h4⟩ := h
    exact .inl ⟨x.1, v, U', rfl, h2, v, U', rfl, h2, h3, hc.f.trans h4⟩
  | error g =>
    cases g with
    | out => exact h.elim
    | stop l c k => exact .inr ⟨l, c, k, h.1, rfl, h.2⟩

/-- a step that only reads -/
theorem ro_step {α β : Type} {g : PS → α} {f : α → M β} {R : Except Flt (β × PS)} (HR : R = ((fun s => .ok (g s, s) : M α) >>= f) st) : R = f (g st) st := HR
theorem of_step {β : Type} {i : Nat} {f : Int × Int → M β} {R : Except Flt (β × PS)} (HR : R = (ofM i >>= f) st) (hne : R ≠ .error .out) : i < st.nodes.length ∧ R = f (ofP i st) st := by
  by_cases h : i < st.nodes.length
  · exact ⟨h, HR.trans (bind_ok (by unfold ofM; rw [if_pos h]))⟩
  · exact absurd (HR.trans (bind_err (by unfold ofM; rw [if_neg h]))) hne
theorem Cur.skip (h : Cur w0 tv ts b qs w U wc Uc stc) (n : Nat) {β : Type} {f : Unit → M β} {R : Except Flt (β × PS)} (HR : R = (skipM ts n >>= f) stc) (hne : R ≠ .error .out) :
    Cur w0 tv ts b qs w U (wc.setCell ⟨b, 1, none⟩ (.int .i64 ((stc.pos : Int) + (n : Int)))) Uc { stc with pos := stc.pos + n } ∧ R = f () { stc with pos := stc.pos + n } := by
  by_cases hl : stc.pos + n ≤ ts.length
  · refine ⟨⟨?_, h.f.trans (h.p.frame 1 _), h.le⟩, HR.trans (bind_ok (by unfold skipM; rw [if_pos hl]))⟩
    have := h.p.setPos (stc.pos + n) hl
    rwa [show ((stc.pos + n : Nat) : Int) = (stc.pos : Int) + (n : Int) from by omega] at this
  · exact absurd (HR.trans (bind_err (by unfold skipM; rw [if_neg hl]))) hne
theorem bind_assoc_at {α β γ : Type} (m : M α) (f : α → M β) (g : β → M γ) (st : PS) : ((m >>= f) >>= g) st = (m >>= fun x => f x >>= g) st := by
  show M.bnd (M.bnd m f) g st = M.bnd m (fun x => M.bnd (f x) g) st
  unfold M.bnd
  cases m st <;> rfl
theorem bind_congr_at {α β : Type} {m : M α} {f g : α → M β} {st : PS} (h : ∀ x st1, f x st1 = g x st1) : (m >>= f) st = (m >>= g) st := by
  show M.bnd m f st = M.bnd m g st
  unfold M.bnd
  cases m st
  · rfl
  · exact h _ _
theorem one_ints (l : List Int) : ∀ u ∈ l.map (Value.int .i64), u.oneCell' = true := by
  intro u hu
  simp only [List.mem_map] at hu
  obtain ⟨a, -, rfl⟩ := hu
  rfl
/-- a list of one's own, handed over -/
theorem Cur.own {v : Value} {l : List Nat} (h : Cur w0 tv ts b qs w U wc Uc stc) (hv : LR w.heap.size wc Uc v (l.map Int.ofNat)) :
    Cur w0 tv ts b qs w U wc (Uc.give v 4) stc ∧ Ints wc v (l.map Int.ofNat) ∧ Im (Uc.give v 4) v 4 := ⟨h.give hv (Nat.le_refl _), hv.ints, Im.give Uc v 4⟩

theorem room_step {α β : Type} {l : List α} {f : Unit → M β} {R : Except Flt (β × PS)} (HR : R = (roomM l >>= f) st) (hne : R ≠ .error .out) : l.length < 1099511627776 ∧ R = f () st := by
  by_cases h : l.length < 1099511627776
  · exact ⟨h, HR.trans (bind_ok (by unfold roomM; rw [if_pos h]))⟩
  · exact absurd (HR.trans (bind_err (by unfold roomM; rw [if_neg h]))) hne

/-- a block of the function's own, off the parser's -/
def Loc (wc : World) (Uc : Rl) (L : Nat) (cs : Array Value) (T : TypeId) : Prop := wc.heap[L]? = some (.cells cs T (0, 0)) ∧ Uc L = 0
theorem Loc.new (h : Cur w0 tv ts b qs w U wc Uc stc) (cs : Array Value) (T : TypeId) : Loc (wc.alloc (.cells cs T)) Uc wc.heap.size cs T := ⟨heap_alloc_new wc _, h.p.zero (Nat.le_refl _)⟩
theorem Loc.lt {L : Nat} {cs : Array Value} {T : TypeId} (h : Loc wc Uc L cs T) : L < wc.heap.size := (Array.getElem?_eq_some_iff.1 h.1).1
theorem Loc.alloc {L : Nat} {cs : Array Value} {T : TypeId} (h : Loc wc Uc L cs T) (o : Obj) : Loc (wc.alloc o) Uc L cs T := ⟨(Below.heap_alloc wc o L h.lt).trans h.1, h.2⟩
theorem Loc.drew {L : Nat} {cs : Array Value} {T : TypeId} (h : Loc wc Uc L cs T) : Loc wc.drew Uc L cs T := h
theorem Loc.below {L : Nat} {cs : Array Value} {T : TypeId} (h : Loc wc Uc L cs T) {w' : World} (hb : Below wc.heap.size wc w') : Loc w' Uc L cs T := ⟨(hb.block L h.lt).trans h.1, h.2⟩
theorem Loc.step {L : Nat} {cs : Array Value} {T : TypeId} (h : Loc wc Uc L cs T) {w' : World} {U' : Rl} (hf : Fr wc Uc w' U') : Loc w' U' L cs T := ⟨(hf.keep L h.lt h.2).trans h.1, hf.sub L h.lt h.2⟩
theorem Loc.set {L k r : Nat} {cs : Array Value} {T : TypeId} (h : Loc wc Uc L cs T) (hk : L ≠ k) : Loc wc (Uc.set k r) L cs T := ⟨h.1, (Rl.set_other hk).trans h.2⟩
theorem Loc.cell {L : Nat} {cs : Array Value} {T : TypeId} (h : Loc wc Uc L cs T) (j : Nat) (x : Value) (hx : cs[j]? = some x) : wc.cell? ⟨L, j, none⟩ = some x := cell3 h.1 j x hx

theorem Loc.setb {L : Nat} {cs : Array Value} {T : TypeId} (h : Loc wc Uc L cs T) (hc : Cur w0 tv ts b qs w U wc Uc stc) {i : Nat} (x : Value) : Loc (wc.setCell ⟨b, i, none⟩ x) Uc L cs T :=
  ⟨(heap_setCell_other wc _ L x (by rintro rfl; have h1 := hc.p.ub; have h2 := h.2; exact absurd (h1.symm.trans h2) (by decide))).trans h.1, h.2⟩

/-- a row of numbers that is written out -/
theorem Cur.lit (h : Cur w0 tv ts b qs w U wc Uc stc) (l : List Nat) (cs : Array Value) (hc : cs = ((l.map Int.ofNat).map (Value.int .i64)).toArray) (hl : l.length ≤ maxLen) :
    Cur w0 tv ts b qs w U (wc.alloc (.cells cs 3)) (Uc.set wc.heap.size 4) stc ∧ Ints (wc.alloc (.cells cs 3)) (.slice (some ⟨wc.heap.size, 0, none⟩) l.length l.length) (l.map Int.ofNat) ∧ Im (Uc.set wc.heap.size 4) (.slice (some ⟨wc.heap.size, 0, none⟩) l.length l.length) 4 := by
  have hu : Uc wc.heap.size = 0 := h.p.zero (Nat.le_refl _)
  have hL := LR.lit (B := wc.heap.size) (w := wc) (U := Uc) (l.map Int.ofNat) cs hc (Nat.le_refl _) hu (by simpa using hl)
  rw [List.length_map] at hL
  refine ⟨⟨(h.p.alloc _).take hu ⟨Nat.le_trans h.le h.size, by simp⟩, (h.f.alloc _).set (.inl h.size), h.le⟩, hL.ints, fun k e => ?_⟩
  simp only [Value.ownBlock, Option.some.injEq] at e
  subst e
  exact Rl.set_same _ _ _

/-- the phrases' contracts -/
structure LowOK (w0 : World) (tv : Value) (ts : List Tok) (b : Nat) (L : Low) : Prop where
  exp : ∀ {qs w U st}, TSt w0 tv ts b qs w U st → L.exp st ≠ .error .out → Calls Tryz.prog 134 #[ptrV b] w (TPost w0 tv ts b qs idR (L.exp st) w U)
  pat : ∀ {qs w U st}, TSt w0 tv ts b qs w U st → L.pat st ≠ .error .out → Calls Tryz.prog 132 #[ptrV b] w (TPost w0 tv ts b qs idR (L.pat st) w U)
  ty : ∀ {qs w U st}, TSt w0 tv ts b qs w U st → L.ty st ≠ .error .out → Calls Tryz.prog 139 #[ptrV b] w (TPost w0 tv ts b qs idR (L.ty st) w U)
  decs : ∀ {qs w U st}, TSt w0 tv ts b qs w U st → L.decs st ≠ .error .out → Calls Tryz.prog 31 #[ptrV b] w (TPost w0 tv ts b qs idR (L.decs st) w U)
  str : ∀ {qs w U st}, TSt w0 tv ts b qs w U st → L.str st ≠ .error .out → Calls Tryz.prog 185 #[ptrV b] w (TPost w0 tv ts b qs idR (L.str st) w U)
  sig : ∀ {qs w U st}, TSt w0 tv ts b qs w U st → L.sig st ≠ .error .out → Calls Tryz.prog 147 #[ptrV b] w (TPost w0 tv ts b qs idR (L.sig st) w U)

theorem put_at (h : TSt w0 tv ts b qs wc Uc stc) (s : Int × Int) (k : Int) (text : Bytes) (kids : List Nat) {kv : Value} (hi : Ints wc kv (kids.map Int.ofNat)) (im : Im Uc kv 4) (hkl : kids.length ≤ 2199023255552) (hne : putM s k text kids stc ≠ .error .out) :
    Calls Tryz.prog 63 #[ptrV b, .agg #[.int .i64 s.1, .int .i64 s.2], .int .i64 k, str text, kv] wc (TPost w0 tv ts b qs idR (putM s k text kids stc) wc Uc) :=
  put_any h s k text kids kv hi im hkl hne

/-- one round of a list with signs between -/
theorem more_step {sign : Bytes} {one : M Nat} {f : Nat} {l : List Nat} {R : Except Flt (List Nat × PS)} (HR : R = moreM ts sign one (f + 1) l st) :
    R = (takeM ts sign >>= fun b => if b = true then (one >>= fun i => roomM l >>= fun _ => moreM ts sign one f (l ++ [i])) else pure l) st := HR
/-- a function of the parser that answers a node's number -/
def Ok (w0 : World) (tv : Value) (ts : List Tok) (b : Nat) (F : FuncId) (m : M Nat) : Prop :=
  ∀ qs w U st, TSt w0 tv ts b qs w U st → m st ≠ .error .out → Calls Tryz.prog F #[ptrV b] w (TPost w0 tv ts b qs idR (m st) w U)
def lst1R (B : Nat) (l : List Nat) (v : Value) (w : World) (U : Rl) : Prop := lstR B l v w U ∧ l ≠ []

end
end Go.Proofs.YtbchkldhnjahaaaGreatDoor
