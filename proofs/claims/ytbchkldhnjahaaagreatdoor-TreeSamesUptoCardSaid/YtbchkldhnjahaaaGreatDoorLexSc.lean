/- The call of Scan: what it returns. Conditions: those of the theorem. -/
import Derived.Test.YtbchkldhnjahaaaGreatDoorLexC
import Derived.Test.YtbchkldhnjahaaaGreatDoorLexP
import Derived.Test.YtbchkldhnjahaaaGreatDoorLexPl
import Derived.Deep.RegionHeld3
import Derived.Deep.DeepCutAuto
import Derived.Maps.AppendAt
namespace Go.Proofs.YtbchkldhnjahaaaGreatDoor
open Go.RowKit Kiln
open Go.Proofs

/-- a path in memory: off the block ob, from block B on -/
def StrsO (ob : Option Nat) (B : Nat) (w : World) (v : Value) (l : List Bytes) : Prop :=
  Strs w v l ∧ (l ≠ [] → ∃ a n cap, v = .slice (some a) n cap ∧ B ≤ a.block ∧ a.block < w.heap.size ∧ some a.block ≠ ob)

theorem Strs.keep {w w' : World} {v : Value} {l : List Bytes} (h : Strs w v l) (hk : l ≠ [] → ∀ a n cap, v = .slice (some a) n cap → w'.heap[a.block]? = w.heap[a.block]?) : Strs w' v l := by
  obtain ⟨a, cap, rfl, hc, hl⟩ := h
  refine ⟨a, cap, rfl, hc, fun hne => ?_⟩
  obtain ⟨b, off, rfl, hx⟩ := hl hne
  refine ⟨b, off, rfl, fun i x hi => ?_⟩
  have e : w'.heap[(⟨b, off + i, none⟩ : Addr).block]? = w.heap[(⟨b, off + i, none⟩ : Addr).block]? := hk hne ⟨b, off, none⟩ _ _ rfl
  exact (World.cell?_of_block (w := w) e).trans (hx i x hi)

theorem StrsO.later {ob ob' : Option Nat} {B : Nat} {w w' : World} {v : Value} {l : List Bytes} (h : StrsO ob B w v l) (hs : w.heap.size ≤ w'.heap.size)
    (hk : ∀ k, B ≤ k → k < w.heap.size → some k ≠ ob → w'.heap[k]? = w.heap[k]?) (ho : ob' = ob ∨ ∃ k, ob' = some k ∧ w.heap.size ≤ k) : StrsO ob' B w' v l := by
  refine ⟨h.1.keep fun hne a n cap hv => ?_, fun hne => ?_⟩
  · obtain ⟨a', n', cap', hv', h1, h2, h3⟩ := h.2 hne
    rw [hv] at hv'
    simp only [Value.slice.injEq, Option.some.injEq] at hv'
    obtain ⟨rfl, _, _⟩ := hv'
    exact hk _ h1 h2 h3
  · obtain ⟨a, n, cap, hv, h1, h2, h3⟩ := h.2 hne
    refine ⟨a, n, cap, hv, h1, by omega, ?_⟩
    rcases ho with rfl | ⟨k, rfl, hk⟩
    · exact h3
    · intro e; injection e with e; omega

def tokVals (t : Tok) (pv : Value) : List Value := [.int .i64 t.kind, str t.text, pv, .int .i64 t.line, .int .i64 t.col]

/-- tokens as cells, one behind the other -/
def Toks (ob : Option Nat) (B : Nat) (w : World) : List Tok → List Value → Prop
  | [], xs => xs = []
  | t :: l, xs => ∃ pv ys, xs = tokVals t pv ++ ys ∧ StrsO ob B w pv t.path ∧ Toks ob B w l ys

theorem Toks.later {ob ob' : Option Nat} {B : Nat} {w w' : World} (hs : w.heap.size ≤ w'.heap.size)
    (hk : ∀ k, B ≤ k → k < w.heap.size → some k ≠ ob → w'.heap[k]? = w.heap[k]?) (ho : ob' = ob ∨ ∃ k, ob' = some k ∧ w.heap.size ≤ k) :
    ∀ {l : List Tok} {xs : List Value}, Toks ob B w l xs → Toks ob' B w' l xs
  | [], _, h => h
  | _ :: _, _, ⟨pv, ys, hx, hp, hr⟩ => ⟨pv, ys, hx, hp.later hs hk ho, Toks.later hs hk ho hr⟩

theorem Toks.snoc {ob : Option Nat} {B : Nat} {w : World} {t : Tok} {pv : Value} (hp : StrsO ob B w pv t.path) : ∀ {l : List Tok} {xs : List Value}, Toks ob B w l xs → Toks ob B w (l ++ [t]) (xs ++ tokVals t pv)
  | [], _, h => by subst h; exact ⟨pv, [], by simp, hp, rfl⟩
  | _ :: _, _, ⟨pv', ys, hx, hp', hr⟩ => ⟨pv', ys ++ tokVals t pv, by rw [hx, List.append_assoc], hp', Toks.snoc hp hr⟩

theorem PSt.self {s : ByteArray} {B pt sn ln bg : Nat} {w wr : World} (h : PSt s B pt w wr sn ln bg) : PSt s B pt wr wr sn ln bg :=
  ⟨h.c0, h.c1, h.c2, h.c3, h.c4, h.c5, h.f3, h.f4, h.f5, fun _ _ => rfl, rfl, rfl, rfl, rfl, h.le, h.bgle, h.lnle, h.eq⟩
theorem PSt.below {s : ByteArray} {B pt sn ln bg : Nat} {w wr : World} (h : PSt s B pt w wr sn ln bg) : Below (B + 3) w wr := ⟨h.os, h.tape, h.output, Nat.le_of_eq h.size.symm, fun k hk => h.keep k (.inl hk)⟩

/-- the loop's state -/
structure ScSt (s : ByteArray) (w wr : World) (v : Value) (pt sn ln bg : Nat) (acc : List Tok) (xs : List Value) (r : Scanned) : Prop where
  pst : PSt s w.heap.size pt wr wr sn ln bg
  txt : wr.cell? ⟨w.heap.size + 1, 0, none⟩ = some (.string s)
  fat : wr.frozen? ⟨w.heap.size + 1, 1, none⟩ = false
  below : Below w.heap.size w wr
  big : w.heap.size + 6 ≤ wr.heap.size
  own : wr.ownsRow (w.heap.size + 6) 32 5 v acc.length xs
  toks : Toks v.ownBlock (w.heap.size + 6) wr acc xs
  le : pt ≤ s.size
  accle : acc.length ≤ pt
  eq : r = scanC (s.data.toList.drop pt) (adv (1, 1) (s.data.toList.take pt)) acc

theorem owns_keep {w w' : World} {B n size : Nat} {e : TypeId} {v : Value} {xs : List Value} (h : w.ownsRow B e size v n xs) (hb : ∀ k, B ≤ k → w'.heap[k]? = w.heap[k]?) : w'.ownsRow B e size v n xs := by
  refine ⟨h.1, ?_⟩
  rcases h.2 with hn | ⟨g, cap, cur, rfl, hbg, hg, rest⟩
  · exact .inl hn
  · exact .inr ⟨g, cap, cur, rfl, hbg, (hb g hbg).trans hg, rest⟩

theorem ScSt.place {s : ByteArray} {w wr wp : World} {v : Value} {pt sn ln bg ln' bg' n : Nat} {acc : List Tok} {xs : List Value} {r : Scanned} (h : ScSt s w wr v pt sn ln bg acc xs r)
    (hp : PSt s w.heap.size pt (wr.drewN n) wp pt ln' bg') : ScSt s w wp v pt pt ln' bg' acc xs r := by
  have hk : ∀ k, k < w.heap.size + 3 ∨ w.heap.size + 5 < k → wp.heap[k]? = wr.heap[k]? := hp.keep
  have hsz : wp.heap.size = wr.heap.size := hp.size
  refine ⟨hp.self, (World.cell?_of_block (w := wr) (hk _ (.inl (by simp only []; omega)))).trans h.txt, (World.frozen?_of_block (w := wr) (hk _ (.inl (by simp only []; omega)))).trans h.fat, (below_drewN h.below n).trans (hp.below.mono (by omega)),
    by rw [hsz]; exact h.big, owns_keep h.own fun k hk' => hk k (.inr (by omega)), h.toks.later (Nat.le_of_eq hsz.symm) (fun k h1 _ _ => hk k (.inr (by omega))) (.inl rfl), h.le, h.accle, h.eq⟩

theorem ScSt.drewN {s : ByteArray} {w wr : World} {v : Value} {pt sn ln bg : Nat} {acc : List Tok} {xs : List Value} {r : Scanned} (h : ScSt s w wr v pt sn ln bg acc xs r) (n : Nat) : ScSt s w (wr.drewN n) v pt sn ln bg acc xs r :=
  ⟨(h.pst.drewN n).self, h.txt, h.fat, below_drewN h.below n, h.big, owns_keep h.own (w' := wr.drewN n) fun _ _ => rfl, h.toks.later (w := wr) (w' := wr.drewN n) (Nat.le_refl _) (fun _ _ _ _ => rfl) (.inl rfl), h.le, h.accle, h.eq⟩

theorem ScSt.setAt {s : ByteArray} {w wr : World} {v : Value} {pt pt' sn ln bg : Nat} {acc : List Tok} {xs : List Value} {r : Scanned} (h : ScSt s w wr v pt sn ln bg acc xs r) {u : Int} (hu : u = pt') (h1 : pt ≤ pt') (h2 : pt' ≤ s.size)
    (he : r = scanC (s.data.toList.drop pt') (adv (1, 1) (s.data.toList.take pt')) acc) : ScSt s w (wr.setCell ⟨w.heap.size + 1, 1, none⟩ (.int .i64 u)) v pt' sn ln bg acc xs r := by
  subst hu
  have o : ∀ k j, k ≠ w.heap.size + 1 → (wr.setCell ⟨w.heap.size + 1, 1, none⟩ (.int .i64 pt')).cell? ⟨k, j, none⟩ = wr.cell? ⟨k, j, none⟩ := fun k j hk => World.cell?_setCell_other (h := fun e => hk (by injection e with e; exact e.symm)) ..
  have hh : ∀ k, k ≠ w.heap.size + 1 → (wr.setCell ⟨w.heap.size + 1, 1, none⟩ (.int .i64 pt')).heap[k]? = wr.heap[k]? := fun k hk => Below.heap_setCell _ _ _ _ hk
  have p := h.pst
  refine ⟨⟨(o _ _ (by omega)).trans p.c0, World.cell?_setCell_same (h := p.c1) .., (o _ _ (by omega)).trans p.c2, (o _ _ (by omega)).trans p.c3, (o _ _ (by omega)).trans p.c4, (o _ _ (by omega)).trans p.c5, by rw [World.frozen?_setCell]; exact p.f3, by rw [World.frozen?_setCell]; exact p.f4, by rw [World.frozen?_setCell]; exact p.f5,
    fun _ _ => rfl, rfl, rfl, rfl, rfl, Nat.le_trans p.le h1, p.bgle, p.lnle, p.eq⟩, ?_, by rw [World.frozen?_setCell]; exact h.fat, h.below.setCell (by simp only []; omega) _, by simpa [World.setCell] using h.big,
    owns_keep h.own fun k hk => hh k (by omega), h.toks.later (by simp [World.setCell]) (fun k h1 _ _ => hh k (by omega)) (.inl rfl), h2, Nat.le_trans h.accle h1, he⟩
  rw [World.cell?_setCell_other (h := by intro e; injection e; omega)]
  exact h.txt

/-- what Scan returns -/
def ScPost (r : Scanned) (w : World) (e : Ending) (w' : World) : Prop :=
  Below w.heap.size w w' ∧ match r with
  | .error (c, ln, col) => e = .returned (.tuple #[.slice none 0 0, .int .i64 ln, .int .i64 col, .int .i64 c])
  | .ok l => ∃ v xs, e = .returned (.tuple #[v, .int .i64 0, .int .i64 0, .int .i64 0]) ∧ w'.ownsRow (w.heap.size + 6) 32 5 v l.length xs ∧ Toks v.ownBlock (w.heap.size + 6) w' l xs

theorem sc_bad {r : Scanned} {w w' : World} {c ln col : Nat} {lv cv ev : Int} (h : r = .error (c, ln, col)) (h1 : lv = ln) (h2 : cv = col) (h3 : ev = c) (hb : Below w.heap.size w w') :
    ScPost r w (.returned (.tuple #[.slice none 0 0, .int .i64 lv, .int .i64 cv, .int .i64 ev])) w' := by
  subst h; subst h1; subst h2; subst h3; exact ⟨hb, rfl⟩

theorem heap_al {w : World} {k : Nat} {x : Obj} (h : w.heap[k]? = some x) (o : Obj) : (w.alloc o).heap[k]? = some x := (Below.heap_alloc w o k (Array.getElem?_eq_some_iff.1 h).1).trans h
theorem heap_nw (w : World) (o : Obj) (k : Nat) (h : k = w.heap.size) : (w.alloc o).heap[k]? = some o := by subst h; exact heap_alloc_new w o

theorem ScSt.init (s : ByteArray) (w : World) (r : Scanned) (h : r = scanC s.data.toList (1, 1) []) :
    ScSt s w ((((((w.alloc (.cells #[.string s] 9)).alloc (.cells #[.string s, .int .i64 0] 55)).alloc (.cells #[.pointer (some ⟨w.heap.size + 1, 0, none⟩)] 53)).alloc (.cells #[.int .i64 1] 3)).alloc (.cells #[.int .i64 0] 3)).alloc (.cells #[.int .i64 0] 3)) (.slice none 0 0) 0 0 1 0 [] [] r := by
  obtain ⟨W, hW⟩ : ∃ W, ((((((w.alloc (.cells #[.string s] 9)).alloc (.cells #[.string s, .int .i64 0] 55)).alloc (.cells #[.pointer (some ⟨w.heap.size + 1, 0, none⟩)] 53)).alloc (.cells #[.int .i64 1] 3)).alloc (.cells #[.int .i64 0] 3)).alloc (.cells #[.int .i64 0] 3)) = W := ⟨_, rfl⟩
  have h0 : W.heap[w.heap.size]? = some (.cells #[.string s] 9 (0, 0)) := by rw [← hW]; exact heap_al (heap_al (heap_al (heap_al (heap_al (heap_nw _ _ (w.heap.size) (by simp)) _) _) _) _) _
  have h1 : W.heap[w.heap.size + 1]? = some (.cells #[.string s, .int .i64 0] 55 (0, 0)) := by rw [← hW]; exact heap_al (heap_al (heap_al (heap_al (heap_nw _ _ (w.heap.size + 1) (by simp)) _) _) _) _
  have h2 : W.heap[w.heap.size + 1 + 1]? = some (.cells #[.pointer (some ⟨w.heap.size + 1, 0, none⟩)] 53 (0, 0)) := by rw [← hW]; exact heap_al (heap_al (heap_al (heap_nw _ _ (w.heap.size + 1 + 1) (by simp)) _) _) _
  have h3 : W.heap[w.heap.size + 1 + 1 + 1]? = some (.cells #[.int .i64 1] 3 (0, 0)) := by rw [← hW]; exact heap_al (heap_al (heap_nw _ _ (w.heap.size + 1 + 1 + 1) (by simp)) _) _
  have h4 : W.heap[w.heap.size + 1 + 1 + 1 + 1]? = some (.cells #[.int .i64 0] 3 (0, 0)) := by rw [← hW]; exact heap_al (heap_nw _ _ (w.heap.size + 1 + 1 + 1 + 1) (by simp)) _
  have h5 : W.heap[w.heap.size + 1 + 1 + 1 + 1 + 1]? = some (.cells #[.int .i64 0] 3 (0, 0)) := by rw [← hW]; exact heap_nw _ _ (w.heap.size + 1 + 1 + 1 + 1 + 1) (by simp)
  have hb : Below w.heap.size w W := by
    rw [← hW]
    refine Below.alloc (Below.alloc (Below.alloc (Below.alloc (Below.alloc (Below.alloc (Below.refl _ w) ?_ _) ?_ _) ?_ _) ?_ _) ?_ _) ?_ _ <;> simp <;> omega
  have hsz : w.heap.size + 6 ≤ W.heap.size := by rw [← hW]; simp
  rw [hW]
  clear hW
  refine ⟨⟨?_, ?_, ?_, ?_, ?_, ?_, ?_, ?_, ?_, fun _ _ => rfl, rfl, rfl, rfl, rfl, Nat.le_refl _, Nat.le_refl _, Nat.le_refl _, rfl⟩, ?_, ?_, hb, hsz, World.ownsRow_nil _ _ _ _, rfl, Nat.zero_le _, Nat.le_refl _, h⟩
  all_goals simp [World.cell?, World.frozen?, h0, h1, h2, h3, h4, h5]

/-- the place where the scanner stands -/
def atOf (w : World) (b : Nat) : Nat := match w.cell? ⟨b, 1, none⟩ with | some v => (intOf v).toNat | none => 0
theorem atOf_eq {w : World} {b n : Nat} (h : w.cell? ⟨b, 1, none⟩ = some (.int .i64 n)) : atOf w b = n := by
  unfold atOf; rw [h]; simp [intOf]

theorem readP_err {l : Bytes} {c : Nat} (h : readP l = .error c) : c ≠ 0 := by
  have hw : ∀ (f : Nat) (path : List Bytes) (m : Nat) (l : Bytes), wordP f path m l = .error c → c ≠ 0 := by
    intro f
    induction f with
    | zero => intro path m l h; simp only [wordP, Except.error.injEq] at h; omega
    | succ f ih =>
      intro path m l h
      simp only [wordP] at h
      split at h
      · split at h
        · cases h
        · simp only [Except.error.injEq] at h; omega
      · split at h
        · split at h
          · exact ih _ _ _ h
          · split at h
            · simp only [Except.error.injEq] at h; omega
            · cases h
        · cases h
  have hn : ∀ l, numberP l = .error c → c ≠ 0 := by
    intro l h
    unfold numberP at h
    simp only [] at h
    split at h
    · simp only [Except.error.injEq] at h; omega
    · split at h
      · simp only [Except.error.injEq] at h; omega
      · cases h
  have hch : ∀ l, charP l = .error c → c ≠ 0 := by
    intro l h
    unfold charP at h
    split at h
    · simp only [Except.error.injEq] at h; omega
    · split at h
      · cases h
      · simp only [Except.error.injEq] at h; omega
  unfold readP at h
  simp only [] at h
  split at h
  · exact hw _ _ _ _ h
  split at h
  · exact hn _ h
  split at h
  · unfold signP at h
    split at h
    · exact hn _ h
    split at h
    · exact hch _ h
    · cases h
  split at h
  · unfold textP at h
    split at h
    · simp only [Except.error.injEq] at h; omega
    · split at h
      · simp only [Except.error.injEq] at h; omega
      · cases h
  split at h
  · cases h
  · unfold otherP at h
    generalize (if [46, 46, 46].isPrefixOf l then 3 else 1 : Nat) = m at h
    replace h : (if resB (List.take m l) = true then Except.ok (1, List.take m l, [], m) else Except.error 40 : Rd) = Except.error c := h
    split at h
    · cases h
    · simp only [Except.error.injEq] at h; omega

theorem enters_reader (c : UInt8) (args : Array Value) (w : World) : (callFunc (readerId c) args).run Tryz.prog w = .ok (.enter (readerId c) args) w := by
  unfold readerId
  split
  · exact enters_of Tryz.func41 (by kernel_rfl) rfl args w
  · split
    · exact enters_of Tryz.func43 (by kernel_rfl) rfl args w
    · split
      · exact enters_of Tryz.func45 (by kernel_rfl) rfl args w
      · split
        · exact enters_of Tryz.func46 (by kernel_rfl) rfl args w
        · split
          · exact enters_of Tryz.func47 (by kernel_rfl) rfl args w
          · exact enters_of Tryz.func48 (by kernel_rfl) rfl args w

def TokPost (k : Nat) (t : Bytes) (pa : List Bytes) (n : Nat) (w : World) (e : Ending) (w' : World) : Prop :=
  ∃ a cap, e = .returned (.tuple #[.agg #[.int .i64 k, str t, .slice a pa.length cap, .int .i64 0, .int .i64 0], .int .i64 (n : Nat), .int .i64 0]) ∧ StrsF w.heap.size w' (.slice a pa.length cap) pa ∧ Below w.heap.size w w'

theorem cells_of {w w2 : World} (hb : Below w.heap.size w w2) : ∀ k j, k < w.heap.size → w2.cell? ⟨k, j, none⟩ = w.cell? ⟨k, j, none⟩ := fun k j h => hb.cell (p := ⟨k, j, none⟩) h
theorem frozen_of {w w2 : World} (hb : Below w.heap.size w w2) : ∀ k j, k < w.heap.size → w2.frozen? ⟨k, j, none⟩ = w.frozen? ⟨k, j, none⟩ := fun k j h => hb.frozen (p := ⟨k, j, none⟩) h

theorem cell_nd (w : World) (n j : Nat) (cs : Array Value) (T : TypeId) : ((w.drewN n).alloc (.cells cs T)).cell? ⟨w.heap.size, j, none⟩ = cs[j]? :=
  (World.cell?_alloc_new (w.drewN n) ..)
theorem frozen_nd (w : World) (n j : Nat) (cs : Array Value) (T : TypeId) : ((w.drewN n).alloc (.cells cs T)).frozen? ⟨w.heap.size, j, none⟩ = false := by
  have h : ((w.drewN n).alloc (.cells cs T)).heap[w.heap.size]? = some (.cells cs T) := heap_alloc_new (w.drewN n) _
  unfold World.frozen?
  simp only [h]
  simp

theorem below_s5 {wp W : World} (h : Below wp.heap.size wp W) (v0 v1 v2 v3 v4 : Value) :
    Below wp.heap.size wp (((((W.setCell ⟨wp.heap.size, 0, none⟩ v0).setCell ⟨wp.heap.size, 1, none⟩ v1).setCell ⟨wp.heap.size, 2, none⟩ v2).setCell ⟨wp.heap.size, 3, none⟩ v3).setCell ⟨wp.heap.size, 4, none⟩ v4) :=
  ((((h.setCell (Nat.le_refl _) _).setCell (Nat.le_refl _) _).setCell (Nat.le_refl _) _).setCell (Nat.le_refl _) _).setCell (Nat.le_refl _) _

theorem below_al {wp W : World} (h : Below wp.heap.size wp W) (o : Obj) : Below wp.heap.size wp (W.alloc o) := h.alloc h.size o
theorem below_dr {wp W : World} (h : Below wp.heap.size wp W) : Below wp.heap.size wp W.drew := h.drew
theorem below_ba (wp : World) (n : Nat) : Below wp.heap.size wp (wp.drewN n).drew := (below_drewN (Below.refl _ _) _).drew

theorem ScSt.later {s : ByteArray} {w wp W : World} {v : Value} {pt sn ln bg : Nat} {acc : List Tok} {xs : List Value} {r : Scanned} (h : ScSt s w wp v pt sn ln bg acc xs r) (hb : Below wp.heap.size wp W) : ScSt s w W v pt sn ln bg acc xs r := by
  have p := h.pst
  have hbig := h.big
  have f : ∀ k, k < 6 → ∀ j, W.frozen? ⟨w.heap.size + k, j, none⟩ = wp.frozen? ⟨w.heap.size + k, j, none⟩ := fun k hk j => hb.frozen (p := ⟨w.heap.size + k, j, none⟩) (by simp only []; omega)
  exact ⟨⟨cell_later hb p.c0, cell_later hb p.c1, cell_later hb p.c2, cell_later hb p.c3, cell_later hb p.c4, cell_later hb p.c5, (f 3 (by omega) 0).trans p.f3, (f 4 (by omega) 0).trans p.f4, (f 5 (by omega) 0).trans p.f5,
    fun _ _ => rfl, rfl, rfl, rfl, rfl, p.le, p.bgle, p.lnle, p.eq⟩, cell_later hb h.txt, (f 1 (by omega) 1).trans h.fat, h.below.trans (hb.mono (by omega)), Nat.le_trans hbig hb.size,
    owns_below h.own hb, h.toks.later hb.size (fun k _ hk _ => hb.block k hk) (.inl rfl), h.le, h.accle, h.eq⟩

/-- the token's own block, behind the reader's call -/
structure TkSt (s : ByteArray) (w wc : World) (v : Value) (pt ln bg : Nat) (acc : List Tok) (xs : List Value) (r : Scanned) (bt : Nat) (k : Int) (t pv : Value) (pa : List Bytes) : Prop where
  at' : ∃ wp, ScSt s w wp v pt pt ln bg acc xs r ∧ Below wp.heap.size wp wc ∧ wp.heap.size ≤ bt
  lt : bt < wc.heap.size
  c0 : wc.cell? ⟨bt, 0, none⟩ = some (.int .i64 k)
  c1 : wc.cell? ⟨bt, 1, none⟩ = some t
  c2 : wc.cell? ⟨bt, 2, none⟩ = some pv
  c3 : wc.cell? ⟨bt, 3, none⟩ = some (.int .i64 0)
  c4 : wc.cell? ⟨bt, 4, none⟩ = some (.int .i64 0)
  fz : ∀ j, wc.frozen? ⟨bt, j, none⟩ = false
  path : StrsO v.ownBlock (w.heap.size + 6) wc pv pa
  off : pa ≠ [] → ∀ a n cap, pv = .slice (some a) n cap → a.block ≠ bt

theorem own_lt {w : World} {B n size : Nat} {e : TypeId} {v : Value} {xs : List Value} (h : w.ownsRow B e size v n xs) {k : Nat} (hk : v.ownBlock = some k) : k < w.heap.size := (h.lt k hk).2

theorem path_new {s : ByteArray} {w wp w2 : World} {v : Value} {pt sn ln bg : Nat} {acc : List Tok} {xs : List Value} {r : Scanned} {C : Nat} {pv : Value} {pa : List Bytes} (h : ScSt s w wp v pt sn ln bg acc xs r) (hC : wp.heap.size ≤ C) (hf : StrsF C w2 pv pa) :
    StrsO v.ownBlock (w.heap.size + 6) w2 pv pa := by
  refine ⟨hf.1, fun hne => ?_⟩
  obtain ⟨a, n, cap, rfl, ha⟩ := hf.2 hne
  have hbig := h.big
  refine ⟨a, n, cap, rfl, by omega, ?_, fun e => ?_⟩
  · obtain ⟨a', cap', hv, _, hl⟩ := hf.1
    obtain ⟨b, off, ha', hx⟩ := hl hne
    simp only [Value.slice.injEq] at hv
    rw [← hv.1] at ha'
    injection ha' with ha'
    subst ha'
    cases pa with
    | nil => exact absurd rfl hne
    | cons x l => exact World.block_lt_of_cell? _ _ (hx 0 x rfl)
  · have := own_lt h.own e.symm; omega

theorem TkSt.new {s : ByteArray} {w wp w2 : World} {v : Value} {pt ln bg : Nat} {acc : List Tok} {xs : List Value} {r : Scanned} {pv t : Value} {pa : List Bytes} {k : Int} {T : TypeId} (h : ScSt s w wp v pt pt ln bg acc xs r) (hb : Below wp.heap.size wp w2) (hf : StrsF wp.heap.size w2 pv pa) :
    TkSt s w (w2.alloc (.cells #[.int .i64 k, t, pv, .int .i64 0, .int .i64 0] T)) v pt ln bg acc xs r w2.heap.size k t pv pa := by
  have hp := path_new h (Nat.le_refl _) hf
  refine ⟨⟨wp, h, hb.alloc hb.size _, hb.size⟩, by simp, ?_, ?_, ?_, ?_, ?_, fun j => by simp, ?_, fun hne a n cap hv => ?_⟩
  · rw [World.cell?_alloc_new]; rfl
  · rw [World.cell?_alloc_new]; rfl
  · rw [World.cell?_alloc_new]; rfl
  · rw [World.cell?_alloc_new]; rfl
  · rw [World.cell?_alloc_new]; rfl
  · exact hp.later (by simp) (fun k _ hk _ => Below.heap_alloc _ _ _ hk) (.inl rfl)
  · obtain ⟨a', n', cap', hv', _, hlt, _⟩ := hp.2 hne
    rw [hv] at hv'
    simp only [Value.slice.injEq, Option.some.injEq] at hv'
    rw [hv'.1]; omega

theorem TkSt.old {s : ByteArray} {w wp w2 : World} {v : Value} {pt ln bg : Nat} {acc : List Tok} {xs : List Value} {r : Scanned} {pv t u0 u1 u2 u3 u4 : Value} {pa : List Bytes} {k : Int} (h : ScSt s w wp v pt pt ln bg acc xs r) (hb : Below wp.heap.size wp w2) (hf : StrsF (wp.heap.size + 1) w2 pv pa)
    (q0 : w2.cell? ⟨wp.heap.size, 0, none⟩ = some u0) (q1 : w2.cell? ⟨wp.heap.size, 1, none⟩ = some u1) (q2 : w2.cell? ⟨wp.heap.size, 2, none⟩ = some u2) (q3 : w2.cell? ⟨wp.heap.size, 3, none⟩ = some u3) (q4 : w2.cell? ⟨wp.heap.size, 4, none⟩ = some u4) (q5 : ∀ j, w2.frozen? ⟨wp.heap.size, j, none⟩ = false) :
    TkSt s w (((((w2.setCell ⟨wp.heap.size, 0, none⟩ (.int .i64 k)).setCell ⟨wp.heap.size, 1, none⟩ t).setCell ⟨wp.heap.size, 2, none⟩ pv).setCell ⟨wp.heap.size, 3, none⟩ (.int .i64 0)).setCell ⟨wp.heap.size, 4, none⟩ (.int .i64 0)) v pt ln bg acc xs r wp.heap.size k t pv pa := by
  have hp := path_new h (Nat.le_succ _) hf
  have hoff : pa ≠ [] → ∀ a n cap, pv = .slice (some a) n cap → a.block ≠ wp.heap.size := fun hne a n cap hv => by
    obtain ⟨a', n', cap', hv', hlt⟩ := hf.2 hne
    rw [hv] at hv'
    simp only [Value.slice.injEq, Option.some.injEq] at hv'
    rw [hv'.1]; omega
  have hw := World.block_lt_of_cell? _ _ q0
  have ne : ∀ i j, i ≠ j → (⟨wp.heap.size, i, none⟩ : Addr) ≠ ⟨wp.heap.size, j, none⟩ := fun i j h e => h (by injection e)
  have o : ∀ (W : World) (i j : Nat) (x : Value), i ≠ j → (W.setCell ⟨wp.heap.size, i, none⟩ x).cell? ⟨wp.heap.size, j, none⟩ = W.cell? ⟨wp.heap.size, j, none⟩ := fun W i j x h => World.cell?_setCell_other (h := ne i j h) ..
  have sm : ∀ (W : World) (i : Nat) (x u : Value), W.cell? ⟨wp.heap.size, i, none⟩ = some u → (W.setCell ⟨wp.heap.size, i, none⟩ x).cell? ⟨wp.heap.size, i, none⟩ = some x := fun W i x u h => World.cell?_setCell_same (h := h) ..
  refine ⟨⟨wp, h, below_s5 hb _ _ _ _ _, Nat.le_refl _⟩, by simpa [World.setCell] using hw, ?_, ?_, ?_, ?_, ?_, fun j => by simp only [World.frozen?_setCell]; exact q5 j, ?_, hoff⟩
  · rw [o _ _ _ _ (by omega), o _ _ _ _ (by omega), o _ _ _ _ (by omega), o _ _ _ _ (by omega)]; exact sm _ _ _ _ q0
  · rw [o _ _ _ _ (by omega), o _ _ _ _ (by omega), o _ _ _ _ (by omega)]; exact sm _ _ _ _ ((o _ _ _ _ (by omega)).trans q1)
  · rw [o _ _ _ _ (by omega), o _ _ _ _ (by omega)]
    refine sm _ _ _ u2 ?_
    rw [o _ _ _ _ (by omega), o _ _ _ _ (by omega)]; exact q2
  · rw [o _ _ _ _ (by omega)]
    refine sm _ _ _ u3 ?_
    rw [o _ _ _ _ (by omega), o _ _ _ _ (by omega), o _ _ _ _ (by omega)]; exact q3
  · refine sm _ _ _ u4 ?_
    rw [o _ _ _ _ (by omega), o _ _ _ _ (by omega), o _ _ _ _ (by omega), o _ _ _ _ (by omega)]; exact q4
  · have hs : ∀ (W : World) (i : Nat) (x : Value) (k : Nat), k ≠ wp.heap.size → (W.setCell ⟨wp.heap.size, i, none⟩ x).heap[k]? = W.heap[k]? := fun W i x k hk => Below.heap_setCell _ _ _ _ hk
    refine ⟨hp.1.keep fun hne a n cap hv => ?_, fun hne => ?_⟩
    · have := hoff hne a n cap hv
      rw [hs _ _ _ _ this, hs _ _ _ _ this, hs _ _ _ _ this, hs _ _ _ _ this, hs _ _ _ _ this]
    · obtain ⟨a, n, cap, hv, h1, h2, h3⟩ := hp.2 hne
      exact ⟨a, n, cap, hv, h1, by simpa [World.setCell] using h2, h3⟩

/-- the token is laid behind the others -/
theorem ScSt.push {s : ByteArray} {w W w1 : World} {v v' : Value} {pt pt' sn ln bg : Nat} {acc : List Tok} {xs : List Value} {r : Scanned} {tok : Tok} {pv : Value} (h : ScSt s w W v pt sn ln bg acc xs r)
    (hown : w1.ownsRow (w.heap.size + 6) 32 5 v' (acc.length + 1) (xs ++ tokVals tok pv)) (hg : W.grownBy w1 v.ownBlock) {m : Nat} (ho : v'.ownBlock = v.ownBlock ∨ v'.ownBlock = some m) (hm : m = W.heap.size)
    (hp : StrsO v.ownBlock (w.heap.size + 6) W pv tok.path) {u : Int} (hu : u = pt') (h1 : pt < pt') (h2 : pt' ≤ s.size)
    (he : r = scanC (s.data.toList.drop pt') (adv (1, 1) (s.data.toList.take pt')) (acc ++ [tok])) : ScSt s w (w1.setCell ⟨w.heap.size + 1, 1, none⟩ (.int .i64 u)) v' pt' sn ln bg (acc ++ [tok]) (xs ++ tokVals tok pv) r := by
  have hbig := h.big
  have hb : Below (w.heap.size + 6) W w1 := (Below.refl _ _).grown hg hbig fun k hk => (h.own.lt k hk).1
  have p := h.pst
  have c : ∀ k j, k < 6 → w1.cell? ⟨w.heap.size + k, j, none⟩ = W.cell? ⟨w.heap.size + k, j, none⟩ := fun k j hk => hb.cell (p := ⟨w.heap.size + k, j, none⟩) (by simp only []; omega)
  have f : ∀ k j, k < 6 → w1.frozen? ⟨w.heap.size + k, j, none⟩ = W.frozen? ⟨w.heap.size + k, j, none⟩ := fun k j hk => hb.frozen (p := ⟨w.heap.size + k, j, none⟩) (by simp only []; omega)
  have h0 : ScSt s w w1 v' pt sn ln bg acc [] r → True := fun _ => trivial
  have q : PSt s w.heap.size pt w1 w1 sn ln bg := ⟨(c 0 0 (by omega)).trans p.c0, (c 1 1 (by omega)).trans p.c1, (c 2 0 (by omega)).trans p.c2, (c 3 0 (by omega)).trans p.c3, (c 4 0 (by omega)).trans p.c4, (c 5 0 (by omega)).trans p.c5,
    (f 3 0 (by omega)).trans p.f3, (f 4 0 (by omega)).trans p.f4, (f 5 0 (by omega)).trans p.f5, fun _ _ => rfl, rfl, rfl, rfl, rfl, p.le, p.bgle, p.lnle, p.eq⟩
  have hsz : W.heap.size ≤ w1.heap.size := hb.size
  have ht : Toks v'.ownBlock (w.heap.size + 6) w1 (acc ++ [tok]) (xs ++ tokVals tok pv) :=
    (h.toks.snoc hp).later hsz (fun k h1 h2 h3 => hg.block k h2 h3) (by rcases ho with ho | ho; exact .inl ho; exact .inr ⟨_, ho, Nat.le_of_eq hm.symm⟩)
  subst hu
  have o : ∀ k j, k ≠ w.heap.size + 1 → (w1.setCell ⟨w.heap.size + 1, 1, none⟩ (.int .i64 pt')).cell? ⟨k, j, none⟩ = w1.cell? ⟨k, j, none⟩ := fun k j hk => World.cell?_setCell_other (h := fun e => hk (by injection e with e; exact e.symm)) ..
  have hh : ∀ k, k ≠ w.heap.size + 1 → (w1.setCell ⟨w.heap.size + 1, 1, none⟩ (.int .i64 pt')).heap[k]? = w1.heap[k]? := fun k hk => Below.heap_setCell _ _ _ _ hk
  refine ⟨⟨(o _ _ (by omega)).trans q.c0, World.cell?_setCell_same (h := q.c1) .., (o _ _ (by omega)).trans q.c2, (o _ _ (by omega)).trans q.c3, (o _ _ (by omega)).trans q.c4, (o _ _ (by omega)).trans q.c5, by rw [World.frozen?_setCell]; exact q.f3, by rw [World.frozen?_setCell]; exact q.f4, by rw [World.frozen?_setCell]; exact q.f5,
    fun _ _ => rfl, rfl, rfl, rfl, rfl, Nat.le_trans q.le (Nat.le_of_lt h1), q.bgle, q.lnle, q.eq⟩, ?_, ?_, (h.below.trans (hb.mono (by omega))).setCell (by simp only []; omega) _, ?_,
    ?_, ht.later (by simp [World.setCell]) (fun k h1 _ _ => hh k (by omega)) (.inl rfl), h2, by have := h.accle; simp; omega, he⟩
  · rw [World.cell?_setCell_other (h := by intro e; injection e; omega)]
    exact (c 1 0 (by omega)).trans h.txt
  · rw [World.frozen?_setCell]; exact (f 1 1 (by omega)).trans h.fat
  · simp only [World.setCell, Array.size_modify]; omega
  · rw [List.length_append]; exact owns_keep hown fun k hk => hh k (by omega)

theorem StrsF.sz {w w2 : World} {n : Nat} {o : Obj} {v : Value} {l : List Bytes} (h : StrsF ((w.drewN n).alloc o).heap.size w2 v l) : StrsF (w.heap.size + 1) w2 v l := by
  have e : ((w.drewN n).alloc o).heap.size = w.heap.size + 1 := by simp
  rwa [e] at h

theorem StrsO.setOff {ob : Option Nat} {B bt j : Nat} {w : World} {v x : Value} {l : List Bytes} (h : StrsO ob B w v l) (hoff : l ≠ [] → ∀ a n cap, v = .slice (some a) n cap → a.block ≠ bt) : StrsO ob B (w.setCell ⟨bt, j, none⟩ x) v l := by
  refine ⟨h.1.keep fun hne a n cap hv => Below.heap_setCell _ _ _ _ (hoff hne a n cap hv), fun hne => ?_⟩
  obtain ⟨a, n, cap, hv, h1, h2, h3⟩ := h.2 hne
  exact ⟨a, n, cap, hv, h1, by simpa [World.setCell] using h2, h3⟩

theorem Tryz.infoTok : (Tryz.prog.info? 32).map (fun i => (i.zero, i.size, i.bytes)) = some (some (.agg #[.int .i64 0, .string ⟨#[]⟩, .slice none 0 0, .int .i64 0, .int .i64 0]), 5, 64) := by kernel_rfl

theorem cells_new5 (w : World) (v0 v1 v2 v3 v4 : Value) (T : TypeId) : ∀ j u, [v0, v1, v2, v3, v4][j]? = some u → (w.alloc (.cells #[v0, v1, v2, v3, v4] T)).cell? ((⟨w.heap.size, 0, none⟩ : Addr).add j) = some u := by
  intro j u h
  have e : ((⟨w.heap.size, 0, none⟩ : Addr).add j) = ⟨w.heap.size, j, none⟩ := by unfold Addr.add; split <;> simp_all
  rw [e, World.cell?_alloc_new]
  simpa using h

theorem one_tok (a b c : Int) (t : Bytes) (o : Option Addr) (n cap : Nat) : ∀ u ∈ [Value.int .i64 a, str t, .slice o n cap, .int .i64 b, .int .i64 c], u.oneCell' = true := by
  intro u hu
  simp only [List.mem_cons, List.not_mem_nil, or_false] at hu
  rcases hu with rfl | rfl | rfl | rfl | rfl <;> rfl

theorem cells_new5s {W wc : World} (h : W.heap.size = wc.heap.size) (v0 v1 v2 v3 v4 : Value) (T : TypeId) : ∀ j u, [v0, v1, v2, v3, v4][j]? = some u → (W.alloc (.cells #[v0, v1, v2, v3, v4] T)).cell? ((⟨wc.heap.size, 0, none⟩ : Addr).add j) = some u := by
  rw [← h]; exact cells_new5 _ _ _ _ _ _ _

theorem ScSt.grown {s : ByteArray} {w W w1 : World} {v : Value} {pt sn ln bg : Nat} {acc : List Tok} {xs : List Value} {r : Scanned} (h : ScSt s w W v pt sn ln bg acc xs r) (hg : W.grownBy w1 v.ownBlock) :
    w1.cell? ⟨w.heap.size + 1 + 1, 0, none⟩ = some (.pointer (some ⟨w.heap.size + 1, 0, none⟩)) ∧ w1.cell? ⟨w.heap.size + 1, 1, none⟩ = some (.int .i64 pt) ∧ w1.frozen? ⟨w.heap.size + 1, 1, none⟩ = false := by
  have hb : Below (w.heap.size + 6) W w1 := (Below.refl _ _).grown hg h.big fun k hk => (h.own.lt k hk).1
  exact ⟨(hb.cell (p := ⟨w.heap.size + 1 + 1, 0, none⟩) (by simp only []; omega)).trans h.pst.c2, (hb.cell (p := ⟨w.heap.size + 1, 1, none⟩) (by simp only []; omega)).trans h.pst.c1,
    (hb.frozen (p := ⟨w.heap.size + 1, 1, none⟩) (by simp only []; omega)).trans h.fat⟩

def TokBad (c : Nat) (w : World) (e : Ending) (w' : World) : Prop :=
  e = .returned (.tuple #[.agg #[.int .i64 0, .string ⟨#[]⟩, .slice none 0 0, .int .i64 0, .int .i64 0], .int .i64 0, .int .i64 c]) ∧ Below w.heap.size w w'

theorem results_tmp4 {fn : Func} {t u v x : Tmp} (h : fn.results = #[.tmp t, .tmp u, .tmp v, .tmp x]) (tmps : Array Value) (P : Program) (w : World) :
    (results fn tmps).run P w = .ok (.tuple #[tmps.getD t undef, tmps.getD u undef, tmps.getD v undef, tmps.getD x undef]) w := by
  simp [results, h]

set_option maxRecDepth 100000 in
set_option maxHeartbeats 4000000 in
theorem scan_any (s : ByteArray) (w : World) (hg : Gl w) (hz : s.size ≤ 1048576) :
    Calls Tryz.prog 9 #[.string s] w (ScPost (scanC s.data.toList (1, 1) []) w) := by
  have hl : decide ((1048576 : Int) < (s.size : Int)) = false := by simp; omega
  obtain ⟨r, hr⟩ : ∃ r, scanC s.data.toList (1, 1) [] = r := ⟨_, rfl⟩
  rw [hr]
  have HI := Lib.hid (ScSt.init s w r hr.symm)
  clear hr
  have HG := Lib.hid hg; clear hg
  go_enter Tryz.func9, Tryz.ntmps9
  go_wp2_with fail
  go_loopw [11] (fun v wr => ∃ pt sn ln bg acc xs, ScSt s w wr v pt sn ln bg acc xs r) (fun _ wr => s.size - atOf wr (w.heap.size + 1))
  case atStart => exact ⟨0, 0, 1, 0, [], [], HI.out⟩
  case round =>
    clear HI
    obtain ⟨pt, sn, ln, bg, acc, xs, hst⟩ := hrel
    have HS := Lib.hid hst
    obtain ⟨⟨c0, c1, c2, -, -, -, -, -, -, -, -, -, -, -, hsn, hbg, hln, -⟩, htx, hfa, -, hbig, -, -, hpt, hacc, -⟩ := hst
    have HC1 := Lib.hid c1
    by_cases hlt : pt < s.size
    · have hI : (pt : Int) < (s.size : Int) := by omega
      have hd := cell_u8 s pt hlt
      obtain ⟨x, hx⟩ : ∃ x : UInt8, s[pt]'hlt = x := ⟨_, rfl⟩
      rw [hx] at hd
      have HD := Lib.hid hd; clear hd
      have hb0 : blankI (x.toNat : Int) = blankB x := rfl
      go_wp2_with fail
      go_quiet (fail)
      go_wp2_with fail
      go_quiet ((go_at_call 23; exact quietL2 (blank_any _ _)))
      rw [hb0]
      clear hb0
      generalize hB : blankB x = B
      cases B
      · go_wp2_with fail
        refine (place_any s w.heap.size pt sn ln bg _ ((HS.out.pst.drewN _).self) hz hpt).mono ?_
        intro e wp hpl
        obtain ⟨ln', bg', rfl, hp⟩ := hpl
        have HP := Lib.hid (HS.out.place hp)
        clear c0 c1 c2 htx hfa hbig hsn hbg hln hp HS
        have heq := HP.out.eq
        rw [HP.out.pst.eq] at heq
        obtain ⟨⟨c0, c1, c2, -, -, -, -, -, -, -, -, -, -, -, -, hbg, hln, -⟩, htx, hfa, -, hbig, -, -, -, -, -⟩ := HP.out
        obtain ⟨A, hA⟩ : ∃ A, [40, 42].isPrefixOf (s.data.toList.drop pt) = A := ⟨_, rfl⟩
        go_wp2_with fail
        go_quiet ((go_at_call 24; exact quietL (starts_any s ⟨#[40, 42]⟩ _ pt _ htx (by unfold maxLen; omega) hpt)))
        rw [show (⟨#[40, 42]⟩ : ByteArray).data.toList = [40, 42] from rfl, hA]
        have HA := Lib.hid hA; clear hA
        cases A
        · have hcm := scanC_tok (p := (ln', pt - bg' + 1)) (acc := acc) hB (by rw [← HD.out]; exact HA.out)
          rw [← HD.out] at hcm
          have HE := Lib.hid (heq.trans hcm); clear heq hcm hB
          have HRD := Lib.hid (fun W (hb : Below wp.heap.size wp W) => hx ▸ rd_cases (reader_any s (w.heap.size + 1) pt W ((HG.out.below HP.out.below).below hb) (cell_later hb htx) (cell_later hb c1) hz hlt))
          have HER := Lib.hid (enters_reader x)
          have HRS := Lib.hid (fun w => readers_any x w)
          generalize readerId x = F at *
          cases hR : readP (s.data.toList.drop pt) with
          | error c =>
            have HRC : RowKit.Hid (∀ W, Below wp.heap.size wp W → Calls Tryz.prog F #[.pointer (some ⟨w.heap.size + 1, 0, none⟩)] W (TokBad c W)) := by
              intro W hb
              rcases HRD.out W hb with ⟨c', hr, hc⟩ | ⟨k', t', pa', n', hr, _⟩
              · rw [hR] at hr
                simp only [Except.error.injEq] at hr
                obtain rfl := hr
                exact hc
              · rw [hR] at hr; cases hr
            have HRR := Lib.hid hR; clear hR HRD
            rw [HRR.out] at HE
            have hcz := readP_err HRR.out
            go_wp2_with fail
            go_cut [15, 16, 17] (fun _ _ v17 wc => v17 = .int .i64 c ∧ Below w.heap.size w wc)
            case first =>
              have HSR := Lib.hid (fun W (hb : Below wp.heap.size wp W) => (⟨cell_later hb c0, cell_later hb c2, cell_later hb c1, hb⟩ : W.cell? ⟨w.heap.size, 0, none⟩ = some (.string s) ∧ W.cell? ⟨w.heap.size + 1 + 1, 0, none⟩ = some (.pointer (some ⟨w.heap.size + 1, 0, none⟩)) ∧ W.cell? ⟨w.heap.size + 1, 1, none⟩ = some (.int .i64 pt) ∧ Below wp.heap.size wp W))
              have her := HER.out
              go_region_held3 (fun W => W.cell? ⟨w.heap.size, 0, none⟩ = some (.string s) ∧ W.cell? ⟨w.heap.size + 1 + 1, 0, none⟩ = some (.pointer (some ⟨w.heap.size + 1, 0, none⟩)) ∧ W.cell? ⟨w.heap.size + 1, 1, none⟩ = some (.int .i64 pt) ∧ Below wp.heap.size wp W)
                ((refine HSR.out _ ?_; first | with_reducible apply below_ba | ((with_reducible apply below_al); exact ‹_ ∧ _ ∧ _ ∧ Below _ _ _›.2.2.2) | ((with_reducible apply below_s5); exact ‹_ ∧ _ ∧ _ ∧ Below _ _ _›.2.2.2) | ((with_reducible apply below_dr); exact ‹_ ∧ _ ∧ _ ∧ Below _ _ _›.2.2.2) | exact ‹_ ∧ _ ∧ _ ∧ Below _ _ _›.2.2.2))
                (first | (go_at_call 26; refine (HRS.out _).mono ?_; rintro e w' ⟨rfl, rfl⟩) | ((with_reducible refine (HRC.out _ ‹_ ∧ _ ∧ _ ∧ Below _ _ _›.2.2.2).mono ?_); rintro e w2 ⟨rfl, hb2⟩; have hS2 := HSR.out _ (‹_ ∧ _ ∧ _ ∧ Below _ _ _›.2.2.2.trans (hb2.mono ‹_ ∧ _ ∧ _ ∧ Below _ _ _›.2.2.2.size)); have q0 := cells_of hb2 wp.heap.size 0; have q1 := cells_of hb2 wp.heap.size 1; have q2 := cells_of hb2 wp.heap.size 2; have q3 := cells_of hb2 wp.heap.size 3; have q4 := cells_of hb2 wp.heap.size 4; have q5 := frozen_of hb2 wp.heap.size; simp [cell_nd, frozen_nd] at q0 q1 q2 q3 q4 q5))
              · go_wp2_with fail
                go_meet
                exact ⟨rfl, HP.out.below.trans ((below_al hS2.2.2.2 _).mono (by omega))⟩
              all_goals go_wp2_with fail
              all_goals go_meet
              all_goals exact ⟨rfl, HP.out.below.trans ((below_s5 hS2.2.2.2 _ _ _ _ _).mono (by omega))⟩
            case rest =>
              obtain ⟨rfl, hbe⟩ := hcut
              have HBE := Lib.hid hbe; clear hbe
              have bc : ((c : Int) != 0) = true := by rw [bne_iff_ne]; omega
              go_wp2_with fail
              refine bodyPost_ret (results_tmp4 rfl _ _ _) rfl ?_
              exact sc_bad HE.out rfl (by omega) rfl HBE.out
          | ok y =>
            obtain ⟨k, tx, pa, n⟩ := y
            have HRC : RowKit.Hid (∀ W, Below wp.heap.size wp W → Calls Tryz.prog F #[.pointer (some ⟨w.heap.size + 1, 0, none⟩)] W (TokPost k tx pa (pt + n) W)) := by
              intro W hb
              rcases HRD.out W hb with ⟨c, hr, _⟩ | ⟨k', t', pa', n', hr, hc⟩
              · rw [hR] at hr; cases hr
              · rw [hR] at hr
                simp only [Except.ok.injEq, Prod.mk.injEq] at hr
                obtain ⟨rfl, rfl, rfl, rfl⟩ := hr
                exact hc
            have HRR := Lib.hid hR; clear hR HRD
            rw [HRR.out] at HE
            have HN := Lib.hid (readP_len (by rw [HD.out]; simp) HRR.out)
            rw [List.length_drop, ← Lib.size_eq] at HN
            go_wp2_with fail
            go_cut [15, 16, 17] (fun v15 v16 v17 wc => v17 = .int .i64 0 ∧ v16 = .int .i64 (pt + n : Nat) ∧ ∃ bt pv, v15 = .pointer (some ⟨bt, 0, none⟩) ∧ TkSt s w wc u11 pt ln' bg' acc xs r bt k (str tx) pv pa)
            case first =>
              have HSR := Lib.hid (fun W (hb : Below wp.heap.size wp W) => (⟨cell_later hb c0, cell_later hb c2, cell_later hb c1, hb⟩ : W.cell? ⟨w.heap.size, 0, none⟩ = some (.string s) ∧ W.cell? ⟨w.heap.size + 1 + 1, 0, none⟩ = some (.pointer (some ⟨w.heap.size + 1, 0, none⟩)) ∧ W.cell? ⟨w.heap.size + 1, 1, none⟩ = some (.int .i64 pt) ∧ Below wp.heap.size wp W))
              have her := HER.out
              go_region_held3 (fun W => W.cell? ⟨w.heap.size, 0, none⟩ = some (.string s) ∧ W.cell? ⟨w.heap.size + 1 + 1, 0, none⟩ = some (.pointer (some ⟨w.heap.size + 1, 0, none⟩)) ∧ W.cell? ⟨w.heap.size + 1, 1, none⟩ = some (.int .i64 pt) ∧ Below wp.heap.size wp W)
                ((refine HSR.out _ ?_; first | with_reducible apply below_ba | ((with_reducible apply below_al); exact ‹_ ∧ _ ∧ _ ∧ Below _ _ _›.2.2.2) | ((with_reducible apply below_s5); exact ‹_ ∧ _ ∧ _ ∧ Below _ _ _›.2.2.2) | ((with_reducible apply below_dr); exact ‹_ ∧ _ ∧ _ ∧ Below _ _ _›.2.2.2) | exact ‹_ ∧ _ ∧ _ ∧ Below _ _ _›.2.2.2))
                (first | (go_at_call 26; refine (HRS.out _).mono ?_; rintro e w' ⟨rfl, rfl⟩) | ((with_reducible refine (HRC.out _ ‹_ ∧ _ ∧ _ ∧ Below _ _ _›.2.2.2).mono ?_); rintro e w2 ⟨a, cap, rfl, hsf, hb2⟩; have hS2 := HSR.out _ (‹_ ∧ _ ∧ _ ∧ Below _ _ _›.2.2.2.trans (hb2.mono ‹_ ∧ _ ∧ _ ∧ Below _ _ _›.2.2.2.size)); have q0 := cells_of hb2 wp.heap.size 0; have q1 := cells_of hb2 wp.heap.size 1; have q2 := cells_of hb2 wp.heap.size 2; have q3 := cells_of hb2 wp.heap.size 3; have q4 := cells_of hb2 wp.heap.size 4; have q5 := frozen_of hb2 wp.heap.size; simp [cell_nd, frozen_nd] at q0 q1 q2 q3 q4 q5))
              · go_wp2_with fail
                go_meet
                exact ⟨rfl, by go_num, w2.heap.size, _, rfl, TkSt.new HP.out hS2.2.2.2 hsf⟩
              all_goals go_wp2_with fail
              all_goals go_meet
              all_goals exact ⟨rfl, by go_num, wp.heap.size, _, rfl, TkSt.old HP.out hS2.2.2.2 hsf.sz q0 q1 q2 q3 q4 q5⟩
            case rest =>
              obtain ⟨rfl, rfl, bt, pv, rfl, htk⟩ := hcut
              have HT := Lib.hid htk
              obtain ⟨-, hbt, t0, t1, t2, t3, t4, tf, hpath, hoff⟩ := htk
              obtain ⟨pa0, pcap, hpv, -, -⟩ := hpath.1
              subst hpv
              have HPA := Lib.hid hpath; clear hpath
              have HOF := Lib.hid hoff; clear hoff
              obtain ⟨u0, hu, hu0, hu1, hu2⟩ := info_parts Tryz.infoTok
              obtain ⟨w0, hs0, hb0, hle0⟩ := HT.out.at'
              have HS0 := Lib.hid hs0; clear hs0
              have HB0 := Lib.hid hb0; clear hb0
              have hbelow2 := fun o => ((HB0.out.setCell (p := ⟨bt, 3, none⟩) hle0 (.int .i64 ln')).setCell (p := ⟨bt, 4, none⟩) hle0 (.int .i64 (↑(pt - bg') + 1))).alloc (by simpa [World.setCell] using HB0.out.size) o
              have HSW := Lib.hid (fun o => HS0.out.later (hbelow2 o)); clear hbelow2
              have c2' := cell_later HB0.out HS0.out.pst.c2
              have hnb : ¬ bt = w.heap.size + 1 + 1 := by have := HS0.out.big; omega
              have hnb2 : ¬ w.heap.size + 1 + 1 = bt := by have := HS0.out.big; omega
              have hbig0 := HS0.out.big
              have hac := HS0.out.accle
              go_wp2_with (first | (at_builtin; refine wpList_append_own_at _ rfl _ _ 22 rfl (w.heap.size + 6) 32 u0 (.agg #[.int .i64 0, .string ⟨#[]⟩, .slice none 0 0, .int .i64 0, .int .i64 0]) 5 64 Tryz.underlying22 hu hu0 hu1 hu2 rfl (by decide) _ _ _ rfl (HSW.out _).own ⟨wc.heap.size, 0, none⟩ 1 1 [.int .i64 k, str tx, .slice pa0 pa.length pcap, .int .i64 ln', .int .i64 (↑(pt - bg') + 1)] rfl rfl ?e1 (one_tok _ _ _ _ _ _ _) ?e3 ?e4 ?e5 ?_))
              case e1 => exact cells_new5s (by simp [World.setCell]) _ _ _ _ _ _
              case e3 => unfold maxLen; omega
              case e4 => omega
              case e5 => exact (HSW.out _).big
              intro v' w1 hown1 hgr _ hob
              have hN1 := HN.out
              have HPW := fun o => ((HPA.out.setOff (j := 3) (x := .int .i64 ln') HOF.out).setOff (j := 4) (x := .int .i64 (↑(pt - bg') + 1)) HOF.out).later (ob' := u11.ownBlock) (w' := World.alloc _ o) (by simp) (fun k _ hk _ => Below.heap_alloc _ _ _ hk) (.inl rfl)
              have hfin := Lib.hid ((HSW.out _).push (tok := ⟨k, tx, pa, ln', ↑(pt - bg') + 1⟩) hown1 hgr hob (by simp [World.setCell]) (HPW _) (u := ↑pt + ↑n) (pt' := pt + n) (by omega) (by omega) (by omega) (by
                rw [HE.out]
                try simp only []
                rw [List.drop_drop, HP.out.pst.eq.symm]
                unfold adv
                rw [← List.foldl_append, ← List.take_add]
                rfl))
              obtain ⟨d2, d1, df⟩ := (HSW.out _).grown hgr
              clear hown1 hgr hob HPW c2' hnb hnb2 t0 t1 t2 t3 t4 tf
              go_wp2_with fail
              go_roundw
              case rel => exact ⟨pt + n, pt, ln', bg', _, _, hfin.out⟩
              case measure => rw [atOf_eq hfin.out.pst.c1, atOf_eq HC1.out]; omega
        · have hcm := scanC_comm (p := (ln', pt - bg' + 1)) (acc := acc) hB (by rw [← HD.out]; exact HA.out)
          rw [← HD.out] at hcm
          have HE := Lib.hid (heq.trans hcm); clear heq hcm hB
          go_wp2_with fail
          go_quiet ((go_at_call 25; exact quietL2 (comment_any s _ pt _ htx hz HA.out)))
          generalize hC : commC 0 0 (s.data.toList.drop pt) = C
          have HC : RowKit.Hid (commP ((s.data.toList.drop pt).length + 1) 0 0 (s.data.toList.drop pt) = C) := hC
          clear hC
          rw [HC.out] at HE
          cases C with
          | none =>
            rw [show commV pt none = 0 from rfl]
            go_wp2_with fail
            refine bodyPost_ret (results_tmp4 rfl _ _ _) rfl ?_
            exact sc_bad HE.out rfl rfl rfl (below_drewN HP.out.below _)
          | some n =>
            have hlen := commP_len _ _ _ _ HC.out
            rw [List.length_drop, ← Lib.size_eq] at hlen
            have b0 : (((pt + n : Nat) : Int) == 0) = false := by rw [beq_eq_false_iff_ne]; omega
            rw [show commV pt (some n) = ((pt + n : Nat) : Int) from rfl]
            go_wp2_with fail
            have hn := fun k => (HP.out.drewN k).setAt (pt' := pt + n) (u := ↑pt + ↑n) (by omega) (by omega) (by omega) (by
              rw [HE.out]
              simp only []
              rw [List.drop_drop, ← HP.out.pst.eq]
              unfold adv
              rw [← List.foldl_append, ← List.take_add])
            go_roundw
            case rel => exact ⟨pt + n, pt, ln', bg', acc, xs, hn _⟩
            case measure => rw [atOf_eq (hn _).pst.c1, atOf_eq HC1.out]; omega
      · have hn := fun k => (HS.out.drewN k).setAt (pt' := pt + 1) (u := ↑pt + 1) (by omega) (by omega) (by omega) (by rw [HS.out.eq, HD.out, scanC_blank hB, adv_step hlt, hx])
        clear hB
        go_wp2_with fail
        go_roundw
        case rel => exact ⟨pt + 1, sn, ln, bg, acc, xs, hn _⟩
        case measure => rw [atOf_eq (hn _).pst.c1, atOf_eq HC1.out]; omega
    · have HE := Lib.hid (show r = .ok acc by rw [HS.out.eq, List.drop_of_length_le (by rw [← Lib.size_eq]; omega)]; rfl)
      have hI : decide ((pt : Int) < (s.size : Int)) = false := by simp; omega
      go_wp2_with fail
      go_quiet (fail)
      go_wp2_with fail
      (try simp only [Exit.inBlock, Exit.then]); refine bodyPost_ret (results_tmp4 rfl _ _ _) rfl ?_
      refine ⟨below_drewN HS.out.below _, ?_⟩
      rw [HE.out]
      exact ⟨_, xs, rfl, (HS.out.drewN _).own, (HS.out.drewN _).toks⟩

end Go.Proofs.YtbchkldhnjahaaaGreatDoor
