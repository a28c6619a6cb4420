/- Part of the proof. Conditions: those of each theorem. -/
import Derived.Deep.RegionHeld3
import Derived.Deep.DeepCutAuto
import Derived.Maps.AppendAt
import Derived.Lib.Join
import Derived.Shelf.Strings.Builder1
import Derived.Deep.CutBlock
import Derived.Test.YtbchkldhnjahaaaGreatDoorPoa
import Derived.Test.YtbchkldhnjahaaaGreatDoorPod
import Derived.Test.YtbchkldhnjahaaaGreatDoorPoe
import Derived.Test.YtbchkldhnjahaaaGreatDoorPof
import Derived.Test.YtbchkldhnjahaaaGreatDoorPog
set_option maxRecDepth 100000
set_option maxHeartbeats 40000000
namespace Go.Proofs.YtbchkldhnjahaaaGreatDoor
open Go.RowKit Kiln
open Go.Proofs
def qj (ob : Option Nat) (B : Nat) (w : World) (v : Value) (l : List Bytes) : Prop :=
 Strs w v l ∧ (l ≠ [] → ∃ a n cap, v = .slice (some a) n cap ∧ B ≤ a.block ∧ a.block < w.heap.size ∧ some a.block ≠ ob)
theorem Strs.keep {w w' : World} {v : Value} {l : List Bytes} (h : Strs w v l) (hk : l ≠ [] → ∀ a n cap, v = .slice (some a) n cap → w'.heap[a.block]? = w.heap[a.block]?) : Strs w' v l := by
 obtain ⟨a, cap, rfl, hc, hl⟩ := h;refine ⟨a, cap, rfl, hc, fun hne => ?_⟩;obtain ⟨b, off, rfl, hx⟩ := hl hne;refine ⟨b, off, rfl, fun i x hi => ?_⟩;have e : w'.heap[(⟨b, off + i, none⟩ : Addr).block]? = w.heap[(⟨b, off + i, none⟩ : Addr).block]? := hk hne ⟨b, off, none⟩ _ _ rfl;exact (World.cell?_of_block (w := w) e).trans (hx i x hi)
theorem qj.later {ob ob' : Option Nat} {B : Nat} {w w' : World} {v : Value} {l : List Bytes} (h : qj ob B w v l) (hs : w.heap.size ≤ w'.heap.size)
 (hk : ∀ k, B ≤ k → k < w.heap.size → some k ≠ ob → w'.heap[k]? = w.heap[k]?) (ho : ob' = ob ∨ ∃ k, ob' = some k ∧ w.heap.size ≤ k) : qj ob' B w' v l := by
 refine ⟨h.1.keep fun hne a n cap hv => ?_, fun hne => ?_⟩
 · obtain ⟨a', n', cap', hv', h1, h2, h3⟩ := h.2 hne;rw [hv] at hv';simp only [ξR, ξO] at hv';obtain ⟨rfl, _, _⟩ := hv';exact hk _ h1 h2 h3
 · obtain ⟨a, n, cap, hv, h1, h2, h3⟩ := h.2 hne;refine ⟨a, n, cap, hv, h1, by omega, ?_⟩;rcases ho with rfl | ⟨k, rfl, hk⟩
   · exact h3
   · intro e; injection e with e; omega
def fV (t : Tok) (pv : Value) : List Value := [.int .i64 t.kind, str t.text, pv, .int .i64 t.line, .int .i64 t.col]
def Ad (ob : Option Nat) (B : Nat) (w : World) : List Tok → List Value → Prop
 | [], xs => xs = []
 | t :: l, xs => ∃ pv ys, xs = fV t pv ++ ys ∧ qj ob B w pv t.path ∧ Ad ob B w l ys
theorem Ad.later {ob ob' : Option Nat} {B : Nat} {w w' : World} (hs : w.heap.size ≤ w'.heap.size)
 (hk : ∀ k, B ≤ k → k < w.heap.size → some k ≠ ob → w'.heap[k]? = w.heap[k]?) (ho : ob' = ob ∨ ∃ k, ob' = some k ∧ w.heap.size ≤ k) :
 ∀ {l : List Tok} {xs : List Value}, Ad ob B w l xs → Ad ob' B w' l xs
 | [], _, h => h
 | _ :: _, _, ⟨pv, ys, hx, hp, hr⟩ => ⟨pv, ys, hx, hp.later hs hk ho, Ad.later hs hk ho hr⟩
theorem Ad.snoc {ob : Option Nat} {B : Nat} {w : World} {t : Tok} {pv : Value} (hp : qj ob B w pv t.path) : ∀ {l : List Tok} {xs : List Value}, Ad ob B w l xs → Ad ob B w (l ++ [t]) (xs ++ fV t pv)
 | [], _, h => by subst h; exact ⟨pv, [], by simp, hp, rfl⟩
 | _ :: _, _, ⟨pv', ys, hx, hp', hr⟩ => ⟨pv', ys ++ fV t pv, by rw [hx, ξo], hp', Ad.snoc hp hr⟩
theorem PSt.self {s : ByteArray} {B pt sn ln bg : Nat} {w wr : World} (h : PSt s B pt w wr sn ln bg) : PSt s B pt wr wr sn ln bg :=
 ⟨h.c0, h.c1, h.c2, h.c3, h.c4, h.c5, h.f3, h.f4, h.f5, fun _ _ => rfl, rfl, rfl, rfl, rfl, h.le, h.bgle, h.lnle, h.eq⟩
theorem PSt.below {s : ByteArray} {B pt sn ln bg : Nat} {w wr : World} (h : PSt s B pt w wr sn ln bg) : Below (B + 3) w wr := ⟨h.os, h.tape, h.output, Nat.le_of_eq h.size.symm, fun k hk => h.keep k (.inl hk)⟩
structure pY (s : ByteArray) (w wr : World) (v : Value) (pt sn ln bg : Nat) (acc : List Tok) (xs : List Value) (r : dS) : Prop where
 pst : PSt s w.heap.size pt wr wr sn ln bg
 txt : wr.cell? ⟨w.heap.size + 1, 0, none⟩ = some (.string s)
 fat : wr.frozen? ⟨w.heap.size + 1, 1, none⟩ = false
 below : Below w.heap.size w wr
 big : w.heap.size + 6 ≤ wr.heap.size
 own : wr.ownsRow (w.heap.size + 6) 32 5 v acc.length xs
 toks : Ad v.ownBlock (w.heap.size + 6) wr acc xs
 le : pt ≤ s.size
 accle : acc.length ≤ pt
 eq : r = gK (s.data.toList.drop pt) (adv (1, 1) (s.data.toList.take pt)) acc
theorem nQ {w w' : World} {B n size : Nat} {e : TypeId} {v : Value} {xs : List Value} (h : w.ownsRow B e size v n xs) (hb : ∀ k, B ≤ k → w'.heap[k]? = w.heap[k]?) : w'.ownsRow B e size v n xs := by
 refine ⟨h.1, ?_⟩;rcases h.2 with hn | ⟨g, cap, cur, rfl, hbg, hg, rest⟩
 · exact .inl hn
 · exact .inr ⟨g, cap, cur, rfl, hbg, (hb g hbg).trans hg, rest⟩
theorem pY.place {s : ByteArray} {w wr wp : World} {v : Value} {pt sn ln bg ln' bg' n : Nat} {acc : List Tok} {xs : List Value} {r : dS} (h : pY s w wr v pt sn ln bg acc xs r)
 (hp : PSt s w.heap.size pt (wr.drewN n) wp pt ln' bg') : pY s w wp v pt pt ln' bg' acc xs r := by
 have hk : ∀ k, k < w.heap.size + 3 ∨ w.heap.size + 5 < k → wp.heap[k]? = wr.heap[k]? := hp.keep;have hsz : wp.heap.size = wr.heap.size := hp.size;refine ⟨hp.self, (World.cell?_of_block (w := wr) (hk _ (.inl (by simp only []; omega)))).trans h.txt, (World.frozen?_of_block (w := wr) (hk _ (.inl (by simp only []; omega)))).trans h.fat, (below_drewN h.below n).trans (hp.below.mono (by omega)),
  by rw [hsz]; exact h.big, nQ h.own fun k hk' => hk k (.inr (by omega)), h.toks.later (Nat.le_of_eq hsz.symm) (fun k h1 _ _ => hk k (.inr (by omega))) (.inl rfl), h.le, h.accle, h.eq⟩
theorem pY.drewN {s : ByteArray} {w wr : World} {v : Value} {pt sn ln bg : Nat} {acc : List Tok} {xs : List Value} {r : dS} (h : pY s w wr v pt sn ln bg acc xs r) (n : Nat) : pY s w (wr.drewN n) v pt sn ln bg acc xs r :=
 ⟨(h.pst.drewN n).self, h.txt, h.fat, below_drewN h.below n, h.big, nQ h.own (w' := wr.drewN n) fun _ _ => rfl, h.toks.later (w := wr) (w' := wr.drewN n) (ξF _) (fun _ _ _ _ => rfl) (.inl rfl), h.le, h.accle, h.eq⟩
theorem pY.setAt {s : ByteArray} {w wr : World} {v : Value} {pt pt' sn ln bg : Nat} {acc : List Tok} {xs : List Value} {r : dS} (h : pY s w wr v pt sn ln bg acc xs r) {u : Int} (hu : u = pt') (h1 : pt ≤ pt') (h2 : pt' ≤ s.size)
 (he : r = gK (s.data.toList.drop pt') (adv (1, 1) (s.data.toList.take pt')) acc) : pY s w (wr.setCell ⟨w.heap.size + 1, 1, none⟩ (.int .i64 u)) v pt' sn ln bg acc xs r := by
 subst hu;have o : ∀ k j, k ≠ w.heap.size + 1 → (wr.setCell ⟨w.heap.size + 1, 1, none⟩ (.int .i64 pt')).cell? ⟨k, j, none⟩ = wr.cell? ⟨k, j, none⟩ := fun k j hk => ξT (h := fun e => hk (by injection e with e; exact e.symm)) ..;have hh : ∀ k, k ≠ w.heap.size + 1 → (wr.setCell ⟨w.heap.size + 1, 1, none⟩ (.int .i64 pt')).heap[k]? = wr.heap[k]? := fun k hk => Below.heap_setCell _ _ _ _ hk;have p := h.pst;refine ⟨⟨(o _ _ (by omega)).trans p.c0, ξU (h := p.c1) .., (o _ _ (by omega)).trans p.c2, (o _ _ (by omega)).trans p.c3, (o _ _ (by omega)).trans p.c4, (o _ _ (by omega)).trans p.c5, by rw [ξV]; exact p.f3, by rw [ξV]; exact p.f4, by rw [ξV]; exact p.f5,
  fun _ _ => rfl, rfl, rfl, rfl, rfl, ξG p.le h1, p.bgle, p.lnle, p.eq⟩, ?_, by rw [ξV]; exact h.fat, h.below.setCell (by simp only []; omega) _, by simpa [World.setCell] using h.big,
  nQ h.own fun k hk => hh k (by omega), h.toks.later (by simp [World.setCell]) (fun k h1 _ _ => hh k (by omega)) (.inl rfl), h2, ξG h.accle h1, he⟩
 rw [ξT (h := by intro e; injection e; omega)];exact h.txt
def vA (r : dS) (w : World) (e : Ending) (w' : World) : Prop :=
 Below w.heap.size w w' ∧ match r with
 | .error (c, ln, col) => e = .returned (.tuple #[.slice none 0 0, .int .i64 ln, .int .i64 col, .int .i64 c])
 | .ok l => ∃ v xs, e = .returned (.tuple #[v, .int .i64 0, .int .i64 0, .int .i64 0]) ∧ w'.ownsRow (w.heap.size + 6) 32 5 v l.length xs ∧ Ad v.ownBlock (w.heap.size + 6) w' l xs
theorem Eb {r : dS} {w w' : World} {c ln col : Nat} {lv cv ev : Int} (h : r = .error (c, ln, col)) (h1 : lv = ln) (h2 : cv = col) (h3 : ev = c) (hb : Below w.heap.size w w') :
 vA r w (.returned (.tuple #[.slice none 0 0, .int .i64 lv, .int .i64 cv, .int .i64 ev])) w' := by
 subst h; subst h1; subst h2; subst h3; exact ⟨hb, rfl⟩
theorem fJ {w : World} {k : Nat} {x : Obj} (h : w.heap[k]? = some x) (o : Obj) : (w.alloc o).heap[k]? = some x := (ξe w o k (ξd.1 h).1).trans h
theorem oG (w : World) (o : Obj) (k : Nat) (h : k = w.heap.size) : (w.alloc o).heap[k]? = some o := by subst h; exact ψe w o
theorem pY.init (s : ByteArray) (w : World) (r : dS) (h : r = gK s.data.toList (1, 1) []) :
 pY s w ((((((w.alloc (.cells #[.string s] 9)).alloc (.cells #[.string s, .int .i64 0] 55)).alloc (.cells #[.pointer (some ⟨w.heap.size + 1, 0, none⟩)] 53)).alloc (.cells #[.int .i64 1] 3)).alloc (.cells #[.int .i64 0] 3)).alloc (.cells #[.int .i64 0] 3)) (.slice none 0 0) 0 0 1 0 [] [] r := by
 obtain ⟨W, hW⟩ : ∃ W, ((((((w.alloc (.cells #[.string s] 9)).alloc (.cells #[.string s, .int .i64 0] 55)).alloc (.cells #[.pointer (some ⟨w.heap.size + 1, 0, none⟩)] 53)).alloc (.cells #[.int .i64 1] 3)).alloc (.cells #[.int .i64 0] 3)).alloc (.cells #[.int .i64 0] 3)) = W := ⟨_, rfl⟩;have h0 : W.heap[w.heap.size]? = some (.cells #[.string s] 9 (0, 0)) := by rw [← hW]; exact fJ (fJ (fJ (fJ (fJ (oG _ _ (w.heap.size) (by simp)) _) _) _) _) _
 have h1 : W.heap[w.heap.size + 1]? = some (.cells #[.string s, .int .i64 0] 55 (0, 0)) := by rw [← hW]; exact fJ (fJ (fJ (fJ (oG _ _ (w.heap.size + 1) (by simp)) _) _) _) _
 have h2 : W.heap[w.heap.size + 1 + 1]? = some (.cells #[.pointer (some ⟨w.heap.size + 1, 0, none⟩)] 53 (0, 0)) := by rw [← hW]; exact fJ (fJ (fJ (oG _ _ (w.heap.size + 1 + 1) (by simp)) _) _) _
 have h3 : W.heap[w.heap.size + 1 + 1 + 1]? = some (.cells #[.int .i64 1] 3 (0, 0)) := by rw [← hW]; exact fJ (fJ (oG _ _ (w.heap.size + 1 + 1 + 1) (by simp)) _) _
 have h4 : W.heap[w.heap.size + 1 + 1 + 1 + 1]? = some (.cells #[.int .i64 0] 3 (0, 0)) := by rw [← hW]; exact fJ (oG _ _ (w.heap.size + 1 + 1 + 1 + 1) (by simp)) _
 have h5 : W.heap[w.heap.size + 1 + 1 + 1 + 1 + 1]? = some (.cells #[.int .i64 0] 3 (0, 0)) := by rw [← hW]; exact oG _ _ (w.heap.size + 1 + 1 + 1 + 1 + 1) (by simp)
 have hb : Below w.heap.size w W := by
  rw [← hW];refine Below.alloc (Below.alloc (Below.alloc (Below.alloc (Below.alloc (Below.alloc (ξf _ w) ?_ _) ?_ _) ?_ _) ?_ _) ?_ _) ?_ _ <;> simp <;> omega
 have hsz : w.heap.size + 6 ≤ W.heap.size := by rw [← hW]; simp
 rw [hW];clear hW;refine ⟨⟨?_, ?_, ?_, ?_, ?_, ?_, ?_, ?_, ?_, fun _ _ => rfl, rfl, rfl, rfl, rfl, ξF _, ξF _, ξF _, rfl⟩, ?_, ?_, hb, hsz, ξX _ _ _ _, rfl, ξM _, ξF _, h⟩;all_goals simp [World.cell?, World.frozen?, h0, h1, h2, h3, h4, h5]
def M0 (w : World) (b : Nat) : Nat := match w.cell? ⟨b, 1, none⟩ with | some v => (intOf v).toNat | none => 0
theorem oN {w : World} {b n : Nat} (h : w.cell? ⟨b, 1, none⟩ = some (.int .i64 n)) : M0 w b = n := by
 unfold M0; rw [h]; simp [intOf]
theorem xG {l : Bytes} {c : Nat} (h : gL l = .error c) : c ≠ 0 := by
 have hw : ∀ (f : Nat) (path : List Bytes) (m : Nat) (l : Bytes), fR f path m l = .error c → c ≠ 0 := by
  intro f;induction f with
  | zero => intro path m l h; simp only [fR, ξl] at h; omega
  | succ f ih =>
   intro path m l h;simp only [fR] at h;split at h
   · split at h
     · cases h
     · simp only [ξl] at h; omega
   · split at h
     · split at h
       · exact ih _ _ _ h
       · split at h
         · simp only [ξl] at h; omega
         · cases h
     · cases h
 have hn : ∀ l, cF l = .error c → c ≠ 0 := by
  intro l h;unfold cF at h;simp only [] at h;split at h
  · simp only [ξl] at h; omega
  · split at h
    · simp only [ξl] at h; omega
    · cases h
 have hch : ∀ l, jw l = .error c → c ≠ 0 := by
  intro l h;unfold jw at h;split at h
  · simp only [ξl] at h; omega
  · split at h
    · cases h
    · simp only [ξl] at h; omega
 unfold gL at h;simp only [] at h;split at h
 · exact hw _ _ _ _ h
 split at h
 · exact hn _ h
 split at h
 · unfold q8 at h;split at h
   · exact hn _ h
   split at h
   · exact hch _ h
   · cases h
 split at h
 · unfold lg at h;split at h
   · simp only [ξl] at h; omega
   · split at h
     · simp only [ξl] at h; omega
     · cases h
 split at h
 · cases h
 · unfold jU at h;generalize (if [46, 46, 46].isPrefixOf l then 3 else 1 : Nat) = m at h;replace h : (if j6 (List.take m l) = true then Except.ok (1, List.take m l, [], m) else Except.error 40 : Rd) = Except.error c := h;split at h
   · cases h
   · simp only [ξl] at h; omega
theorem wK (c : UInt8) (args : Array Value) (w : World) : (callFunc (iM c) args).run Tryz.prog w = .ok (.enter (iM c) args) w := by
 unfold iM;split
 · exact enters_of Tryz.func41 (by kernel_rfl) rfl args w
 · split
   · exact enters_of Tryz.func43 (by kernel_rfl) rfl args w
   · split
     · exact enters_of Tryz.func45 (by kernel_rfl) rfl args w
     · split
       · exact enters_of Tryz.func46 (by kernel_rfl) rfl args w
       · split
         · exact enters_of Tryz.func47 (by kernel_rfl) rfl args w
         · exact enters_of Tryz.func48 (by kernel_rfl) rfl args w
def KX (k : Nat) (t : Bytes) (pa : List Bytes) (n : Nat) (w : World) (e : Ending) (w' : World) : Prop :=
 ∃ a cap, e = .returned (.tuple #[.agg #[.int .i64 k, str t, .slice a pa.length cap, .int .i64 0, .int .i64 0], .int .i64 (n : Nat), .int .i64 0]) ∧ oQ w.heap.size w' (.slice a pa.length cap) pa ∧ Below w.heap.size w w'
theorem gU {w w2 : World} (hb : Below w.heap.size w w2) : ∀ k j, k < w.heap.size → w2.cell? ⟨k, j, none⟩ = w.cell? ⟨k, j, none⟩ := fun k j h => hb.cell (p := ⟨k, j, none⟩) h
theorem yH {w w2 : World} (hb : Below w.heap.size w w2) : ∀ k j, k < w.heap.size → w2.frozen? ⟨k, j, none⟩ = w.frozen? ⟨k, j, none⟩ := fun k j h => hb.frozen (p := ⟨k, j, none⟩) h
theorem FB (w : World) (n j : Nat) (cs : Array Value) (T : TypeId) : ((w.drewN n).alloc (.cells cs T)).cell? ⟨w.heap.size, j, none⟩ = cs[j]? :=
 (World.cell?_alloc_new (w.drewN n) ..)
theorem yI (w : World) (n j : Nat) (cs : Array Value) (T : TypeId) : ((w.drewN n).alloc (.cells cs T)).frozen? ⟨w.heap.size, j, none⟩ = false := by
 have h : ((w.drewN n).alloc (.cells cs T)).heap[w.heap.size]? = some (.cells cs T) := ψe (w.drewN n) _;unfold World.frozen?;simp only [h];simp
theorem qI {wp W : World} (h : Below wp.heap.size wp W) (v0 v1 v2 v3 v4 : Value) :
 Below wp.heap.size wp (((((W.setCell ⟨wp.heap.size, 0, none⟩ v0).setCell ⟨wp.heap.size, 1, none⟩ v1).setCell ⟨wp.heap.size, 2, none⟩ v2).setCell ⟨wp.heap.size, 3, none⟩ v3).setCell ⟨wp.heap.size, 4, none⟩ v4) :=
 ((((h.setCell (ξF _) _).setCell (ξF _) _).setCell (ξF _) _).setCell (ξF _) _).setCell (ξF _) _
theorem wR {wp W : World} (h : Below wp.heap.size wp W) (o : Obj) : Below wp.heap.size wp (W.alloc o) := h.alloc h.size o
theorem BK {wp W : World} (h : Below wp.heap.size wp W) : Below wp.heap.size wp W.drew := h.drew
theorem BL (wp : World) (n : Nat) : Below wp.heap.size wp (wp.drewN n).drew := (below_drewN (ξf _ _) _).drew
theorem pY.later {s : ByteArray} {w wp W : World} {v : Value} {pt sn ln bg : Nat} {acc : List Tok} {xs : List Value} {r : dS} (h : pY s w wp v pt sn ln bg acc xs r) (hb : Below wp.heap.size wp W) : pY s w W v pt sn ln bg acc xs r := by
 have p := h.pst;have hbig := h.big;have f : ∀ k, k < 6 → ∀ j, W.frozen? ⟨w.heap.size + k, j, none⟩ = wp.frozen? ⟨w.heap.size + k, j, none⟩ := fun k hk j => hb.frozen (p := ⟨w.heap.size + k, j, none⟩) (by simp only []; omega);exact ⟨⟨cell_later hb p.c0, cell_later hb p.c1, cell_later hb p.c2, cell_later hb p.c3, cell_later hb p.c4, cell_later hb p.c5, (f 3 (by omega) 0).trans p.f3, (f 4 (by omega) 0).trans p.f4, (f 5 (by omega) 0).trans p.f5,
  fun _ _ => rfl, rfl, rfl, rfl, rfl, p.le, p.bgle, p.lnle, p.eq⟩, cell_later hb h.txt, (f 1 (by omega) 1).trans h.fat, h.below.trans (hb.mono (by omega)), ξG hbig hb.size,
  oC h.own hb, h.toks.later hb.size (fun k _ hk _ => hb.block k hk) (.inl rfl), h.le, h.accle, h.eq⟩
structure KY (s : ByteArray) (w wc : World) (v : Value) (pt ln bg : Nat) (acc : List Tok) (xs : List Value) (r : dS) (bt : Nat) (k : Int) (t pv : Value) (pa : List Bytes) : Prop where
 at' : ∃ wp, pY s w wp v pt pt ln bg acc xs r ∧ Below wp.heap.size wp wc ∧ wp.heap.size ≤ bt
 lt : bt < wc.heap.size
 c0 : wc.cell? ⟨bt, 0, none⟩ = some (.int .i64 k)
 c1 : wc.cell? ⟨bt, 1, none⟩ = some t
 c2 : wc.cell? ⟨bt, 2, none⟩ = some pv
 c3 : wc.cell? ⟨bt, 3, none⟩ = some (.int .i64 0)
 c4 : wc.cell? ⟨bt, 4, none⟩ = some (.int .i64 0)
 fz : ∀ j, wc.frozen? ⟨bt, j, none⟩ = false
 path : qj v.ownBlock (w.heap.size + 6) wc pv pa
 off : pa ≠ [] → ∀ a n cap, pv = .slice (some a) n cap → a.block ≠ bt
theorem Md {w : World} {B n size : Nat} {e : TypeId} {v : Value} {xs : List Value} (h : w.ownsRow B e size v n xs) {k : Nat} (hk : v.ownBlock = some k) : k < w.heap.size := (h.lt k hk).2
theorem AB {s : ByteArray} {w wp w2 : World} {v : Value} {pt sn ln bg : Nat} {acc : List Tok} {xs : List Value} {r : dS} {C : Nat} {pv : Value} {pa : List Bytes} (h : pY s w wp v pt sn ln bg acc xs r) (hC : wp.heap.size ≤ C) (hf : oQ C w2 pv pa) :
 qj v.ownBlock (w.heap.size + 6) w2 pv pa := by
 refine ⟨hf.1, fun hne => ?_⟩;obtain ⟨a, n, cap, rfl, ha⟩ := hf.2 hne;have hbig := h.big;refine ⟨a, n, cap, rfl, by omega, ?_, fun e => ?_⟩
 · obtain ⟨a', cap', hv, _, hl⟩ := hf.1;obtain ⟨b, off, ha', hx⟩ := hl hne;simp only [ξR] at hv;rw [← hv.1] at ha';injection ha' with ha'
   subst ha';cases pa with
   | nil => exact absurd rfl hne
   | cons x l => exact ξS _ _ (hx 0 x rfl)
 · have := Md h.own e.symm; omega
theorem KY.new {s : ByteArray} {w wp w2 : World} {v : Value} {pt ln bg : Nat} {acc : List Tok} {xs : List Value} {r : dS} {pv t : Value} {pa : List Bytes} {k : Int} {T : TypeId} (h : pY s w wp v pt pt ln bg acc xs r) (hb : Below wp.heap.size wp w2) (hf : oQ wp.heap.size w2 pv pa) :
 KY s w (w2.alloc (.cells #[.int .i64 k, t, pv, .int .i64 0, .int .i64 0] T)) v pt ln bg acc xs r w2.heap.size k t pv pa := by
 have hp := AB h (ξF _) hf;refine ⟨⟨wp, h, hb.alloc hb.size _, hb.size⟩, by simp, ?_, ?_, ?_, ?_, ?_, fun j => by simp, ?_, fun hne a n cap hv => ?_⟩
 · rw [World.cell?_alloc_new]; rfl
 · rw [World.cell?_alloc_new]; rfl
 · rw [World.cell?_alloc_new]; rfl
 · rw [World.cell?_alloc_new]; rfl
 · rw [World.cell?_alloc_new]; rfl
 · exact hp.later (by simp) (fun k _ hk _ => ξe _ _ _ hk) (.inl rfl)
 · obtain ⟨a', n', cap', hv', _, hlt, _⟩ := hp.2 hne;rw [hv] at hv';simp only [ξR, ξO] at hv';rw [hv'.1]; omega
theorem KY.old {s : ByteArray} {w wp w2 : World} {v : Value} {pt ln bg : Nat} {acc : List Tok} {xs : List Value} {r : dS} {pv t u0 u1 u2 u3 u4 : Value} {pa : List Bytes} {k : Int} (h : pY s w wp v pt pt ln bg acc xs r) (hb : Below wp.heap.size wp w2) (hf : oQ (wp.heap.size + 1) w2 pv pa)
 (q0 : w2.cell? ⟨wp.heap.size, 0, none⟩ = some u0) (q1 : w2.cell? ⟨wp.heap.size, 1, none⟩ = some u1) (q2 : w2.cell? ⟨wp.heap.size, 2, none⟩ = some u2) (q3 : w2.cell? ⟨wp.heap.size, 3, none⟩ = some u3) (q4 : w2.cell? ⟨wp.heap.size, 4, none⟩ = some u4) (q5 : ∀ j, w2.frozen? ⟨wp.heap.size, j, none⟩ = false) :
 KY s w (((((w2.setCell ⟨wp.heap.size, 0, none⟩ (.int .i64 k)).setCell ⟨wp.heap.size, 1, none⟩ t).setCell ⟨wp.heap.size, 2, none⟩ pv).setCell ⟨wp.heap.size, 3, none⟩ (.int .i64 0)).setCell ⟨wp.heap.size, 4, none⟩ (.int .i64 0)) v pt ln bg acc xs r wp.heap.size k t pv pa := by
 have hp := AB h (Nat.le_succ _) hf;have hoff : pa ≠ [] → ∀ a n cap, pv = .slice (some a) n cap → a.block ≠ wp.heap.size := fun hne a n cap hv => by
  obtain ⟨a', n', cap', hv', hlt⟩ := hf.2 hne;rw [hv] at hv';simp only [ξR, ξO] at hv';rw [hv'.1]; omega
 have hw := ξS _ _ q0;have ne : ∀ i j, i ≠ j → (⟨wp.heap.size, i, none⟩ : Addr) ≠ ⟨wp.heap.size, j, none⟩ := fun i j h e => h (by injection e);have o : ∀ (W : World) (i j : Nat) (x : Value), i ≠ j → (W.setCell ⟨wp.heap.size, i, none⟩ x).cell? ⟨wp.heap.size, j, none⟩ = W.cell? ⟨wp.heap.size, j, none⟩ := fun W i j x h => ξT (h := ne i j h) ..;have sm : ∀ (W : World) (i : Nat) (x u : Value), W.cell? ⟨wp.heap.size, i, none⟩ = some u → (W.setCell ⟨wp.heap.size, i, none⟩ x).cell? ⟨wp.heap.size, i, none⟩ = some x := fun W i x u h => ξU (h := h) ..;refine ⟨⟨wp, h, qI hb _ _ _ _ _, ξF _⟩, by simpa [World.setCell] using hw, ?_, ?_, ?_, ?_, ?_, fun j => by simp only [ξV]; exact q5 j, ?_, hoff⟩
 · rw [o _ _ _ _ (by omega), o _ _ _ _ (by omega), o _ _ _ _ (by omega), o _ _ _ _ (by omega)]; exact sm _ _ _ _ q0
 · rw [o _ _ _ _ (by omega), o _ _ _ _ (by omega), o _ _ _ _ (by omega)]; exact sm _ _ _ _ ((o _ _ _ _ (by omega)).trans q1)
 · rw [o _ _ _ _ (by omega), o _ _ _ _ (by omega)];refine sm _ _ _ u2 ?_;rw [o _ _ _ _ (by omega), o _ _ _ _ (by omega)]; exact q2
 · rw [o _ _ _ _ (by omega)];refine sm _ _ _ u3 ?_;rw [o _ _ _ _ (by omega), o _ _ _ _ (by omega), o _ _ _ _ (by omega)]; exact q3
 · refine sm _ _ _ u4 ?_;rw [o _ _ _ _ (by omega), o _ _ _ _ (by omega), o _ _ _ _ (by omega), o _ _ _ _ (by omega)]; exact q4
 · have hs : ∀ (W : World) (i : Nat) (x : Value) (k : Nat), k ≠ wp.heap.size → (W.setCell ⟨wp.heap.size, i, none⟩ x).heap[k]? = W.heap[k]? := fun W i x k hk => Below.heap_setCell _ _ _ _ hk;refine ⟨hp.1.keep fun hne a n cap hv => ?_, fun hne => ?_⟩
   · have := hoff hne a n cap hv;rw [hs _ _ _ _ this, hs _ _ _ _ this, hs _ _ _ _ this, hs _ _ _ _ this, hs _ _ _ _ this]
   · obtain ⟨a, n, cap, hv, h1, h2, h3⟩ := hp.2 hne;exact ⟨a, n, cap, hv, h1, by simpa [World.setCell] using h2, h3⟩
theorem pY.push {s : ByteArray} {w W w1 : World} {v v' : Value} {pt pt' sn ln bg : Nat} {acc : List Tok} {xs : List Value} {r : dS} {tok : Tok} {pv : Value} (h : pY s w W v pt sn ln bg acc xs r)
 (hown : w1.ownsRow (w.heap.size + 6) 32 5 v' (acc.length + 1) (xs ++ fV tok pv)) (hg : W.grownBy w1 v.ownBlock) {m : Nat} (ho : v'.ownBlock = v.ownBlock ∨ v'.ownBlock = some m) (hm : m = W.heap.size)
 (hp : qj v.ownBlock (w.heap.size + 6) W pv tok.path) {u : Int} (hu : u = pt') (h1 : pt < pt') (h2 : pt' ≤ s.size)
 (he : r = gK (s.data.toList.drop pt') (adv (1, 1) (s.data.toList.take pt')) (acc ++ [tok])) : pY s w (w1.setCell ⟨w.heap.size + 1, 1, none⟩ (.int .i64 u)) v' pt' sn ln bg (acc ++ [tok]) (xs ++ fV tok pv) r := by
 have hbig := h.big;have hb : Below (w.heap.size + 6) W w1 := (ξf _ _).grown hg hbig fun k hk => (h.own.lt k hk).1;have p := h.pst;have c : ∀ k j, k < 6 → w1.cell? ⟨w.heap.size + k, j, none⟩ = W.cell? ⟨w.heap.size + k, j, none⟩ := fun k j hk => hb.cell (p := ⟨w.heap.size + k, j, none⟩) (by simp only []; omega);have f : ∀ k j, k < 6 → w1.frozen? ⟨w.heap.size + k, j, none⟩ = W.frozen? ⟨w.heap.size + k, j, none⟩ := fun k j hk => hb.frozen (p := ⟨w.heap.size + k, j, none⟩) (by simp only []; omega);have h0 : pY s w w1 v' pt sn ln bg acc [] r → True := fun _ => trivial;have q : PSt s w.heap.size pt w1 w1 sn ln bg := ⟨(c 0 0 (by omega)).trans p.c0, (c 1 1 (by omega)).trans p.c1, (c 2 0 (by omega)).trans p.c2, (c 3 0 (by omega)).trans p.c3, (c 4 0 (by omega)).trans p.c4, (c 5 0 (by omega)).trans p.c5,
  (f 3 0 (by omega)).trans p.f3, (f 4 0 (by omega)).trans p.f4, (f 5 0 (by omega)).trans p.f5, fun _ _ => rfl, rfl, rfl, rfl, rfl, p.le, p.bgle, p.lnle, p.eq⟩
 have hsz : W.heap.size ≤ w1.heap.size := hb.size;have ht : Ad v'.ownBlock (w.heap.size + 6) w1 (acc ++ [tok]) (xs ++ fV tok pv) :=
  (h.toks.snoc hp).later hsz (fun k h1 h2 h3 => hg.block k h2 h3) (by rcases ho with ho | ho; exact .inl ho; exact .inr ⟨_, ho, Nat.le_of_eq hm.symm⟩)
 subst hu;have o : ∀ k j, k ≠ w.heap.size + 1 → (w1.setCell ⟨w.heap.size + 1, 1, none⟩ (.int .i64 pt')).cell? ⟨k, j, none⟩ = w1.cell? ⟨k, j, none⟩ := fun k j hk => ξT (h := fun e => hk (by injection e with e; exact e.symm)) ..;have hh : ∀ k, k ≠ w.heap.size + 1 → (w1.setCell ⟨w.heap.size + 1, 1, none⟩ (.int .i64 pt')).heap[k]? = w1.heap[k]? := fun k hk => Below.heap_setCell _ _ _ _ hk;refine ⟨⟨(o _ _ (by omega)).trans q.c0, ξU (h := q.c1) .., (o _ _ (by omega)).trans q.c2, (o _ _ (by omega)).trans q.c3, (o _ _ (by omega)).trans q.c4, (o _ _ (by omega)).trans q.c5, by rw [ξV]; exact q.f3, by rw [ξV]; exact q.f4, by rw [ξV]; exact q.f5,
  fun _ _ => rfl, rfl, rfl, rfl, rfl, ξG q.le (Nat.le_of_lt h1), q.bgle, q.lnle, q.eq⟩, ?_, ?_, (h.below.trans (hb.mono (by omega))).setCell (by simp only []; omega) _, ?_,
  ?_, ht.later (by simp [World.setCell]) (fun k h1 _ _ => hh k (by omega)) (.inl rfl), h2, by have := h.accle; simp; omega, he⟩
 · rw [ξT (h := by intro e; injection e; omega)];exact (c 1 0 (by omega)).trans h.txt
 · rw [ξV]; exact (f 1 1 (by omega)).trans h.fat
 · simp only [World.setCell, Array.size_modify]; omega
 · rw [ξ1]; exact nQ hown fun k hk => hh k (by omega)
theorem oQ.sz {w w2 : World} {n : Nat} {o : Obj} {v : Value} {l : List Bytes} (h : oQ ((w.drewN n).alloc o).heap.size w2 v l) : oQ (w.heap.size + 1) w2 v l := by
 have e : ((w.drewN n).alloc o).heap.size = w.heap.size + 1 := by simp
 rwa [e] at h
theorem qj.setOff {ob : Option Nat} {B bt j : Nat} {w : World} {v x : Value} {l : List Bytes} (h : qj ob B w v l) (hoff : l ≠ [] → ∀ a n cap, v = .slice (some a) n cap → a.block ≠ bt) : qj ob B (w.setCell ⟨bt, j, none⟩ x) v l := by
 refine ⟨h.1.keep fun hne a n cap hv => Below.heap_setCell _ _ _ _ (hoff hne a n cap hv), fun hne => ?_⟩;obtain ⟨a, n, cap, hv, h1, h2, h3⟩ := h.2 hne;exact ⟨a, n, cap, hv, h1, by simpa [World.setCell] using h2, h3⟩
theorem Tryz.infoTok : (Tryz.prog.info? 32).map (fun i => (i.zero, i.size, i.bytes)) = some (some (.agg #[.int .i64 0, .string ⟨#[]⟩, .slice none 0 0, .int .i64 0, .int .i64 0]), 5, 64) := by kernel_rfl
theorem Da (w : World) (v0 v1 v2 v3 v4 : Value) (T : TypeId) : ∀ j u, [v0, v1, v2, v3, v4][j]? = some u → (w.alloc (.cells #[v0, v1, v2, v3, v4] T)).cell? ((⟨w.heap.size, 0, none⟩ : Addr).add j) = some u := by
 intro j u h;have e : ((⟨w.heap.size, 0, none⟩ : Addr).add j) = ⟨w.heap.size, j, none⟩ := by unfold Addr.add; split <;> simp_all
 rw [e, World.cell?_alloc_new];simpa using h
theorem JM (a b c : Int) (t : Bytes) (o : Option Addr) (n cap : Nat) : ∀ u ∈ [Value.int .i64 a, str t, .slice o n cap, .int .i64 b, .int .i64 c], u.oneCell' = true := by
 intro u hu;simp only [List.mem_cons, List.not_mem_nil, or_false] at hu;rcases hu with rfl | rfl | rfl | rfl | rfl <;> rfl
theorem Ab {W wc : World} (h : W.heap.size = wc.heap.size) (v0 v1 v2 v3 v4 : Value) (T : TypeId) : ∀ j u, [v0, v1, v2, v3, v4][j]? = some u → (W.alloc (.cells #[v0, v1, v2, v3, v4] T)).cell? ((⟨wc.heap.size, 0, none⟩ : Addr).add j) = some u := by
 rw [← h]; exact Da _ _ _ _ _ _ _
theorem pY.grown {s : ByteArray} {w W w1 : World} {v : Value} {pt sn ln bg : Nat} {acc : List Tok} {xs : List Value} {r : dS} (h : pY s w W v pt sn ln bg acc xs r) (hg : W.grownBy w1 v.ownBlock) :
 w1.cell? ⟨w.heap.size + 1 + 1, 0, none⟩ = some (.pointer (some ⟨w.heap.size + 1, 0, none⟩)) ∧ w1.cell? ⟨w.heap.size + 1, 1, none⟩ = some (.int .i64 pt) ∧ w1.frozen? ⟨w.heap.size + 1, 1, none⟩ = false := by
 have hb : Below (w.heap.size + 6) W w1 := (ξf _ _).grown hg h.big fun k hk => (h.own.lt k hk).1;exact ⟨(hb.cell (p := ⟨w.heap.size + 1 + 1, 0, none⟩) (by simp only []; omega)).trans h.pst.c2, (hb.cell (p := ⟨w.heap.size + 1, 1, none⟩) (by simp only []; omega)).trans h.pst.c1,
  (hb.frozen (p := ⟨w.heap.size + 1, 1, none⟩) (by simp only []; omega)).trans h.fat⟩
def Mv (c : Nat) (w : World) (e : Ending) (w' : World) : Prop :=
 e = .returned (.tuple #[.agg #[.int .i64 0, .string ⟨#[]⟩, .slice none 0 0, .int .i64 0, .int .i64 0], .int .i64 0, .int .i64 c]) ∧ Below w.heap.size w w'
theorem jD {fn : Func} {t u v x : Tmp} (h : fn.results = #[.tmp t, .tmp u, .tmp v, .tmp x]) (tmps : Array Value) (P : Program) (w : World) :
 (results fn tmps).run P w = .ok (.tuple #[tmps.getD t undef, tmps.getD u undef, tmps.getD v undef, tmps.getD x undef]) w := by
 simp [results, h]
theorem GF (s : ByteArray) (w : World) (hg : Gl w) (hz : s.size ≤ 1048576) :
 Calls Tryz.prog 9 #[.string s] w (vA (gK s.data.toList (1, 1) []) w) := by
 have hl : decide ((1048576 : Int) < (s.size : Int)) = false := by simp; omega
 obtain ⟨r, hr⟩ : ∃ r, gK s.data.toList (1, 1) [] = r := ⟨_, rfl⟩;rw [hr];have HI := κ (pY.init s w r hr.symm);clear hr;have HG := κ hg; clear hg;go_enter Tryz.func9, Tryz.ntmps9;go_wp2_with fail;go_loopw [11] (fun v wr => ∃ pt sn ln bg acc xs, pY s w wr v pt sn ln bg acc xs r) (fun _ wr => s.size - M0 wr (w.heap.size + 1))
 case atStart => exact ⟨0, 0, 1, 0, [], [], HI⟩
 case round =>
  obtain ⟨pt, sn, ln, bg, acc, xs, hst⟩ := hrel;have HS := κ hst;obtain ⟨⟨c0, c1, c2, -, -, -, -, -, -, -, -, -, -, -, hsn, hbg, hln, -⟩, htx, hfa, -, hbig, -, -, hpt, hacc, -⟩ := hst;have HC1 := κ c1;by_cases hlt : pt < s.size
  · have hI : (pt : Int) < (s.size : Int) := by omega
    have hd := nA s pt hlt;obtain ⟨x, hx⟩ : ∃ x : UInt8, s[pt]'hlt = x := ⟨_, rfl⟩;rw [hx] at hd;have HD := κ hd; clear hd;have hb0 : BG (x.toNat : Int) = cg x := rfl;go_wp2_with fail;go_quiet (fail);go_wp2_with fail;go_quiet ((go_at_call 23; exact Ei (yX _ _)));rw [hb0];clear hb0;generalize hB : cg x = B;cases B
    · go_wp2_with fail;refine (Ep s w.heap.size pt sn ln bg _ ((HS.pst.drewN _).self) hz hpt).mono ?_;intro e wp hpl;obtain ⟨ln', bg', rfl, hp⟩ := hpl;have HP := κ (HS.place hp);clear c0 c1 c2 htx hfa hbig hsn hbg hln hp HS;have heq := HP.eq;rw [HP.pst.eq] at heq;obtain ⟨⟨c0, c1, c2, -, -, -, -, -, -, -, -, -, -, -, -, hbg, hln, -⟩, htx, hfa, -, hbig, -, -, -, -, -⟩ := HP.out;obtain ⟨A, hA⟩ : ∃ A, [40, 42].isPrefixOf (s.data.toList.drop pt) = A := ⟨_, rfl⟩;go_wp2_with fail;go_quiet ((go_at_call 24; exact IL (iU s ⟨#[40, 42]⟩ _ pt _ htx (by unfold maxLen; omega) hpt)));rw [show (⟨#[40, 42]⟩ : ByteArray).data.toList = [40, 42] from rfl, hA];have HA := κ hA; clear hA;cases A
      · have hcm := jd (p := (ln', pt - bg' + 1)) (acc := acc) hB (by rw [← HD.out]; exact HA.out);rw [← HD.out] at hcm;have HE := κ (heq.trans hcm); clear heq hcm hB;have HRD := κ (fun W (hb : Below wp.heap.size wp W) => hx ▸ vO (Ck s (w.heap.size + 1) pt W ((HG.below HP.below).below hb) (cell_later hb htx) (cell_later hb c1) hz hlt));have HER := κ (wK x);have HRS := κ (fun w => zC x w);generalize iM x = F at *;cases hR : gL (s.data.toList.drop pt) with
        | error c =>
         have HRC : RowKit.Hid (∀ W, Below wp.heap.size wp W → Calls Tryz.prog F #[.pointer (some ⟨w.heap.size + 1, 0, none⟩)] W (Mv c W)) := by
          intro W hb;rcases HRD W hb with ⟨c', hr, hc⟩ | ⟨k', t', pa', n', hr, _⟩
          · rw [hR] at hr;simp only [ξl] at hr;obtain rfl := hr;exact hc
          · rw [hR] at hr; cases hr
         have HRR := κ hR; clear hR HRD;rw [HRR.out] at HE;have hcz := xG HRR;go_wp2_with fail;go_cut [15, 16, 17] (fun _ _ v17 wc => v17 = .int .i64 c ∧ Below w.heap.size w wc)
         case first =>
          have HSR := κ (fun W (hb : Below wp.heap.size wp W) => (⟨cell_later hb c0, cell_later hb c2, cell_later hb c1, hb⟩ : W.cell? ⟨w.heap.size, 0, none⟩ = some (.string s) ∧ W.cell? ⟨w.heap.size + 1 + 1, 0, none⟩ = some (.pointer (some ⟨w.heap.size + 1, 0, none⟩)) ∧ W.cell? ⟨w.heap.size + 1, 1, none⟩ = some (.int .i64 pt) ∧ Below wp.heap.size wp W));have her := HER.out;go_region_held3 (fun W => W.cell? ⟨w.heap.size, 0, none⟩ = some (.string s) ∧ W.cell? ⟨w.heap.size + 1 + 1, 0, none⟩ = some (.pointer (some ⟨w.heap.size + 1, 0, none⟩)) ∧ W.cell? ⟨w.heap.size + 1, 1, none⟩ = some (.int .i64 pt) ∧ Below wp.heap.size wp W)
           ((refine HSR.out _ ?_; first | with_reducible apply BL | ((with_reducible apply wR); exact ‹_ ∧ _ ∧ _ ∧ Below _ _ _›.2.2.2) | ((with_reducible apply qI); exact ‹_ ∧ _ ∧ _ ∧ Below _ _ _›.2.2.2) | ((with_reducible apply BK); exact ‹_ ∧ _ ∧ _ ∧ Below _ _ _›.2.2.2) | exact ‹_ ∧ _ ∧ _ ∧ Below _ _ _›.2.2.2))
           (first | (go_at_call 26; refine (HRS.out _).mono ?_; rintro e w' ⟨rfl, rfl⟩) | ((with_reducible refine (HRC.out _ ‹_ ∧ _ ∧ _ ∧ Below _ _ _›.2.2.2).mono ?_); rintro e w2 ⟨rfl, hb2⟩; have hS2 := HSR.out _ (‹_ ∧ _ ∧ _ ∧ Below _ _ _›.2.2.2.trans (hb2.mono ‹_ ∧ _ ∧ _ ∧ Below _ _ _›.2.2.2.size)); have q0 := gU hb2 wp.heap.size 0; have q1 := gU hb2 wp.heap.size 1; have q2 := gU hb2 wp.heap.size 2; have q3 := gU hb2 wp.heap.size 3; have q4 := gU hb2 wp.heap.size 4; have q5 := yH hb2 wp.heap.size; simp [FB, yI] at q0 q1 q2 q3 q4 q5))
          · go_wp2_with fail;go_meet
            exact ⟨rfl, HP.below.trans ((wR hS2.2.2.2 _).mono (by omega))⟩
          all_goals go_wp2_with fail
          all_goals go_meet
          all_goals exact ⟨rfl, HP.below.trans ((qI hS2.2.2.2 _ _ _ _ _).mono (by omega))⟩
         case rest =>
          obtain ⟨rfl, hbe⟩ := hcut;have HBE := κ hbe; clear hbe;have bc : ((c : Int) != 0) = true := by rw [ψa]; omega
          go_wp2_with fail;refine ψb (jD rfl _ _ _) rfl ?_;exact Eb HE rfl (by omega) rfl HBE
        | ok y =>
         obtain ⟨k, tx, pa, n⟩ := y;have HRC : RowKit.Hid (∀ W, Below wp.heap.size wp W → Calls Tryz.prog F #[.pointer (some ⟨w.heap.size + 1, 0, none⟩)] W (KX k tx pa (pt + n) W)) := by
          intro W hb;rcases HRD W hb with ⟨c, hr, _⟩ | ⟨k', t', pa', n', hr, hc⟩
          · rw [hR] at hr; cases hr
          · rw [hR] at hr;simp only [ξm, ξP] at hr;obtain ⟨rfl, rfl, rfl, rfl⟩ := hr;exact hc
         have HRR := κ hR; clear hR HRD;rw [HRR.out] at HE;have HN := κ (gh (by rw [HD.out]; simp) HRR.out);rw [ξ3, ← ξn] at HN;go_wp2_with fail;go_cut [15, 16, 17] (fun v15 v16 v17 wc => v17 = .int .i64 0 ∧ v16 = .int .i64 (pt + n : Nat) ∧ ∃ bt pv, v15 = .pointer (some ⟨bt, 0, none⟩) ∧ KY s w wc u11 pt ln' bg' acc xs r bt k (str tx) pv pa)
         case first =>
          have HSR := κ (fun W (hb : Below wp.heap.size wp W) => (⟨cell_later hb c0, cell_later hb c2, cell_later hb c1, hb⟩ : W.cell? ⟨w.heap.size, 0, none⟩ = some (.string s) ∧ W.cell? ⟨w.heap.size + 1 + 1, 0, none⟩ = some (.pointer (some ⟨w.heap.size + 1, 0, none⟩)) ∧ W.cell? ⟨w.heap.size + 1, 1, none⟩ = some (.int .i64 pt) ∧ Below wp.heap.size wp W));have her := HER.out;go_region_held3 (fun W => W.cell? ⟨w.heap.size, 0, none⟩ = some (.string s) ∧ W.cell? ⟨w.heap.size + 1 + 1, 0, none⟩ = some (.pointer (some ⟨w.heap.size + 1, 0, none⟩)) ∧ W.cell? ⟨w.heap.size + 1, 1, none⟩ = some (.int .i64 pt) ∧ Below wp.heap.size wp W)
           ((refine HSR.out _ ?_; first | with_reducible apply BL | ((with_reducible apply wR); exact ‹_ ∧ _ ∧ _ ∧ Below _ _ _›.2.2.2) | ((with_reducible apply qI); exact ‹_ ∧ _ ∧ _ ∧ Below _ _ _›.2.2.2) | ((with_reducible apply BK); exact ‹_ ∧ _ ∧ _ ∧ Below _ _ _›.2.2.2) | exact ‹_ ∧ _ ∧ _ ∧ Below _ _ _›.2.2.2))
           (first | (go_at_call 26; refine (HRS.out _).mono ?_; rintro e w' ⟨rfl, rfl⟩) | ((with_reducible refine (HRC.out _ ‹_ ∧ _ ∧ _ ∧ Below _ _ _›.2.2.2).mono ?_); rintro e w2 ⟨a, cap, rfl, hsf, hb2⟩; have hS2 := HSR.out _ (‹_ ∧ _ ∧ _ ∧ Below _ _ _›.2.2.2.trans (hb2.mono ‹_ ∧ _ ∧ _ ∧ Below _ _ _›.2.2.2.size)); have q0 := gU hb2 wp.heap.size 0; have q1 := gU hb2 wp.heap.size 1; have q2 := gU hb2 wp.heap.size 2; have q3 := gU hb2 wp.heap.size 3; have q4 := gU hb2 wp.heap.size 4; have q5 := yH hb2 wp.heap.size; simp [FB, yI] at q0 q1 q2 q3 q4 q5))
          · go_wp2_with fail;go_meet
            exact ⟨rfl, by go_num, w2.heap.size, _, rfl, KY.new HP hS2.2.2.2 hsf⟩
          all_goals go_wp2_with fail
          all_goals go_meet
          all_goals exact ⟨rfl, by go_num, wp.heap.size, _, rfl, KY.old HP hS2.2.2.2 hsf.sz q0 q1 q2 q3 q4 q5⟩
         case rest =>
          obtain ⟨rfl, rfl, bt, pv, rfl, htk⟩ := hcut;have HT := κ htk;obtain ⟨-, hbt, t0, t1, t2, t3, t4, tf, hpath, hoff⟩ := htk;obtain ⟨pa0, pcap, hpv, -, -⟩ := hpath.1;subst hpv;have HPA := κ hpath; clear hpath;have HOF := κ hoff; clear hoff;obtain ⟨u0, hu, hu0, hu1, hu2⟩ := info_parts Tryz.infoTok;obtain ⟨w0, hs0, hb0, hle0⟩ := HT.at';have HS0 := κ hs0; clear hs0;have HB0 := κ hb0; clear hb0;have hbelow2 := fun o => ((HB0.setCell (p := ⟨bt, 3, none⟩) hle0 (.int .i64 ln')).setCell (p := ⟨bt, 4, none⟩) hle0 (.int .i64 (↑(pt - bg') + 1))).alloc (by simpa [World.setCell] using HB0.size) o;have HSW := κ (fun o => HS0.later (hbelow2 o)); clear hbelow2;have c2' := cell_later HB0 HS0.pst.c2;have hnb : ¬ bt = w.heap.size + 1 + 1 := by have := HS0.big; omega
          have hnb2 : ¬ w.heap.size + 1 + 1 = bt := by have := HS0.big; omega
          have hbig0 := HS0.big;have hac := HS0.accle;go_wp2_with (first | (at_builtin; refine wpList_append_own_at _ rfl _ _ 22 rfl (w.heap.size + 6) 32 u0 (.agg #[.int .i64 0, .string ⟨#[]⟩, .slice none 0 0, .int .i64 0, .int .i64 0]) 5 64 Tryz.underlying22 hu hu0 hu1 hu2 rfl (by decide) _ _ _ rfl (HSW.out _).own ⟨wc.heap.size, 0, none⟩ 1 1 [.int .i64 k, str tx, .slice pa0 pa.length pcap, .int .i64 ln', .int .i64 (↑(pt - bg') + 1)] rfl rfl ?e1 (JM _ _ _ _ _ _ _) ?e3 ?e4 ?e5 ?_))
          case e1 => exact Ab (by simp [World.setCell]) _ _ _ _ _ _
          case e3 => unfold maxLen; omega
          case e4 => omega
          case e5 => exact (HSW _).big
          intro v' w1 hown1 hgr _ hob;have hN1 := HN.out;have HPW := fun o => ((HPA.setOff (j := 3) (x := .int .i64 ln') HOF.out).setOff (j := 4) (x := .int .i64 (↑(pt - bg') + 1)) HOF.out).later (ob' := u11.ownBlock) (w' := World.alloc _ o) (by simp) (fun k _ hk _ => ξe _ _ _ hk) (.inl rfl);have hfin := κ ((HSW.out _).push (tok := ⟨k, tx, pa, ln', ↑(pt - bg') + 1⟩) hown1 hgr hob (by simp [World.setCell]) (HPW _) (u := ↑pt + ↑n) (pt' := pt + n) (by omega) (by omega) (by omega) (by
           rw [HE.out];try simp only []
           rw [List.drop_drop, HP.pst.eq.symm];unfold adv;rw [← List.foldl_append, ← List.take_add];rfl))
          obtain ⟨d2, d1, df⟩ := (HSW _).grown hgr;clear hown1 hgr hob HPW c2' hnb hnb2 t0 t1 t2 t3 t4 tf;go_wp2_with fail;go_roundw
          case rel => exact ⟨pt + n, pt, ln', bg', _, _, hfin.out⟩
          case measure => rw [oN hfin.out.pst.c1, oN HC1.out]; omega
      · have hcm := jS (p := (ln', pt - bg' + 1)) (acc := acc) hB (by rw [← HD.out]; exact HA.out);rw [← HD.out] at hcm;have HE := κ (heq.trans hcm); clear heq hcm hB;go_wp2_with fail;go_quiet ((go_at_call 25; exact Ei (z8 s _ pt _ htx hz HA.out)));generalize hC : ny 0 0 (s.data.toList.drop pt) = C;have HC : RowKit.Hid (fK ((s.data.toList.drop pt).length + 1) 0 0 (s.data.toList.drop pt) = C) := hC;clear hC;rw [HC.out] at HE;cases C with
        | none =>
         rw [show Ib pt none = 0 from rfl];go_wp2_with fail;refine ψb (jD rfl _ _ _) rfl ?_;exact Eb HE rfl rfl rfl (below_drewN HP.below _)
        | some n =>
         have hlen := gD _ _ _ _ HC;rw [ξ3, ← ξn] at hlen;have b0 : (((pt + n : Nat) : Int) == 0) = false := by rw [ξY]; omega
         rw [show Ib pt (some n) = ((pt + n : Nat) : Int) from rfl];go_wp2_with fail;have hn := fun k => (HP.drewN k).setAt (pt' := pt + n) (u := ↑pt + ↑n) (by omega) (by omega) (by omega) (by
          rw [HE.out];simp only [];rw [List.drop_drop, ← HP.pst.eq];unfold adv;rw [← List.foldl_append, ← List.take_add])
         go_roundw
         case rel => exact ⟨pt + n, pt, ln', bg', acc, xs, hn _⟩
         case measure => rw [oN (hn _).pst.c1, oN HC1.out]; omega
    · have hn := fun k => (HS.drewN k).setAt (pt' := pt + 1) (u := ↑pt + 1) (by omega) (by omega) (by omega) (by rw [HS.eq, HD.out, dW hB, wV hlt, hx]);clear hB;go_wp2_with fail;go_roundw
      case rel => exact ⟨pt + 1, sn, ln, bg, acc, xs, hn _⟩
      case measure => rw [oN (hn _).pst.c1, oN HC1.out]; omega
  · have HE := κ (show r = .ok acc by rw [HS.eq, List.drop_of_length_le (by rw [← ξn]; omega)]; rfl);have hI : decide ((pt : Int) < (s.size : Int)) = false := by simp; omega
    go_wp2_with fail;go_quiet (fail);go_wp2_with fail;(try simp only [Exit.inBlock, Exit.then]); refine ψb (jD rfl _ _ _) rfl ?_
    refine ⟨below_drewN HS.below _, ?_⟩;rw [HE.out];exact ⟨_, xs, rfl, (HS.drewN _).own, (HS.drewN _).toks⟩
theorem Ea (s : ByteArray) (w : World) (hz : 1048576 < s.size) :
 Calls Tryz.prog 9 #[.string s] w (vA (.error (2, 0, 0)) w) := by
 have hl : decide ((1048576 : Int) < (s.size : Int)) = true := by simp; omega
 go_enter Tryz.func9, Tryz.ntmps9;go_wp2_with fail;refine ψb (jD rfl _ _ _) rfl ?_;exact Eb rfl rfl rfl rfl ((ξf _ w).alloc (ξF _) _)
theorem rz (s : ByteArray) (w : World) (hg : Gl w) : Calls Tryz.prog 9 #[.string s] w (vA (gJ s.data.toList) w) := by
 unfold gJ;split
 · exact Ea s w (by rw [ξn]; assumption)
 · exact GF s w hg (by rw [ξn]; omega)
end Go.Proofs.YtbchkldhnjahaaaGreatDoor
namespace Kiln
def jT (c : UInt8) : Bytes :=
 if c == 34 || c == 92 then [92, c] else if decide (c.toNat < 32) || decide (126 < c.toNat) then [92, 48 + c / 100, 48 + c / 10 % 10, 48 + c % 10] else [c]
def lC (t : Bytes) : Bytes := 34 :: t.flatMap jT ++ [34]
def wW (k : Int) (t : Bytes) (pa : List Bytes) : Bytes :=
 if k == 6 then lC t else if k == 7 then 35 :: lC t else if k == 2 then Go.Lib.join (pa ++ [t]) [46] else t
def Ja (r : dS) (k : Int) (t : Bytes) (pa : List Bytes) : Bool :=
 match r with
 | .ok [u] => u.kind == k && u.text == t && u.path == pa
 | _ => false
def kX (k : Int) (t : Bytes) (pa : List Bytes) : Except Nat Bytes := if Ja (gJ (wW k t pa)) k t pa then .ok (wW k t pa) else .error 1
theorem Cq (c : UInt8) : (jT c).length ≤ 4 := by unfold jT; split <;> (try split) <;> simp
theorem xI (t : Bytes) : (t.flatMap jT).length ≤ 4 * t.length := by
 induction t with
 | nil => simp
 | cons c t ih => have := Cq c; simp only [List.flatMap_cons, ξ1, ξ2]; omega
theorem Dw {k : Int} {t : Bytes} {pa : List Bytes} {s : Bytes} (h : kX k t pa = .ok s) : s = wW k t pa ∧ ∃ ln col, gJ s = .ok [⟨k, t, pa, ln, col⟩] := by
 unfold kX at h;split at h
 · rename_i h1;simp only [ξm] at h;subst h;refine ⟨rfl, ?_⟩;revert h1;unfold Ja;split
   · rename_i u hu;intro h1;simp only [ξg, ξZ] at h1;obtain ⟨⟨h1, h2⟩, h3⟩ := h1;refine ⟨u.line, u.col, ?_⟩;rw [hu, ← h1, ← h2, ← h3]
   · intro h1; cases h1
 · cases h
end Kiln
namespace Go.Proofs.YtbchkldhnjahaaaGreatDoor
open Go.RowKit Kiln
open Go.Proofs
def I0 : Go.Shelf.Ren := ⟨fun | 167 => 91 | n => Tryz.lays156_ren.f n, Tryz.lays156_ren.t, Tryz.lays156_ren.g⟩
theorem Hq : Go.Proofs.Lays.n167 Tryz.prog I0 := {
 mixed := Tryz.lays156.mixed
 f167 := Tryz.func91.trans (congrArg some (by kernel_rfl))
 f240 := Tryz.func130.trans (congrArg some (by kernel_rfl))
 f276 := Tryz.lays156.f276.trans (congrArg some (by kernel_rfl))
 t0 := Tryz.lays156.t0
 a0 := Tryz.lays156.a0
 z0 := Tryz.lays156.z0
 v0 := Tryz.lays156.v0
 t4 := Tryz.lays156.t4
 a4 := Tryz.lays156.a4
 z4 := Tryz.lays156.z4
 v4 := Tryz.lays156.v4
 t5 := Tryz.Builder_Extra_156.t5
 a5 := Tryz.Builder_Extra_156.a5
 z5 := Tryz.Builder_Extra_156.z5
 v5 := Tryz.Builder_Extra_156.v5
 t9 := Tryz.lays156.t9
 a9 := Tryz.lays156.a9
 z9 := Tryz.lays156.z9
 v9 := Tryz.lays156.v9
 t20 := Tryz.lays156.t20
 a20 := Tryz.lays156.a20
 z20 := Tryz.lays156.z20
 v20 := Tryz.lays156.v20
 t37 := Tryz.lays156.t37
 a37 := Tryz.lays156.a37
 z37 := Tryz.lays156.z37
 v37 := Tryz.lays156.v37
 t70 := Tryz.lays156.t70
 a70 := Tryz.lays156.a70
 z70 := Tryz.lays156.z70
 v70 := Tryz.lays156.v70
 t72 := Tryz.lays156.t72
 a72 := Tryz.lays156.a72
 z72 := Tryz.lays156.z72
 v72 := Tryz.lays156.v72
 t75 := Tryz.lays156.t75
 a75 := Tryz.lays156.a75
 z75 := Tryz.lays156.z75
 v75 := Tryz.lays156.v75
 t164 := Tryz.lays156.t164
 a164 := Tryz.lays156.a164
 z164 := Tryz.lays156.z164
 v164 := Tryz.lays156.v164 }
theorem E5 : Builder.Extra Tryz.prog I0 := {
 sizeBuilder := by kernel_rfl
 liesBuilder := by kernel_rfl
 t5 := Tryz.Builder_Extra_156.t5
 a5 := Tryz.Builder_Extra_156.a5
 z5 := Tryz.Builder_Extra_156.z5
 v5 := Tryz.Builder_Extra_156.v5
 infoByte := by kernel_rfl
 cellsByte := by kernel_rfl
 sizeByte := by kernel_rfl
 neB5 := by decide }
def Bd (B b : Nat) (l : Bytes) (w : World) : Prop := Lib.IsBuilder 131 5 B b (Lib.byteCells l) w
theorem Bd.new (w : World) : Bd w.heap.size w.heap.size [] (w.alloc (.cells #[.pointer none, .slice none 0 0] 131)) := Lib.fresh_isBuilder _ _ w
theorem Io {B b : Nat} {l : Bytes} {w : World} (h : Bd B b l w) (o : Obj) : Bd B b l (w.alloc o) := by
 rcases h with ⟨hB, v, hb, hown, hne⟩ | ⟨hB, v, hb, hown, hne⟩
 · exact .inl ⟨hB, v, (ξe w o b (ξd.1 hb).1).trans hb, hown.alloc o, hne⟩
 · exact .inr ⟨hB, v, (ξe w o b (ξd.1 hb).1).trans hb, hown.alloc o, hne⟩
theorem tj (B b : Nat) (l : Bytes) (c : UInt8) (v : Int) (w : World) (hv : v = c.toNat) (h : Bd B b l w) (hlen : l.length + 1 ≤ 140737488355328) (hBw : B ≤ w.heap.size) :
 Calls Tryz.prog 91 #[.pointer (some ⟨b, 0, none⟩), .int .u8 v] w fun e w' => e = .returned .nilIface ∧ Bd B b (l ++ [c]) w' ∧ Below B w w' := by
 subst hv;refine (Any.Builder_WriteByte Hq E5 B b (Lib.byteCells l) c.toNat w h (by rw [Lib.byteCells_length]; exact hlen) hBw).mono ?_;rintro e w' ⟨he, hb, hw⟩;refine ⟨he, ?_, hw⟩;unfold Bd;rw [Lib.byteCells_append];exact Or.inr hb
theorem Ms (B b : Nat) (l : Bytes) (s : ByteArray) (w : World) (h : Bd B b l w) (hlen : l.length + s.size ≤ 140737488355328) (hBw : B ≤ w.heap.size) :
 Calls Tryz.prog 92 #[.pointer (some ⟨b, 0, none⟩), .string s] w fun e w' => e = .returned (.tuple #[.int .i64 s.size, .nilIface]) ∧ Bd B b (l ++ s.data.toList) w' ∧ Below B w w' := by
 refine (Any.Builder_WriteString (ρ := Tryz.lays156_ren) { Tryz.lays156 with } Tryz.Builder_Extra_156 B b (Lib.byteCells l) s w h (by rw [Lib.byteCells_length]; exact hlen) hBw).mono ?_;rintro e w' ⟨he, hb, hw⟩;refine ⟨he, ?_, hw⟩;unfold Bd;rw [Lib.byteCells_append];exact Or.inr hb
theorem FE (B b : Nat) (l : Bytes) (w : World) (h : Bd B b l w) (hBw : B ≤ w.heap.size) :
 Calls Tryz.prog 93 #[.pointer (some ⟨b, 0, none⟩)] w fun e w' => e = .returned (str l) ∧ Below B w w' :=
 Tryz.Builder_String_any B b l w h hBw
theorem MZ (W : World) (a b c : UInt8) (va vb vc : Int) (ha : va = a.toNat) (hb : vb = b.toNat) (hc : vc = c.toNat) :
 (convert 129 9 (.slice (some ⟨W.heap.size, 0, none⟩) 3 3)).run Tryz.prog (W.alloc (.cells #[.int .u8 va, .int .u8 vb, .int .u8 vc] 5)) = .ok (str [a, b, c]) (W.alloc (.cells #[.int .u8 va, .int .u8 vb, .int .u8 vc] 5)) := by
 subst ha; subst hb; subst hc;refine run_convert_bytes_back _ _ _ 5 ⟨W.heap.size, 0, none⟩ 3 [a, b, c] (by kernel_rfl) (by kernel_rfl) (by kernel_rfl) ?_;intro j hj;have : j = 0 ∨ j = 1 ∨ j = 2 := by simp at hj; omega
 rcases this with rfl | rfl | rfl <;> (show World.cell? _ ⟨_, _, none⟩ = _; rw [World.cell?_alloc_new]; rfl)
theorem oI (x : UInt8) : (48 + (x.toNat : Int) / 100 = (48 + x / 100 : UInt8).toNat) ∧ (48 + (x.toNat : Int) / 10 % 10 = (48 + x / 10 % 10 : UInt8).toNat) ∧ (48 + (x.toNat : Int) % 10 = (48 + x % 10 : UInt8).toNat) := by
 have hx := x.toNat_lt;have h1 : (48 + x / 100 : UInt8).toNat = (48 + x.toNat / 100) % 256 := rfl;have h2 : (48 + x / 10 % 10 : UInt8).toNat = (48 + x.toNat / 10 % 10) % 256 := rfl;have h3 : (48 + x % 10 : UInt8).toNat = (48 + x.toNat % 10) % 256 := rfl;omega
theorem xJ (s : ByteArray) (w : World) (hz : s.size ≤ 17592186044416) :
 Calls Tryz.prog 52 #[.string s] w fun e w' => e = .returned (str (lC s.data.toList)) ∧ Below w.heap.size w w' := by
 go_enter Tryz.func52, Tryz.ntmps52;go_wp2_with fail;have HB0 := κ ((ξf _ w).alloc (ξF _) (.cells #[.pointer none, .slice none 0 0] 131));refine (tj w.heap.size w.heap.size [] 34 34 _ rfl (Bd.new w) (by simp) (by simp)).mono ?_;rintro e w1 ⟨rfl, hbd, hb1⟩;have HB1 := κ (HB0.trans hb1);have HBD := κ hbd;clear hb1 hbd;go_wp2_with fail;go_loopw [9] (fun j wr => ∃ k : Nat, j = .int .i64 k ∧ k ≤ s.size ∧ Bd w.heap.size w.heap.size (34 :: (s.data.toList.take k).flatMap jT) wr ∧ Below w.heap.size w wr) (fun j _ => s.size - (intOf j).toNat)
 case atStart => exact ⟨0, rfl, ξM _, HBD, HB1⟩
 case round =>
  obtain ⟨k, rfl, hk, hbd, hbe⟩ := hrel;have HBD := κ hbd;have HB := κ hbe;have hwl := hbe.size;have hq := xI (s.data.toList.take k);rw [ξ7] at hq;clear hbd hbe;obtain ⟨acc, hacc⟩ : ∃ acc, 34 :: (s.data.toList.take k).flatMap jT = acc := ⟨_, rfl⟩;have hal : acc.length ≤ 4 * s.size + 1 := by rw [← hacc]; simp only [ξ2]; omega
  rw [hacc] at HBD;by_cases hlt : k < s.size
  · have hki : (k : Int) < (s.size : Int) := by omega
    obtain ⟨x, hx⟩ : ∃ x : UInt8, s[k]'hlt = x := ⟨_, rfl⟩;have HN : RowKit.Hid (34 :: (s.data.toList.take (k + 1)).flatMap jT = acc ++ jT x) := by
     show _ = _;have hlt' : k < s.data.toList.length := by simpa [← ξn] using hlt
     rw [List.take_succ_eq_append_getElem hlt', List.flatMap_append, ← List.cons_append, hacc];simp only [List.flatMap_cons, List.flatMap_nil, List.append_nil];rw [← hx]; rfl
    clear hacc hq;have hx256 := x.toNat_lt;by_cases h34 : x.toNat = 34 ∨ x.toNat = 92
    · have HQ : RowKit.Hid (jT x = [92, x]) := by
       show _ = _;rcases h34 with h | h <;> (rw [kV h]; rfl)
      have hstep : ∀ {P : Prop}, (((x.toNat : Int) == 34) = true → P) → (((x.toNat : Int) == 34) = false → ((x.toNat : Int) == 92) = true → P) → P := fun f g => by
       by_cases h : x.toNat = 34
       · exact f (by rw [ξZ]; omega)
       · exact g (by rw [ξY]; omega) (by rw [ξZ]; omega)
      clear h34;refine hstep (fun b1 => ?_) (fun b1 b2 => ?_);all_goals clear hstep
      all_goals go_wp2_with fail
      all_goals refine (tj w.heap.size w.heap.size acc 92 92 _ rfl HBD (by omega) hwl).mono ?_
      all_goals rintro e w2 ⟨rfl, hbd2, hb2⟩
      all_goals have HBD2 := κ hbd2
      all_goals have HB2 := κ (HB.trans hb2)
      all_goals clear hbd2 hb2
      all_goals go_wp2_with fail
      all_goals refine (tj w.heap.size w.heap.size (acc ++ [92]) x _ _ rfl HBD2.out (by simp; omega) HB2.size).mono ?_
      all_goals rintro e w3 ⟨rfl, hbd3, hb3⟩
      all_goals have HBD3 := κ hbd3
      all_goals have HB3 := κ (HB2.trans hb3)
      all_goals clear hbd3 hb3
      all_goals go_wp2_with fail
      all_goals go_roundw
      case rel => exact ⟨k + 1, by go_num, by omega, by rw [HN.out, HQ.out]; simpa using HBD3.out, HB3.out⟩
      case measure => simp [intOf]; omega
      case rel => exact ⟨k + 1, by go_num, by omega, by rw [HN.out, HQ.out]; simpa using HBD3.out, HB3.out⟩
      case measure => simp [intOf]; omega
    · have b34 : ((x.toNat : Int) == 34) = false := by rw [ξY]; omega
      have b92 : ((x.toNat : Int) == 92) = false := by rw [ξY]; omega
      have e34 : (x == 34 || x == 92) = false := by
       rw [Bool.or_eq_false_iff, ξY, ξY];exact ⟨by rintro rfl; exact h34 (.inl rfl), by rintro rfl; exact h34 (.inr rfl)⟩
      by_cases hpr : x.toNat < 32 ∨ 126 < x.toNat
      · have HQ : RowKit.Hid (jT x = [92, 48 + x / 100, 48 + x / 10 % 10, 48 + x % 10]) := by
         show _ = _;unfold jT;rw [ψh (by rw [e34]; exact Bool.false_ne_true), ψi (by simpa using hpr)]
        have hstep : ∀ {P : Prop}, (decide ((x.toNat : Int) < 32) = true → P) → (decide ((x.toNat : Int) < 32) = false → decide ((x.toNat : Int) > 126) = true → P) → P := fun f g => by
         by_cases h : x.toNat < 32
         · exact f (by simp; omega)
         · exact g (by simp; omega) (by simp; omega)
        clear hpr e34 h34;have hcv := MZ wr (48 + x / 100) (48 + x / 10 % 10) (48 + x % 10) _ _ _ (oI x).1 (oI x).2.1 (oI x).2.2;have hal2 := (ξf w.heap.size wr).alloc hwl (.cells #[.int .u8 (48 + (x.toNat : Int) / 100), .int .u8 (48 + (x.toNat : Int) / 10 % 10), .int .u8 (48 + (x.toNat : Int) % 10)] 5);have HBA := κ (HB.trans hal2);have HBDA : RowKit.Hid (Bd w.heap.size w.heap.size acc (wr.alloc (.cells #[.int .u8 (48 + (x.toNat : Int) / 100), .int .u8 (48 + (x.toNat : Int) / 10 % 10), .int .u8 (48 + (x.toNat : Int) % 10)] 5))) := Io HBD _;clear hal2;refine hstep (fun b1 => ?_) (fun b1 b2 => ?_);all_goals clear hstep
        all_goals go_wp2_with fail
        all_goals refine (Ms w.heap.size w.heap.size acc _ _ HBDA.out (by simp [ByteArray.size]; omega) HBA.size).mono ?_
        all_goals rintro e w3 ⟨rfl, hbd3, hb3⟩
        all_goals have HBD3 := κ hbd3
        all_goals have HB3 := κ (HBA.trans hb3)
        all_goals clear hbd3 hb3
        all_goals go_wp2_with fail
        all_goals go_roundw
        case rel => exact ⟨k + 1, by go_num, by omega, by rw [HN.out, HQ.out]; exact HBD3.out, HB3.out⟩
        case measure => simp [intOf]; omega
        case rel => exact ⟨k + 1, by go_num, by omega, by rw [HN.out, HQ.out]; exact HBD3.out, HB3.out⟩
        case measure => simp [intOf]; omega
      · have HQ : RowKit.Hid (jT x = [x]) := by
         show _ = _;unfold jT;rw [ψh (by rw [e34]; exact Bool.false_ne_true), ψh (by simpa using hpr)]
        have b1 : decide ((x.toNat : Int) < 32) = false := by simp; omega
        have b2 : decide ((x.toNat : Int) > 126) = false := by simp; omega
        clear hpr e34 h34;go_wp2_with fail;refine (tj w.heap.size w.heap.size acc x _ _ rfl HBD (by omega) hwl).mono ?_;rintro e w3 ⟨rfl, hbd3, hb3⟩;have HBD3 := κ hbd3;have HB3 := κ (HB.trans hb3);clear hbd3 hb3;go_wp2_with fail;go_roundw
        case rel => exact ⟨k + 1, by go_num, by omega, by rw [HN.out, HQ.out]; exact HBD3.out, HB3.out⟩
        case measure => simp [intOf]; omega
  · have hki : decide ((k : Int) < (s.size : Int)) = false := by simp; omega
    have hks : k = s.size := by omega
    go_wp2_with fail;refine (tj w.heap.size w.heap.size acc 34 34 _ rfl HBD (by omega) hwl).mono ?_;rintro e w2 ⟨rfl, hbd2, hb2⟩;have HBD2 := κ hbd2;have HB2 := κ (HB.trans hb2);clear hbd2 hb2;go_wp2_with fail;refine (FE w.heap.size w.heap.size _ _ HBD2 HB2.size).mono ?_;rintro e w3 ⟨rfl, hb3⟩;have HB3 := κ (HB2.trans hb3);clear hb3;have HE : RowKit.Hid (acc ++ [34] = lC s.data.toList) := by
     show _ = _;rw [← hacc, hks, List.take_of_length_le (Nat.le_of_eq (by rw [← ξn]))]; rfl
    clear hacc;go_wp2_with fail;go_ret;exact ⟨by rw [HE.out]; rfl, HB3.out⟩
def baL (pa : List Bytes) : List ByteArray := pa.map fun l => ⟨l.toArray⟩
theorem kM (pa : List Bytes) : (baL pa).length = pa.length := by simp [baL]
theorem KM (pa : List Bytes) (j : Nat) : (baL pa)[j]? = pa[j]?.map fun l => (⟨l.toArray⟩ : ByteArray) := by simp [baL]
theorem qJ (pa : List Bytes) : (baL pa).map (fun s => s.data.toList) = pa := by
 unfold baL; rw [List.map_map]; exact (List.map_congr_left (fun l _ => by simp)).trans (List.map_id pa)
theorem KI (pa : List Bytes) : (baL pa).map Value.string = pa.map str := by unfold baL; rw [List.map_map]; rfl
theorem lV {w : World} {v : Value} {pa : List Bytes} (h : Strs w v pa) (hne : pa ≠ []) : ∃ b off cap, v = .slice (some ⟨b, off, none⟩) pa.length cap ∧ pa.length ≤ cap ∧ b < w.heap.size ∧
 (∀ (j : Nat) x, (baL pa)[j]? = some x → w.cell? ⟨b, off + j, none⟩ = some (.string x)) ∧
 ∀ j, j < (baL pa).length → w.cell? ⟨b, off + j, none⟩ = some (.string ((baL pa).getD j ByteArray.empty)) := by
 obtain ⟨a, cap, rfl, hc, hl⟩ := h;obtain ⟨b, off, rfl, hx⟩ := hl hne;have h1 : ∀ (j : Nat) x, (baL pa)[j]? = some x → w.cell? ⟨b, off + j, none⟩ = some (.string x) := by
  intro j x hj;rw [KM, ξN] at hj;obtain ⟨y, hy, rfl⟩ := hj;exact hx j y hy
 refine ⟨b, off, cap, rfl, hc, ?_, h1, fun j hj => ?_⟩
 · cases pa with
   | nil => exact absurd rfl hne
   | cons x l => exact ξS w _ (hx 0 x rfl)
 · refine h1 j _ ?_;rw [ξr, ξw hj]; rfl
theorem Fy (v : Value) (pa : List Bytes) (w : World) (h : Strs w v pa) (hb : pa.length * 16 ≤ 140737488355328) :
 Calls Tryz.prog 54 #[v] w fun e w' => ∃ v', e = .returned v' ∧ Gg w.heap.size w' v' pa ∧ Below w.heap.size w w' := by
 by_cases hne : pa = []
 · subst hne;obtain ⟨a, cap, rfl, _, _⟩ := h;cases a with
   | none =>
    refine (Tryz.slices_Clone_string_nil 0 cap w).mono ?_;rintro e w' ⟨rfl, rfl⟩;exact ⟨_, rfl, ξX _ _ _ _, ξf _ _⟩
   | some a =>
    refine (Tryz.slices_Clone_string_zero a cap w).mono ?_;rintro e w' ⟨v', rfl, hown, _, hbe⟩;exact ⟨v', rfl, hown, hbe⟩
 · obtain ⟨b, off, cap, rfl, hc, _, _, hcells⟩ := lV h hne;refine (Tryz.slices_Clone_string b off pa.length cap (baL pa) w (by rw [kM]; exact ξF _) hb hcells).mono ?_;rintro e w' ⟨v', rfl, hown, _, hbe⟩;refine ⟨v', rfl, ?_, hbe⟩;rw [List.take_of_length_le (by rw [kM]; exact ξF _), KI] at hown;exact hown
theorem KJ {p q : List Bytes} : baL p = baL q ↔ p = q :=
 ⟨fun h => by rw [← qJ p, ← qJ q, h], fun h => by rw [h]⟩
theorem Fg (v1 v2 : Value) (p1 p2 : List Bytes) (w : World) (h1 : Strs w v1 p1) (h2 : Strs w v2 p2) (hb2 : p2.length ≤ 9223372036854775807) :
 Calls Tryz.prog 55 #[v1, v2] w fun e w' => e = .returned (.bool (p1 == p2)) ∧ ∃ q, w' = w.drewN q := by
 by_cases hl : p1.length = p2.length
 · by_cases hne : p1 = []
   · subst hne;have h2e : p2 = [] := ξq hl.symm;subst h2e;obtain ⟨a, cap, rfl, _, _⟩ := h1;obtain ⟨a', cap', rfl, _, _⟩ := h2;refine (Tryz.slices_Equal_string_empty a a' cap 0 cap' w (by omega)).mono ?_;rintro e w' ⟨rfl, rfl⟩;exact ⟨rfl, 0, rfl⟩
   · have hne2 : p2 ≠ [] := by rintro rfl; exact hne (ξq hl)
     obtain ⟨b, off, cap, rfl, hc, _, _, hcells⟩ := lV h1 hne;obtain ⟨b', off', cap', rfl, hc', _, _, hcells'⟩ := lV h2 hne2;refine (Tryz.slices_Equal_string b off p1.length cap b' off' p2.length cap' (baL p1) (baL p2) w (by rw [kM]; exact ξF _) (by rw [kM]; exact ξF _) (hl ▸ hb2) hb2 hcells hcells').mono ?_;rintro e w' ⟨rfl, q, rfl⟩;refine ⟨?_, q, rfl⟩;rw [List.take_of_length_le (by rw [kM]; exact ξF _), List.take_of_length_le (by rw [kM]; exact ξF _)];refine kG ?_;rw [Bool.eq_iff_iff, ψc, ξZ];exact KJ
 · obtain ⟨a, cap, rfl, _, _⟩ := h1;obtain ⟨a', cap', rfl, _, _⟩ := h2;refine (Tryz.slices_Equal_string_lens a a' p1.length cap p2.length cap' w hl).mono ?_;rintro e w' ⟨rfl, rfl⟩;refine ⟨kG ?_, 0, rfl⟩;symm
   rw [ξY];exact fun e => hl (by rw [e])
theorem EW (v : Value) (pa : List Bytes) (w : World) (h : Strs w v pa) (hne : pa ≠ []) (hN : pa.length ≤ 140737488355328) (hlen : (Lib.join pa [46]).length ≤ 140737488355328) :
 Calls Tryz.prog 53 #[v, .string ⟨#[46]⟩] w fun e w' => e = .returned (str (Lib.join pa [46])) ∧ Below w.heap.size w w' := by
 obtain ⟨b, off, cap, rfl, hc, hbk, hcells, _⟩ := lV h hne;have := Tryz.strings_Join b off cap (baL pa) ⟨#[46]⟩ w hcells hbk (by rw [kM]; exact hN) (by rw [kM]; exact hc) (by rw [qJ]; exact hlen);rw [qJ, kM] at this;exact this
abbrev Nh (k : Int) (t : Bytes) (pv : Value) (ln col : Int) : Value := .agg #[.int .i64 k, str t, pv, .int .i64 ln, .int .i64 col]
def F3 (r : Except Nat Bytes) (w : World) (e : Ending) (w' : World) : Prop :=
 Below w.heap.size w w' ∧ match r with
 | .ok s => e = .returned (.tuple #[str s, .int .i64 0])
 | .error c => e = .returned (.tuple #[.string ⟨#[]⟩, .int .i64 c])
theorem nK {rd : Bytes → Rd} {cm : Bytes → Option Nat} (hr : ∀ l c, rd l = .error c → c ≠ 0) : ∀ (f : Nat) (l : Bytes) (p : Nat × Nat) (acc : List Tok) {c x y : Nat}, iL rd cm f l p acc = .error (c, x, y) → c ≠ 0
 | 0, _, _, _, _, _, _, h => by simp [iL] at h
 | _ + 1, [], _, _, _, _, _, h => by simp [iL] at h
 | f + 1, b :: l, p, acc, c, x, y, h => by
  simp only [iL] at h;split at h
  · exact nK hr f _ _ _ h
  · split at h
    · split at h
      · simp only [ξl, ξP] at h; omega
      · exact nK hr f _ _ _ h
    · split at h
      · rename_i e he;simp only [ξl, ξP] at h;rw [← h.1]; exact hr _ _ he
      · exact nK hr f _ _ _ h
theorem xC {l : Bytes} {c x y : Nat} (h : gJ l = .error (c, x, y)) : c ≠ 0 := by
 unfold gJ at h;split at h
 · simp only [ξl, ξP] at h; omega
 · exact nK (fun _ _ => xG) _ _ _ _ h
theorem II {r : dS} {w w' : World} {e : Ending} {c ln col : Nat} (h : vA r w e w') (hr : r = .error (c, ln, col)) : e = .returned (.tuple #[.slice none 0 0, .int .i64 ln, .int .i64 col, .int .i64 c]) := by
 subst hr; exact h.2
theorem Je {r : dS} {w w' : World} {e : Ending} {l : List Tok} (h : vA r w e w') (hr : r = .ok l) : ∃ v xs, e = .returned (.tuple #[v, .int .i64 0, .int .i64 0, .int .i64 0]) ∧ w'.ownsRow (w.heap.size + 6) 32 5 v l.length xs ∧ Ad v.ownBlock (w.heap.size + 6) w' l xs := by
 subst hr; exact h.2
theorem IB {R : Except Nat Bytes} {w w' : World} {c : Nat} {v : Int} (h : R = .error c) (hv : v = c) (hb : Below w.heap.size w w') : F3 R w (.returned (.tuple #[.string ⟨#[]⟩, .int .i64 v])) w' := by
 subst h; subst hv; exact ⟨hb, rfl⟩
theorem I4 {R : Except Nat Bytes} {w w' : World} {s : Bytes} (h : R = .ok s) (hb : Below w.heap.size w w') : F3 R w (.returned (.tuple #[str s, .int .i64 0])) w' := by
 subst h; exact ⟨hb, rfl⟩
theorem Lc {P : Program} {f : FuncId} {args : Array Value} {w : World} {n : Nat} {v : Value}
 (h : Calls P f args (w.drewN n) fun e x => e = .returned v ∧ ∃ q, x = (w.drewN n).drewN q) : Calls P f args (w.drewN n) fun e x => e = .returned v ∧ ∃ m, x = w.drewN m :=
 h.mono fun _ _ hh => by
  obtain ⟨q, hq⟩ := hh.2;exact ⟨hh.1, n + q, by rw [hq, World.drewN_drewN]⟩
theorem Dv (k : Int) (t : Bytes) (pv : Value) (pa : List Bytes) (ln col : Int) (w : World) (hg : Gl w) (hs : Strs w pv pa) (ht : t.length ≤ 17592186044416) (hp : pa.length ≤ 1099511627776) (hj : (Lib.join (pa ++ [t]) [46]).length ≤ 140737488355328) :
 Calls Tryz.prog 28 #[Nh k t pv ln col] w (F3 (kX k t pa) w) := by
 obtain ⟨u0, hu, hu0, hu1, hu2⟩ := info_parts Tryz.infoStr;have HS := κ hs;obtain ⟨a, cap, rfl, _, _⟩ := hs;have HG := κ hg; clear hg;obtain ⟨S, hS⟩ : ∃ S, wW k t pa = S := ⟨_, rfl⟩;obtain ⟨OK, hOK⟩ : ∃ O, Ja (gJ S) k t pa = O := ⟨_, rfl⟩;have HR : RowKit.Hid (kX k t pa = if OK then .ok S else .error 1) := by
  show _ = _; unfold kX; rw [hS, hOK]
 generalize kX k t pa = R at *;have HSS := κ hS; clear hS;have HOK := κ hOK; clear hOK;have HBX := κ ((ξf _ w).alloc (ξF _) (.cells #[.int .i64 k, str t, .slice a pa.length cap, .int .i64 ln, .int .i64 col] 32));go_enter Tryz.func28, Tryz.ntmps28;go_upto_block 0 with fail
 go_cut [4] (fun v wc => v = str S ∧ Below (w.heap.size + 1) (w.alloc (.cells #[.int .i64 k, str t, .slice a pa.length cap, .int .i64 ln, .int .i64 col] 32)) wc)
 case first =>
  by_cases h6 : k = 6
  · have b6 : (k == 6) = true := by rw [ξZ]; exact h6
    have HE : RowKit.Hid (S = lC t) := by show _ = _; rw [← HSS.out]; unfold wW; rw [ψi b6]
    clear h6;go_wp2_with fail;refine (xJ ⟨t.toArray⟩ _ (by simpa [ByteArray.size] using ht)).mono ?_;rintro e w2 ⟨rfl, hb2⟩;go_wp2_with fail;go_meet
    exact ⟨by rw [HE.out], by simpa using hb2⟩
  · have b6 : (k == 6) = false := by rw [ξY]; exact h6
    by_cases h7 : k = 7
    · have b7 : (k == 7) = true := by rw [ξZ]; exact h7
      have HE : RowKit.Hid (S = 35 :: lC t) := by show _ = _; rw [← HSS.out]; unfold wW; rw [ψh (by rw [b6]; exact Bool.false_ne_true), ψi b7]
      clear h7 h6;go_wp2_with fail;obtain ⟨q, hq⟩ : ∃ q : ByteArray, (⟨(lC t).toArray⟩ : ByteArray) = q := ⟨_, rfl⟩;have hqs : q.size ≤ 70368744177666 := by
       rw [← hq, ξn];have := xI t;show (lC t).length ≤ _;unfold lC;rw [ξ1, ξ2];simp only [ξ2, ξ5];omega
      have hql : q.data.toList = lC t := by rw [← hq]
      refine (xJ ⟨t.toArray⟩ _ (by simpa [ByteArray.size] using ht)).mono ?_;rintro e w2 ⟨rfl, hb2⟩;rw [show str (lC (⟨t.toArray⟩ : ByteArray).data.toList) = .string q by rw [← hq]];have HQL := κ hql;clear hq hql;go_wp2_with fail;go_meet
      refine ⟨?_, by simpa using hb2⟩;rw [HE.out, ← HQL.out];congr 1
    · have b7 : (k == 7) = false := by rw [ξY]; exact h7
      by_cases h2 : k = 2
      · have b2 : (k == 2) = true := by rw [ξZ]; exact h2
        have HE : RowKit.Hid (S = Lib.join (pa ++ [t]) [46]) := by show _ = _; rw [← HSS.out]; unfold wW; rw [ψh (by rw [b6]; exact Bool.false_ne_true), ψh (by rw [b7]; exact Bool.false_ne_true), ψi b2]
        clear h7 h6 h2;go_wp2_with fail;refine (Fy _ pa _ (HS.below HBX) (by omega)).mono ?_;rintro e w2 ⟨v2, rfl, hown, hb2⟩;obtain ⟨a2, cap2, rfl, _⟩ := nR hown;have HO : RowKit.Hid (Gg (w.heap.size + 1) w2 (.slice a2 pa.length cap2) pa) := by show Gg _ _ _ _; simpa using hown
        have HB2 := κ hb2;have hp3 : w.heap.size + 1 ≤ w2.heap.size := by have := hb2.size; simpa using this
        obtain ⟨P1, hP1⟩ : ∃ P1, pa ++ [t] = P1 := ⟨_, rfl⟩;rw [hP1] at hj HE;have HP2 := κ (show P1.length = pa.length + 1 by rw [← hP1]; simp);have HP1 := κ hP1;clear hown hb2 hP1;go_wp2_with (first | (at_builtin; refine wpList_append_own _ rfl _ _ 30 rfl (w.heap.size + 1) 9 u0 (.string ⟨#[]⟩) 1 16 Tryz.underlying30 hu hu0 hu1 hu2 rfl (by decide) _ _ _ rfl (HO.alloc _) ⟨w2.heap.size, 0, none⟩ 1 1 [str t] rfl rfl (cell_one_new _ _ _) (EG _) ?c3 ?c4 ?c5 ?_))
        case c3 => unfold maxLen; omega
        case c4 => omega
        case c5 => simp; omega
        intro v' w1 hown1 hgr _;have hown2 := AJ hown1;rw [show (⟨t.toArray⟩ : ByteArray).data.toList = t by simp, HP1.out] at hown2;have hb5 := nB (show Below (w.heap.size + 1) (w.alloc _) w2 by simpa using HB2.out) HO.out (ξF _) hp3 hgr;have HB5 := κ hb5;obtain ⟨a3, c3, rfl, _⟩ := nR hown2;have HO2 := κ hown2;clear hown1 hown2 hgr hb5;go_wp2_with fail;refine (EW _ P1 _ (Ar HO2.out) (by rw [← HP1.out]; simp) (by have := HP2.out; omega) hj).mono ?_;rintro e w4 ⟨rfl, hb4⟩;go_wp2_with fail;go_meet
        exact ⟨by rw [HE.out], HB5.trans (hb4.mono (by have := HB5.size; simpa using this))⟩
      · have b2 : (k == 2) = false := by rw [ξY]; exact h2
        have HE : RowKit.Hid (S = t) := by show _ = _; rw [← HSS.out]; unfold wW; rw [ψh (by rw [b6]; exact Bool.false_ne_true), ψh (by rw [b7]; exact Bool.false_ne_true), ψh (by rw [b2]; exact Bool.false_ne_true)]
        clear h7 h6 h2;go_wp2_with fail;go_meet
        exact ⟨by rw [HE.out], ξf _ _⟩
 case rest =>
  obtain ⟨rfl, hbc⟩ := hcut;have HBC := κ (HBX.trans (hbc.mono (Nat.le_succ _)));have hw0 : w.heap.size < wc.heap.size := by have := hbc.size; simp at this; omega
  have hcx : ∀ j, wc.cell? ⟨w.heap.size, j, none⟩ = #[.int .i64 k, str t, .slice a pa.length cap, .int .i64 ln, .int .i64 col][j]? := fun j => by
   rw [hbc.cell (p := ⟨w.heap.size, j, none⟩) (by simp), World.cell?_alloc_new]
  have x0 := hcx 0;have x1 := hcx 1;have x2 := hcx 2;simp only [List.getElem?_toArray, ξv, ξu] at x0 x1 x2;clear hcx hbc;have HSC := κ (rz ⟨S.toArray⟩ wc (HG.below HBC));go_wp2_with fail;refine HSC.mono ?_;rintro e w2 hpost;have hb2 := hpost.1;have HB2 := κ (HBC.trans (hb2.mono HBC.size));have y0 := (hb2.cell (p := ⟨w.heap.size, 0, none⟩) hw0).trans x0;have y1 := (hb2.cell (p := ⟨w.heap.size, 1, none⟩) hw0).trans x1;have y2 := (hb2.cell (p := ⟨w.heap.size, 2, none⟩) hw0).trans x2;have HBW := κ hb2;clear hb2 x0 x1 x2;cases hr0 : gJ S with
  | error q =>
   obtain ⟨c, ln', col'⟩ := q;have hc := xC hr0;have hcn : ((c : Int) != 0) = true := by rw [ψa]; omega
   have HE : RowKit.Hid (R = .error 1) := by show _ = _; rw [HR.out, ← HOK.out, hr0]; rfl
   obtain rfl := II hpost hr0;clear hc hr0 HOK hpost;go_wp2_with fail;go_quiet (fail);go_wp2_with fail;go_ret2
   exact IB HE rfl (below_drewN HB2 _)
  | ok l =>
   obtain ⟨v, xs, rfl, hown, htk⟩ := Je hpost hr0;rw [hr0] at HOK;clear hr0 hpost;go_upto_region 10 with fail;go_cut [72] (fun v wx => v = .bool (!OK) ∧ Below w.heap.size w wx)
   case first =>
    have hlen0 := hown.1;by_cases h1 : l.length = 1
    · obtain ⟨u, rfl⟩ : ∃ u, l = [u] := by
       match l, h1 with
       | [u], _ => exact ⟨u, rfl⟩
      clear h1;obtain ⟨pv, ys, hxs, hst, hys⟩ := htk;subst hys;rcases id hown.2 with ⟨_, h0⟩ | ⟨g, cap', cur, rfl, _⟩
      · simp at h0
      obtain ⟨pa', pcap, hpv, _, _⟩ := id hst.1;subst hpv;have z0 : w2.cell? ⟨g, 0, none⟩ = some (.int .i64 u.kind) := hown.cells (g := g) rfl 0 _ (by rw [hxs]; rfl);have z1 : w2.cell? ⟨g, 1, none⟩ = some (str u.text) := hown.cells (g := g) rfl 1 _ (by rw [hxs]; rfl);have z2 : w2.cell? ⟨g, 2, none⟩ = some (.slice pa' u.path.length pcap) := hown.cells (g := g) rfl 2 _ (by rw [hxs]; rfl);have HST := κ hst.1;have HSP := κ (HS.below HB2);clear hown hxs hst hlen0;have HOK2 : RowKit.Hid ((u.kind == k && u.text == t && u.path == pa) = OK) := HOK.out;by_cases hk : u.kind = k
      · have b2 : (u.kind != k) = false := by rw [bne_eq_false_iff_eq]; exact hk
        have k2 : (u.kind == k) = true := by rw [ξZ]; exact hk
        by_cases ht2 : u.text = t
        · have k3 : (u.text == t) = true := by rw [ξZ]; exact ht2
          obtain ⟨PE, hPE⟩ : ∃ PE, (u.path == pa) = PE := ⟨_, rfl⟩;have HE : RowKit.Hid (OK = PE) := by show _ = _; rw [← HOK2.out, k2, k3, hPE]; rfl
          have HEQ := κ (fun n => Lc (Fg _ _ _ _ (w2.drewN n) (HST.below (below_drewN (ξf _ _) n)) (HSP.below (below_drewN (ξf _ _) n)) (by omega)));rw [hPE] at HEQ;clear hPE k2 k3 hk HOK2;go_quiet ((go_at_call 55; exact HEQ.out _));go_wp2_with fail;go_meet
          exact ⟨by rw [HE.out], below_drewN HB2.out _⟩
        · have HE : RowKit.Hid (OK = false) := by
           show _ = _;rw [← HOK2.out, show (u.text == t) = false by rw [ξY]; exact ht2]; simp
          go_quiet (fail);go_wp2_with fail;go_meet
          exact ⟨by rw [HE.out]; first | rfl | simp [ht2], below_drewN HB2.out _⟩
      · have b2 : (u.kind != k) = true := by rw [ψa]; exact hk
        have HE : RowKit.Hid (OK = false) := by
         show _ = _;rw [← HOK2.out, show (u.kind == k) = false by rw [ξY]; exact hk]; rfl
        clear hk;go_quiet (fail);go_wp2_with fail;go_meet
        exact ⟨by rw [HE.out]; rfl, below_drewN HB2.out _⟩
    · have b1 : ((l.length : Int) != 1) = true := by rw [ψa]; omega
      have HE : RowKit.Hid (OK = false) := by
       show _ = _;rw [← HOK.out];match l, h1 with
       | [], _ => rfl
       | _ :: _ :: _, _ => rfl
      clear h1;obtain ⟨a', cap', rfl⟩ : ∃ a' cap', v = .slice a' l.length cap' := by
       rcases hown.2 with ⟨rfl, h0⟩ | ⟨g, cap', cur, rfl, _⟩
       · exact ⟨none, 0, by rw [h0]⟩
       · exact ⟨_, cap', rfl⟩
      clear hown htk hlen0;go_quiet (fail);go_wp2_with fail;go_meet
      exact ⟨by rw [HE.out]; rfl, below_drewN HB2.out _⟩
   case rest =>
    obtain ⟨rfl, hbx⟩ := hcut;have HBXX := κ hbx; clear hbx;cases OK
    · have HE : RowKit.Hid (R = .error 1) := HR.out;go_wp2_with fail;go_ret2
      exact IB HE rfl HBXX
    · have HE : RowKit.Hid (R = .ok S) := HR.out;go_wp2_with fail;go_ret2
      exact I4 HE HBXX
end Go.Proofs.YtbchkldhnjahaaaGreatDoor
namespace Kiln
def cL (t : Tok) : Bool := match kX t.kind t.text t.path with
 | .ok _ => true
 | .error _ => false
theorem tN : ∀ (f : Nat) (pa : List Bytes) (n : Nat) (l : Bytes) {k : Nat} {t : Bytes} {p : List Bytes} {m : Nat}, fR f pa n l = .ok (k, t, p, m) → k ≠ 4
 | 0, pa, n, l, k, t, p, m, h => by simp [fR] at h
 | f + 1, pa, n, l, k, t, p, m, h => by
  unfold fR at h;simp only at h;split at h
  · split at h
    · simp only [ξm, ξP] at h; omega
    · cases h
  · split at h
    · split at h
      · exact tN f _ _ _ h
      · split at h
        · cases h
        · simp only [ξm, ξP] at h; omega
    · simp only [ξm, ξP] at h; omega
theorem uH {l : Bytes} (h : (if atB l 0 == 126 then 1 else 0) + aT aM (l.drop (if atB l 0 == 126 then 1 else 0)) ≠ 0) : 1 ≤ (bT l).1 := by
 unfold bT;dsimp only;generalize (if atB l 0 == 126 then 1 else 0) = f at h ⊢;generalize aT aM (l.drop f) = c at h ⊢;split
 · show 1 ≤ f + 2 + _;omega
 · have hp : ∀ (A : Bool) (d : Nat), 1 ≤ (if A = true then (f + c + 1 + d, 5) else (f + c, 4) : Nat × Nat).1 := by
    intro A d;cases A
    · show 1 ≤ f + c;omega
    · show 1 ≤ f + c + 1 + d;omega
   obtain ⟨q, hq⟩ : ∃ q, (if (atB l (f + c) == 46 && decide (0 < aT aM (l.drop (f + c + 1)))) = true then (f + c + 1 + aT aM (l.drop (f + c + 1)), 5) else (f + c, 4) : Nat × Nat) = q := ⟨_, rfl⟩;rw [hq];have hq1 : 1 ≤ q.1 := by rw [← hq]; exact hp _ _
   split
   · split
     · show 1 ≤ q.1 + 1 + 1 + _;omega
     · exact hq1
   · split
     · show 1 ≤ q.1 + 1 + 0 + _;omega
     · exact hq1
theorem pG {l : Bytes} {k : Nat} {t : Bytes} {p : List Bytes} {m : Nat} (hl : l ≠ []) (h : cF l = .ok (k, t, p, m)) (hp : 1 ≤ (bT l).1) : t ≠ [] := by
 unfold cF at h;simp only at h;split at h
 · cases h
 · split at h
   · cases h
   · simp only [ξm, ξP] at h;rw [← h.2.1];intro e;have := congrArg List.length e;have hl2 := ξ6.2 hl;rw [ξ7, ξ5] at this;omega
theorem Cn {c : UInt8} {l : Bytes} {k : Nat} {t : Bytes} {p : List Bytes} {m : Nat} (h : gL (c :: l) = .ok (k, t, p, m)) (hk : k = 4) : t ≠ [] := by
 subst hk;unfold gL at h;simp only [atB, List.getD_cons_zero] at h;split at h
 · exact absurd rfl (tN _ _ _ _ h)
 · split at h
   · rename_i hd;refine pG (by simp) h (uH ?_);by_cases h1 : c == 126
     · simp [atB, h1]
     · simp [atB, h1, aT, hd]
   · split at h
     · unfold q8 at h;simp only [atB, List.getD_cons_zero] at h;split at h
       · rename_i h1;refine pG (by simp) h (uH ?_);simp only [ξg] at h1;simp [atB, h1.1]
       · split at h
         · unfold jw at h;split at h
           · cases h
           · split at h
             · simp at h
             · cases h
         · simp only [ξm, ξP] at h;have h1 := h.1;split at h1 <;> omega
     · split at h
       · unfold lg at h;split at h
         · cases h
         · split at h
           · cases h
           · simp at h
       · split at h
         · unfold nE at h; simp at h
         · unfold jU at h;dsimp only at h;generalize (if [46, 46, 46].isPrefixOf (c :: l) = true then 3 else 1) = n at h;split at h
           · simp only [ξm, ξP] at h; omega
           · cases h
theorem lY {cm : Bytes → Option Nat} : ∀ (f : Nat) (l : Bytes) (p : Nat × Nat) (acc : List Tok) {ts : List Tok}, iL gL cm f l p acc = .ok ts → (∀ t ∈ acc, t.kind = 4 → t.text ≠ []) → ∀ t ∈ ts, t.kind = 4 → t.text ≠ []
 | 0, l, p, acc, ts, h, ha => by unfold iL at h; cases h; exact ha
 | f + 1, [], p, acc, ts, h, ha => by unfold iL at h; cases h; exact ha
 | f + 1, c :: l, p, acc, ts, h, ha => by
  unfold iL at h;split at h
  · exact lY f _ _ _ h ha
  · split at h
    · split at h
      · cases h
      · exact lY f _ _ _ h ha
    · split at h
      · cases h
      · rename_i k t pa n hr;refine lY f _ _ _ h fun u hu hk => ?_;rcases ξ9.1 hu with hu | hu
        · exact ha u hu hk
        · simp only [ξC] at hu;subst hu;exact Cn hr (by have h4 : ((k : Nat) : Int) = 4 := hk; omega)
theorem Ch {l : Bytes} {ts : List Tok} (h : gJ l = .ok ts) : ∀ t ∈ ts, t.kind = 4 → t.text ≠ [] := by
 unfold gJ at h;split at h
 · cases h
 · exact lY _ _ _ _ h (fun t ht => by cases ht)
theorem wX {t : Tok} (h : cL t = true) (hk : t.kind = 4) : t.text ≠ [] := by
 unfold cL at h;cases hw : kX t.kind t.text t.path with
 | error e => rw [hw] at h; cases h
 | ok s =>
  obtain ⟨-, ln, col, hs⟩ := Dw hw;exact Ch hs ⟨t.kind, t.text, t.path, ln, col⟩ (by simp) hk
theorem mX {ts : List Tok} (h : ts.all cL = true) : ∀ t ∈ ts, t.kind = 4 → t.text ≠ [] := fun t ht hk => wX (List.all_eq_true.1 h t ht) hk
theorem JG {ts : List Tok} (h : ∀ t ∈ ts, t.kind = 4 → t.text ≠ []) (hp : ∀ t ∈ ts, t.path.length ≤ 1099511627776) : Inv ts 0 0 ps0 :=
 ⟨h, rfl, by omega, ξM _, rfl, by simp [ps0], rfl, by decide, fun i n hi => by simp [ps0] at hi, hp, fun n hn => by simp [ps0] at hn⟩
theorem I6 {α : Type} {m : M α} {Q : α → PS → Prop} {s : PS} {l c : Int} {k : Nat} (e : m s = .error (.stop l c k)) : wpM m Q s := by unfold wpM; rw [e]; trivial
theorem I5 {α : Type} {m : M α} {Q : α → PS → Prop} {s : PS} {x : α × PS} (e : m s = .ok x) (h : Q x.1 x.2) : wpM m Q s := by unfold wpM; rw [e]; exact h
theorem Al {ts : List Tok} (h : ∀ t ∈ ts, t.kind = 4 → t.text ≠ []) (hp : ∀ t ∈ ts, t.path.length ≤ 1099511627776) : wpM (eY ts (iV ts 1001)) (fun i s => lT s.nodes ∧ KN s.nodes (Kd 50) i ∧ s.nodes.length ≤ 262144 ∧ (∀ n ∈ s.nodes, n.kids.length ≤ 262154 ∧ n.path.length ≤ 1099511627776) ∧ s.deep.length = s.nodes.length) ps0 := by
 have hd := Bt (ts := ts) (o := 0) (k := 0) (L := iV ts 1001) (fun _ => zN 1001 1 (by omega) (by omega)) ps0 (JG h hp);unfold eY;refine wb hd fun i s hs => ?_;obtain ⟨⟨hI, hS⟩, hlt, hk⟩ := hs;by_cases hp : s.pos < ts.length
 · exact I6 (l := (ak ts s).1) (c := (ak ts s).2) (k := 50) (ψi hp)
 · exact I5 (x := (i, s)) (ψh hp) ⟨hI.good, hk, hI.many, hI.lens, hI.len⟩
theorem Ak {ts : List Tok} (h : ts.all cL = true) (hp : ∀ t ∈ ts, t.path.length ≤ 1099511627776) : eY ts (iV ts 1001) ps0 ≠ .error .out := by
 have := Al (mX h) hp;unfold wpM at this;intro e;rw [e] at this;exact this
theorem xk {ts : List Tok} (h : ts.all cL = true) (hp : ∀ t ∈ ts, t.path.length ≤ 1099511627776) {i : Nat} {s : PS} (e : eY ts (iV ts 1001) ps0 = .ok (i, s)) : lT s.nodes ∧ KN s.nodes (Kd 50) i ∧ s.nodes.length ≤ 262144 ∧ (∀ n ∈ s.nodes, n.kids.length ≤ 262154 ∧ n.path.length ≤ 1099511627776) ∧ s.deep.length = s.nodes.length := by
 have := Al (mX h) hp;unfold wpM at this;rw [e] at this;exact this
end Kiln
namespace Kiln
def tX (pa : List Bytes) : Nat := (pa.map List.length).sum
theorem qX (pa : List Bytes) (s : Bytes) : tX (pa ++ [s]) = tX pa + s.length := by simp [tX]
theorem Bh (pa : List Bytes) (sep : Bytes) : (Go.Lib.join pa sep).length ≤ tX pa + sep.length * pa.length := by
 unfold Go.Lib.join;match pa with
 | [] => simp [tX]
 | [a] => simp [tX, List.intercalate]
 | a :: b :: l =>
  have ih := Bh (b :: l) sep;unfold Go.Lib.join at ih;have e : sep.intercalate (a :: b :: l) = a ++ sep ++ sep.intercalate (b :: l) := by simp [List.intercalate, List.intersperse]
  rw [e];simp only [ξ1, ξ2, tX, List.map_cons, List.sum_cons] at ih ⊢;have : sep.length * (l.length + 1 + 1) = sep.length * (l.length + 1) + sep.length := by rw [Nat.mul_add, Nat.mul_one]
  omega
end Kiln
