/- The parser's state in memory: which blocks it uses and how they read; what a function of the parser may change. Conditions: those of each theorem. -/
import Derived.Test.YtbchkldhnjahaaaGreatDoorTrSpec2
import Derived.Test.YtbchkldhnjahaaaGreatDoorTrBase
import Derived.Maps.OwnSet
import Derived.Maps.AppendAt
namespace Go.Proofs.YtbchkldhnjahaaaGreatDoor
open Go.RowKit Kiln
open Go.Proofs
open Go.Maps (Keyed)

/-- what a block is to the parser: 0 nothing, 1 its struct, 2 a row of nodes, 3 a row of depths, 4 what is written no more, 5 + h the map of the scope so high -/
abbrev Rl := Nat → Nat
def Rl.set (U : Rl) (k r : Nat) : Rl := fun i => if i = k then r else U i
theorem Rl.set_same (U : Rl) (k r : Nat) : U.set k r k = r := by simp [Rl.set]
theorem Rl.set_other {U : Rl} {k r i : Nat} (h : i ≠ k) : U.set k r i = U i := by simp [Rl.set, h]
def Rl.give (U : Rl) (v : Value) (r : Nat) : Rl := match v.ownBlock with
  | none => U
  | some k => U.set k r

/-- a value's block is of a role -/
def Im (U : Rl) (v : Value) (r : Nat) : Prop := ∀ k, v.ownBlock = some k → U k = r
theorem Im.nil (U : Rl) (r : Nat) : Im U (.slice none 0 0) r := fun _ h => by simp [Value.ownBlock] at h
theorem Im.give (U : Rl) (v : Value) (r : Nat) : Im (U.give v r) v r := fun k h => by simp [Rl.give, h, Rl.set]
theorem give_off {U : Rl} {v : Value} {r k : Nat} (h : v.ownBlock ≠ some k) : U.give v r k = U k := by
  unfold Rl.give
  cases hv : v.ownBlock with
  | none => rfl
  | some j => exact Rl.set_other (fun e => h (by rw [hv, e]))
theorem give_on {U : Rl} {v : Value} {r k : Nat} (h : v.ownBlock = some k) : U.give v r k = r := by simp [Rl.give, h, Rl.set]

/-- a slice of ints reads so -/
def Ints (w : World) (v : Value) (l : List Int) : Prop :=
  ∃ a cap, v = .slice a l.length cap ∧ l.length ≤ cap ∧ cap ≤ maxLen ∧ (l ≠ [] → ∃ b off, a = some ⟨b, off, none⟩ ∧ ∀ (i : Nat) x, l[i]? = some x → w.cell? ⟨b, off + i, none⟩ = some (.int .i64 x))
theorem Ints.nil (w : World) : Ints w (.slice none 0 0) [] := ⟨none, 0, rfl, Nat.le_refl _, Nat.zero_le _, fun h => absurd rfl h⟩

/-- a slice's own block stays -/
def SameAt (w w' : World) (v : Value) : Prop := ∀ k, v.ownBlock = some k → w'.heap[k]? = w.heap[k]?

theorem Ints.keep {w w' : World} {v : Value} {l : List Int} (h : Ints w v l) (hk : SameAt w w' v) : Ints w' v l := by
  obtain ⟨a, cap, rfl, hlc, hcm, hl⟩ := h
  refine ⟨a, cap, rfl, hlc, hcm, fun hne => ?_⟩
  obtain ⟨b, off, rfl, hx⟩ := hl hne
  refine ⟨b, off, rfl, fun i x hi => ?_⟩
  have e : w'.heap[(⟨b, off + i, none⟩ : Addr).block]? = w.heap[(⟨b, off + i, none⟩ : Addr).block]? := hk b rfl
  exact (World.cell?_of_block (w := w) e).trans (hx i x hi)

theorem Strs.stay {w w' : World} {v : Value} {l : List Bytes} (h : Strs w v l) (hk : SameAt w w' v) : Strs w' v l :=
  h.keep fun _ a n cap e => hk a.block (by subst e; rfl)

/-- a node as cells -/
def ndVals (n : Nd) (pv kv : Value) : List Value := [.int .i64 n.kind, str n.text, pv, kv, .int .i64 n.line, .int .i64 n.col]

/-- nodes as cells, one behind the other -/
def NdS (w : World) (U : Rl) : List Nd → List Value → Prop
  | [], xs => xs = []
  | n :: l, xs => ∃ pv kv ys, xs = ndVals n pv kv ++ ys ∧ Strs w pv n.path ∧ Im U pv 4 ∧ Ints w kv n.kids ∧ Im U kv 4 ∧ NdS w U l ys

theorem NdS.keep {w w' : World} {U U' : Rl} (hk : ∀ k, U k = 4 → w'.heap[k]? = w.heap[k]? ∧ U' k = 4) : ∀ {l : List Nd} {xs : List Value}, NdS w U l xs → NdS w' U' l xs
  | [], _, h => h
  | _ :: _, _, ⟨pv, kv, ys, hx, hp, ip, hq, iq, hr⟩ =>
    ⟨pv, kv, ys, hx, hp.stay fun k e => (hk k (ip k e)).1, fun k e => (hk k (ip k e)).2, hq.keep fun k e => (hk k (iq k e)).1, fun k e => (hk k (iq k e)).2, NdS.keep hk hr⟩

theorem NdS.snoc {w : World} {U : Rl} {n : Nd} {pv kv : Value} (hp : Strs w pv n.path) (ip : Im U pv 4) (hq : Ints w kv n.kids) (iq : Im U kv 4) :
    ∀ {l : List Nd} {xs : List Value}, NdS w U l xs → NdS w U (l ++ [n]) (xs ++ ndVals n pv kv)
  | [], _, h => by subst h; exact ⟨pv, kv, [], by simp, hp, ip, hq, iq, rfl⟩
  | _ :: _, _, ⟨pv', kv', ys, hx, h1, h2, h3, h4, hr⟩ => ⟨pv', kv', ys ++ ndVals n pv kv, by rw [hx, List.append_assoc], h1, h2, h3, h4, NdS.snoc hp ip hq iq hr⟩

theorem NdS.len {w : World} {U : Rl} : ∀ {l : List Nd} {xs : List Value}, NdS w U l xs → xs.length = l.length * 6
  | [], _, h => by subst h; rfl
  | _ :: l, _, ⟨pv, kv, ys, hx, _, _, _, _, hr⟩ => by subst hx; rw [List.length_append, NdS.len hr]; simp [ndVals]; omega

theorem NdS.at {w : World} {U : Rl} : ∀ {l : List Nd} {xs : List Value}, NdS w U l xs → ∀ (i : Nat) n, l[i]? = some n → ∃ pv kv, Strs w pv n.path ∧ Im U pv 4 ∧ Ints w kv n.kids ∧ Im U kv 4 ∧ ∀ (j : Nat) x, (ndVals n pv kv)[j]? = some x → xs[6 * i + j]? = some x
  | [], _, _, i, u, hi => by simp at hi
  | t :: l, xs, ⟨pv, kv, ys, hx, hp, ip, hq, iq, hr⟩, 0, u, hi => by
    simp only [List.getElem?_cons_zero, Option.some.injEq] at hi
    subst hi
    refine ⟨pv, kv, hp, ip, hq, iq, fun j x hj => ?_⟩
    subst hx
    rw [Nat.mul_zero, Nat.zero_add, List.getElem?_append_left (List.getElem?_eq_some_iff.1 hj).1]; exact hj
  | t :: l, xs, ⟨pv, kv, ys, hx, hp, ip, hq, iq, hr⟩, i + 1, u, hi => by
    obtain ⟨pv', kv', h1, h2, h3, h4, hc⟩ := NdS.at hr i u (by simpa using hi)
    refine ⟨pv', kv', h1, h2, h3, h4, fun j x hj => ?_⟩
    subst hx
    rw [List.getElem?_append_right (by simp [ndVals]; omega)]
    rw [show 6 * (i + 1) + j - (ndVals t pv kv).length = 6 * i + j by simp [ndVals]; omega]
    exact hc j x hj

/-- from a world to a later one: only what the parser uses is changed, and it takes only what is new -/
structure Fr (w : World) (U : Rl) (w' : World) (U' : Rl) : Prop where
  os : w'.os = w.os
  tape : w'.tape = w.tape
  output : w'.output = w.output
  size : w.heap.size ≤ w'.heap.size
  keep : ∀ k, k < w.heap.size → U k = 0 → w'.heap[k]? = w.heap[k]?
  sub : ∀ k, k < w.heap.size → U k = 0 → U' k = 0

theorem Fr.refl (w : World) (U : Rl) : Fr w U w U := ⟨rfl, rfl, rfl, Nat.le_refl _, fun _ _ _ => rfl, fun _ _ h => h⟩
theorem Fr.trans {a b c : World} {U V W : Rl} (h : Fr a U b V) (k : Fr b V c W) : Fr a U c W :=
  ⟨k.os.trans h.os, k.tape.trans h.tape, k.output.trans h.output, Nat.le_trans h.size k.size,
   fun i hi hu => (k.keep i (Nat.lt_of_lt_of_le hi h.size) (h.sub i hi hu)).trans (h.keep i hi hu), fun i hi hu => k.sub i (Nat.lt_of_lt_of_le hi h.size) (h.sub i hi hu)⟩
theorem Fr.alloc {a b : World} {U V : Rl} (h : Fr a U b V) (o : Obj) : Fr a U (b.alloc o) V :=
  ⟨h.os, h.tape, h.output, by have := h.size; simp; omega, fun i hi hu => (Below.heap_alloc b o i (Nat.lt_of_lt_of_le hi h.size)).trans (h.keep i hi hu), h.sub⟩
theorem Fr.drewN {a b : World} {U V : Rl} (h : Fr a U b V) (n : Nat) : Fr a U (b.drewN n) V := ⟨h.os, h.tape, h.output, h.size, h.keep, h.sub⟩
theorem Fr.drew {a b : World} {U V : Rl} (h : Fr a U b V) : Fr a U b.drew V := ⟨h.os, h.tape, h.output, h.size, h.keep, h.sub⟩
theorem Fr.setCell {a b : World} {U V : Rl} (h : Fr a U b V) {p : Addr} (hp : a.heap.size ≤ p.block ∨ U p.block ≠ 0) (x : Value) : Fr a U (b.setCell p x) V :=
  ⟨h.os, h.tape, h.output, by have := h.size; simpa [World.setCell] using this, fun i hi hu => (heap_setCell_other b p i x (by rintro rfl; rcases hp with hp | hp; exact absurd hi (by omega); exact hp hu)).trans (h.keep i hi hu), h.sub⟩
theorem Fr.grown {a b c : World} {U V : Rl} (h : Fr a U b V) {row : Option Nat} (hg : b.grownBy c row) (hr : ∀ k, row = some k → a.heap.size ≤ k ∨ U k ≠ 0) : Fr a U c V :=
  ⟨hg.os.trans h.os, hg.tape.trans h.tape, hg.output.trans h.output, Nat.le_trans h.size hg.size,
   fun i hi hu => (hg.block i (Nat.lt_of_lt_of_le hi h.size) (fun e => by rcases hr i e.symm with h1 | h1; exact absurd hi (by omega); exact h1 hu)).trans (h.keep i hi hu), h.sub⟩
theorem Fr.set {a b : World} {U V : Rl} (h : Fr a U b V) {k r : Nat} (hk : a.heap.size ≤ k ∨ U k ≠ 0) : Fr a U b (V.set k r) :=
  ⟨h.os, h.tape, h.output, h.size, h.keep, fun i hi hu => by
    rw [Rl.set_other (by rintro rfl; rcases hk with h1 | h1; exact absurd hi (by omega); exact h1 hu)]; exact h.sub i hi hu⟩
theorem Fr.give {a b : World} {U V : Rl} (h : Fr a U b V) {v : Value} {r : Nat} (hv : ∀ k, v.ownBlock = some k → a.heap.size ≤ k ∨ U k ≠ 0) : Fr a U b (V.give v r) := by
  unfold Rl.give
  cases hb : v.ownBlock with
  | none => exact h
  | some k => exact h.set (hv k hb)
theorem Fr.cell {w w' : World} {U U' : Rl} (h : Fr w U w' U') {p : Addr} {v : Value} (hc : w.cell? p = some v) (hu : U p.block = 0) : w'.cell? p = some v :=
  (World.cell?_of_block (w := w) (h.keep p.block (World.block_lt_of_cell? w p hc) hu)).trans hc
theorem Fr.frozen {w w' : World} {U U' : Rl} (h : Fr w U w' U') {p : Addr} (hl : p.block < w.heap.size) (hu : U p.block = 0) : w'.frozen? p = w.frozen? p :=
  World.frozen?_of_block (w := w) (h.keep p.block hl hu)

/-- a row of ints of the function's own, from block B on, off the parser's -/
def LR (B : Nat) (w : World) (U : Rl) (v : Value) (l : List Int) : Prop := w.ownsRow B 3 1 v l.length (l.map (Value.int .i64)) ∧ Im U v 0

theorem LR.ints {B : Nat} {w : World} {U : Rl} {v : Value} {l : List Int} (h : LR B w U v l) : Ints w v l := by
  rcases id h.1.2 with ⟨rfl, h0⟩ | ⟨g, cap, cur, rfl, _, _, hlc, hcm, _⟩
  · have : l = [] := List.eq_nil_of_length_eq_zero h0
    subst this
    exact Ints.nil w
  · refine ⟨_, cap, rfl, hlc, hcm, fun _ => ⟨g, 0, rfl, fun i x hi => ?_⟩⟩
    have := h.1.cells (g := g) rfl i (.int .i64 x) (by simp [hi])
    rw [Nat.zero_add, ← addr_add0]; exact this
theorem LR.nil (B : Nat) (w : World) (U : Rl) : LR B w U (.slice none 0 0) [] := ⟨World.ownsRow_nil w B _ 1, Im.nil U 0⟩
theorem LR.lt {B : Nat} {w : World} {U : Rl} {v : Value} {l : List Int} (h : LR B w U v l) : ∀ k, v.ownBlock = some k → B ≤ k ∧ k < w.heap.size := h.1.lt
theorem row_keep {w w' : World} {B size n : Nat} {e : TypeId} {v : Value} {xs : List Value} (h : w.ownsRow B e size v n xs) (hk : SameAt w w' v) : w'.ownsRow B e size v n xs := by
  refine ⟨h.1, ?_⟩
  rcases h.2 with hn | ⟨g, cap, cur, rfl, hb, hgg, rest⟩
  · exact .inl hn
  · exact .inr ⟨g, cap, cur, rfl, hb, (hk g rfl).trans hgg, rest⟩
theorem LR.step {B : Nat} {w w' : World} {U U' : Rl} {v : Value} {l : List Int} (h : LR B w U v l) (hf : Fr w U w' U') : LR B w' U' v l :=
  ⟨row_keep h.1 fun k e => hf.keep k (h.lt k e).2 (h.2 k e), fun k e => hf.sub k (h.lt k e).2 (h.2 k e)⟩
theorem LR.alloc {B : Nat} {w : World} {U : Rl} {v : Value} {l : List Int} (h : LR B w U v l) (o : Obj) : LR B (w.alloc o) U v l := ⟨h.1.alloc o, h.2⟩
theorem LR.lit {B : Nat} {w : World} {U : Rl} (l : List Int) (cs : Array Value) (hc : cs = (l.map (Value.int .i64)).toArray) (hB : B ≤ w.heap.size) (hu : U w.heap.size = 0) (hl : l.length ≤ maxLen) :
    LR B (w.alloc (.cells cs 3)) U (.slice (some ⟨w.heap.size, 0, none⟩) l.length l.length) l := by
  subst hc
  refine ⟨⟨by simp, .inr ⟨w.heap.size, l.length, _, rfl, hB, heap_alloc_new w _, Nat.le_refl _, hl, by simp, ?_⟩⟩, fun k e => ?_⟩
  · simp; exact List.take_of_length_le (by simp)
  · simp [Value.ownBlock] at e; subst e; exact hu

/-- what a name is, as a value and as a datum -/
def fxV (f : Fx) : Value := .agg #[.int .i64 f.level, .bool f.right, .bool f.infx]
def fxD (f : Fx) : DataW Unit := .agg [.lit (.int .i64 f.level), .lit (.bool f.right), .lit (.bool f.infx)]
def fxL : List Value → Option (DataW Unit × List MemPlace)
  | [.int .i64 a, .bool r, .bool i] => some (.agg [.lit (.int .i64 a), .lit (.bool r), .lit (.bool i)], [])
  | _ => none
def fxElem : Value → Option (DataW Unit × List MemPlace)
  | .agg cs => fxL cs.toList
  | _ => none
theorem fxElem_mk (f : Fx) : fxElem (fxV f) = some (fxD f, []) := rfl

theorem fxElem_inv {v : Value} {f : Fx} {ps : List MemPlace} (h : fxElem v = some (fxD f, ps)) : v = fxV f := by
  cases v with
  | agg cs =>
    obtain ⟨l⟩ := cs
    simp only [fxElem] at h
    unfold fxL at h
    split at h
    · simp only [fxD, Option.some.injEq, Prod.mk.injEq, DataW.agg.injEq, List.cons.injEq, DataW.lit.injEq, Lit.int.injEq, Lit.bool.injEq, true_and, and_true] at h
      obtain ⟨⟨h1, h2, h3⟩, _⟩ := h
      simp only [fxV, ← h1, ← h2, ← h3]
    · cases h
  | _ => simp [fxElem] at h

/-- a map's datum says of each name what the directives say -/
def NmD (D : DataW Unit) (nm : Names) : Prop := ∀ s : Bytes, Go.Maps.has D (.string s) = (lookN s nm).isSome ∧ D.atKey (.string s) (fxD noFx) = fxD ((lookN s nm).getD noFx)

/-- the map in a block holds the directives -/
def NmS (w : World) (m : Nat) (nm : Names) : Prop := ∃ D, w.ownsMap Tryz.prog 9 fxElem m nm.length D ∧ NmD D nm

/-- scopes, one in the other, in the blocks of a list -/
def ScS (w : World) (U : Rl) : List Nat → List Names → Prop
  | [q], [nm] => U q = 4 ∧ ∃ m, w.heap[q]? = some (.cells #[.pointer none, .map (some m)] 107 (0, 0)) ∧ U m = 5 ∧ NmS w m nm
  | q :: q2 :: qs, nm :: n2 :: r => U q = 4 ∧ ∃ o m, w.heap[q]? = some (.cells #[.pointer (some ⟨o, 0, none⟩), .map (some m)] 107 (0, 0)) ∧ U o = 4 ∧
      w.heap[o]? = some (.cells #[.pointer (some ⟨q2, 0, none⟩)] 182 (0, 0)) ∧ U m = 6 + r.length ∧ NmS w m nm ∧ ScS w U (q2 :: qs) (n2 :: r)
  | _, _ => False

theorem NmS.keep {w w' : World} {m : Nat} {nm : Names} (h : NmS w m nm) (hk : w'.heap[m]? = w.heap[m]?) : NmS w' m nm := by
  obtain ⟨D, ⟨es, clock, hb, F, hs, hD⟩, hn⟩ := h
  exact ⟨D, ⟨es, clock, hk.trans hb, F, hs, hD⟩, hn⟩

theorem ScS.keep {w w' : World} {U U' : Rl} : ∀ {qs : List Nat} {sc : List Names}, (∀ k, 4 ≤ U k → U k < 5 + sc.length → w'.heap[k]? = w.heap[k]? ∧ U' k = U k) → ScS w U qs sc → ScS w' U' qs sc
  | [], _, _, h => by unfold ScS at h; exact h.elim
  | [q], [], _, h => by unfold ScS at h; exact h.elim
  | [q], [nm], hk, h => by
    unfold ScS at h ⊢
    obtain ⟨hq, m, h1, h2, h3⟩ := h
    have k1 := hk q (by omega) (by rw [hq]; simp)
    have k2 := hk m (by omega) (by rw [h2]; simp)
    exact ⟨k1.2.trans hq, m, k1.1.trans h1, k2.2.trans h2, h3.keep k2.1⟩
  | [q], _ :: _ :: _, _, h => by unfold ScS at h; exact h.elim
  | q :: q2 :: qs, [], _, h => by unfold ScS at h; exact h.elim
  | q :: q2 :: qs, [_], _, h => by unfold ScS at h; exact h.elim
  | q :: q2 :: qs, nm :: n2 :: r, hk, h => by
    unfold ScS at h ⊢
    obtain ⟨hq, o, m, h1, h4, h5, h2, h3, h6⟩ := h
    simp only [List.length_cons] at hk
    have k1 := hk q (by omega) (by omega)
    have k2 := hk m (by omega) (by omega)
    have k3 := hk o (by omega) (by omega)
    exact ⟨k1.2.trans hq, o, m, k1.1.trans h1, k3.2.trans h4, k3.1.trans h5, k2.2.trans h2, h3.keep k2.1, ScS.keep (fun k a b => hk k a (by simp at b; omega)) h6⟩

/-- how high the scopes are -/
theorem ScS.len {w : World} {U : Rl} : ∀ {qs : List Nat} {sc : List Names}, ScS w U qs sc → qs.length = sc.length ∧ sc ≠ []
  | [], _, h => by unfold ScS at h; exact h.elim
  | [q], [], h => by unfold ScS at h; exact h.elim
  | [q], [nm], h => by simp
  | [q], _ :: _ :: _, h => by unfold ScS at h; exact h.elim
  | q :: q2 :: qs, [], h => by unfold ScS at h; exact h.elim
  | q :: q2 :: qs, [_], h => by unfold ScS at h; exact h.elim
  | q :: q2 :: qs, nm :: n2 :: r, h => by
    unfold ScS at h
    obtain ⟨hq, o, m, h1, h4, h5, h2, h3, h6⟩ := h
    have := ScS.len h6
    simp only [List.length_cons] at this ⊢
    exact ⟨by omega, by simp⟩

end Go.Proofs.YtbchkldhnjahaaaGreatDoor
