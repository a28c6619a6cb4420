/- Part of the proof. Conditions: those of each theorem. -/
import Derived.Maps.OwnSet
import Derived.Maps.AppendAt
import Derived.Deep.LoopGhost
import Derived.StringKeys
import Derived.Deep.RegionWith
import Derived.Deep.AppendLies
import Derived.Deep.RegionLaw
import Derived.Test.YtbchkldhnjahaaaGreatDoorPoa
import Derived.Test.YtbchkldhnjahaaaGreatDoorPob
import Derived.Test.YtbchkldhnjahaaaGreatDoorPoh
set_option maxRecDepth 100000
set_option maxHeartbeats 40000000
namespace Go.Proofs.YtbchkldhnjahaaaGreatDoor
open Go.RowKit Kiln
open Go.Proofs
def TkS (w : World) (v : Value) (l : List Tok) : Prop :=
 ∃ a cap, v = .slice a l.length cap ∧ (l ≠ [] → ∃ b off, a = some ⟨b, off, none⟩ ∧ ∀ (i : Nat) u, l[i]? = some u → ∃ pv, Strs w pv u.path ∧ ∀ (j : Nat) x, (fV u pv)[j]? = some x → w.cell? ⟨b, off + (5 * i + j), none⟩ = some x)
theorem TkS.below {w w' : World} {v : Value} {l : List Tok} (h : TkS w v l) (hb : Below w.heap.size w w') : TkS w' v l := by
 obtain ⟨a, cap, hv, hl⟩ := h;refine ⟨a, cap, hv, fun hne => ?_⟩;obtain ⟨b, off, ha, hx⟩ := hl hne;refine ⟨b, off, ha, fun i u hi => ?_⟩;obtain ⟨pv, hs, hc⟩ := hx i u hi;exact ⟨pv, hs.below hb, fun j x hj => cell_later hb (hc j x hj)⟩
theorem DT {ob : Option Nat} {B : Nat} {w : World} : ∀ {l : List Tok} {xs : List Value}, Ad ob B w l xs → ∀ (i : Nat) u, l[i]? = some u → ∃ pv, qj ob B w pv u.path ∧ ∀ (j : Nat) x, (fV u pv)[j]? = some x → xs[5 * i + j]? = some x
 | [], _, _, i, u, hi => by simp at hi
 | t :: l, xs, ⟨pv, ys, hx, hp, hr⟩, 0, u, hi => by
  simp only [ξv, ξO] at hi;subst hi;refine ⟨pv, hp, fun j x hj => ?_⟩;subst hx;rw [Nat.mul_zero, Nat.zero_add, ξs (ξz.1 hj).1]; exact hj
 | t :: l, xs, ⟨pv, ys, hx, hp, hr⟩, i + 1, u, hi => by
  obtain ⟨pv', hs, hc⟩ := DT hr i u (by simpa using hi);refine ⟨pv', hs, fun j x hj => ?_⟩;subst hx;rw [ξt (by simp [fV]; omega)];rw [show 5 * (i + 1) + j - (fV t pv).length = 5 * i + j by simp [fV]; omega];exact hc j x hj
theorem iA (g n : Nat) : (⟨g, 0, none⟩ : Addr).add n = ⟨g, n, none⟩ := by
 unfold Addr.add;split
 · rename_i h; simp_all
 · simp
theorem Am {w : World} {B : Nat} {v : Value} {l : List Tok} {xs : List Value} (ho : w.ownsRow B 32 5 v l.length xs) (ht : Ad v.ownBlock B w l xs) : TkS w v l := by
 rcases id ho.2 with ⟨rfl, h0⟩ | ⟨g, cap, cur, rfl, _⟩
 · have : l = [] := ξq h0;subst this;exact ⟨none, 0, rfl, fun h => absurd rfl h⟩
 · refine ⟨_, cap, rfl, fun _ => ⟨g, 0, rfl, fun i u hi => ?_⟩⟩;obtain ⟨pv, hs, hc⟩ := DT ht i u hi;refine ⟨pv, hs.1, fun j x hj => ?_⟩;have := ho.cells (g := g) rfl (5 * i + j) x (hc j x hj);rw [Nat.zero_add, ← iA]; exact this
def Fits (u : Tok) : Prop := u.text.length ≤ 17592186044416 ∧ u.path.length ≤ 1099511627776 ∧ (Lib.join (u.path ++ [u.text]) [46]).length ≤ 140737488355328
theorem BW {k : Int} {t : Bytes} {pa : List Bytes} {c : Nat} (h : kX k t pa = .error c) : c = 1 := by
 unfold kX at h;split at h
 · cases h
 · simp only [ξl] at h; exact h.symm
end Go.Proofs.YtbchkldhnjahaaaGreatDoor
namespace Go.Proofs.YtbchkldhnjahaaaGreatDoor
open Go.RowKit Kiln
open Go.Proofs
open Go.Maps (Keyed)
abbrev Rl := Nat → Nat
def Rl.set (U : Rl) (k r : Nat) : Rl := fun i => if i = k then r else U i
theorem Rl.set_same (U : Rl) (k r : Nat) : U.set k r k = r := by simp [Rl.set]
theorem Rl.set_other {U : Rl} {k r i : Nat} (h : i ≠ k) : U.set k r i = U i := by simp [Rl.set, h]
def Rl.give (U : Rl) (v : Value) (r : Nat) : Rl := match v.ownBlock with
 | none => U
 | some k => U.set k r
def Im (U : Rl) (v : Value) (r : Nat) : Prop := ∀ k, v.ownBlock = some k → U k = r
theorem Im.nil (U : Rl) (r : Nat) : Im U (.slice none 0 0) r := fun _ h => by simp [Value.ownBlock] at h
theorem Im.give (U : Rl) (v : Value) (r : Nat) : Im (U.give v r) v r := fun k h => by simp [Rl.give, h, Rl.set]
theorem wJ {U : Rl} {v : Value} {r k : Nat} (h : v.ownBlock ≠ some k) : U.give v r k = U k := by
 unfold Rl.give;cases hv : v.ownBlock with
 | none => rfl
 | some j => exact Rl.set_other (fun e => h (by rw [hv, e]))
def Ints (w : World) (v : Value) (l : List Int) : Prop :=
 ∃ a cap, v = .slice a l.length cap ∧ l.length ≤ cap ∧ cap ≤ maxLen ∧ (l ≠ [] → ∃ b off, a = some ⟨b, off, none⟩ ∧ ∀ (i : Nat) x, l[i]? = some x → w.cell? ⟨b, off + i, none⟩ = some (.int .i64 x))
theorem Ints.nil (w : World) : Ints w (.slice none 0 0) [] := ⟨none, 0, rfl, ξF _, ξM _, fun h => absurd rfl h⟩
def BQ (w w' : World) (v : Value) : Prop := ∀ k, v.ownBlock = some k → w'.heap[k]? = w.heap[k]?
theorem Ints.keep {w w' : World} {v : Value} {l : List Int} (h : Ints w v l) (hk : BQ w w' v) : Ints w' v l := by
 obtain ⟨a, cap, rfl, hlc, hcm, hl⟩ := h;refine ⟨a, cap, rfl, hlc, hcm, fun hne => ?_⟩;obtain ⟨b, off, rfl, hx⟩ := hl hne;refine ⟨b, off, rfl, fun i x hi => ?_⟩;have e : w'.heap[(⟨b, off + i, none⟩ : Addr).block]? = w.heap[(⟨b, off + i, none⟩ : Addr).block]? := hk b rfl;exact (World.cell?_of_block (w := w) e).trans (hx i x hi)
theorem Strs.stay {w w' : World} {v : Value} {l : List Bytes} (h : Strs w v l) (hk : BQ w w' v) : Strs w' v l :=
 h.keep fun _ a n cap e => hk a.block (by subst e; rfl)
def Fz (w : World) (k : Nat) : Prop := ∃ xs T, w.heap[k]? = some (.cells xs T (0, 0))
theorem Fz.keep {w w' : World} {k : Nat} (h : Fz w k) (e : w'.heap[k]? = w.heap[k]?) : Fz w' k := let ⟨xs, T, h⟩ := h; ⟨xs, T, e.trans h⟩
theorem Fz.lt {w : World} {k : Nat} (h : Fz w k) : k < w.heap.size := let ⟨_, _, h⟩ := h; (ξd.1 h).1
theorem Fz.row {w : World} {B size n : Nat} {e : TypeId} {v : Value} {xs : List Value} (h : w.ownsRow B e size v n xs) : ∀ k, v.ownBlock = some k → Fz w k := fun k e => by
 rcases h.2 with ⟨rfl, _⟩ | ⟨g, cap, cur, rfl, _, hg, _⟩
 · simp [Value.ownBlock] at e
 · simp only [Value.ownBlock, ξO] at e; subst e; exact ⟨_, _, hg⟩
def ji (n : Nd) (pv kv : Value) : List Value := [.int .i64 n.kind, str n.text, pv, kv, .int .i64 n.line, .int .i64 n.col]
def NdS (w : World) (U : Rl) : List Nd → List Value → Prop
 | [], xs => xs = []
 | n :: l, xs => ∃ pv kv ys, xs = ji n pv kv ++ ys ∧ Strs w pv n.path ∧ Im U pv 4 ∧ Ints w kv n.kids ∧ Im U kv 4 ∧ NdS w U l ys
theorem NdS.keep {w w' : World} {U U' : Rl} (hk : ∀ k, U k = 4 → w'.heap[k]? = w.heap[k]? ∧ U' k = 4) : ∀ {l : List Nd} {xs : List Value}, NdS w U l xs → NdS w' U' l xs
 | [], _, h => h
 | _ :: _, _, ⟨pv, kv, ys, hx, hp, ip, hq, iq, hr⟩ =>
  ⟨pv, kv, ys, hx, hp.stay fun k e => (hk k (ip k e)).1, fun k e => (hk k (ip k e)).2, hq.keep fun k e => (hk k (iq k e)).1, fun k e => (hk k (iq k e)).2, NdS.keep hk hr⟩
theorem NdS.snoc {w : World} {U : Rl} {n : Nd} {pv kv : Value} (hp : Strs w pv n.path) (ip : Im U pv 4) (hq : Ints w kv n.kids) (iq : Im U kv 4) :
 ∀ {l : List Nd} {xs : List Value}, NdS w U l xs → NdS w U (l ++ [n]) (xs ++ ji n pv kv)
 | [], _, h => by subst h; exact ⟨pv, kv, [], by simp, hp, ip, hq, iq, rfl⟩
 | _ :: _, _, ⟨pv', kv', ys, hx, h1, h2, h3, h4, hr⟩ => ⟨pv', kv', ys ++ ji n pv kv, by rw [hx, ξo], h1, h2, h3, h4, NdS.snoc hp ip hq iq hr⟩
theorem NdS.len {w : World} {U : Rl} : ∀ {l : List Nd} {xs : List Value}, NdS w U l xs → xs.length = l.length * 6
 | [], _, h => by subst h; rfl
 | _ :: l, _, ⟨pv, kv, ys, hx, _, _, _, _, hr⟩ => by subst hx; rw [ξ1, NdS.len hr]; simp [ji]; omega
theorem NdS.at {w : World} {U : Rl} : ∀ {l : List Nd} {xs : List Value}, NdS w U l xs → ∀ (i : Nat) n, l[i]? = some n → ∃ pv kv, Strs w pv n.path ∧ Im U pv 4 ∧ Ints w kv n.kids ∧ Im U kv 4 ∧ ∀ (j : Nat) x, (ji n pv kv)[j]? = some x → xs[6 * i + j]? = some x
 | [], _, _, i, u, hi => by simp at hi
 | t :: l, xs, ⟨pv, kv, ys, hx, hp, ip, hq, iq, hr⟩, 0, u, hi => by
  simp only [ξv, ξO] at hi;subst hi;refine ⟨pv, kv, hp, ip, hq, iq, fun j x hj => ?_⟩;subst hx;rw [Nat.mul_zero, Nat.zero_add, ξs (ξz.1 hj).1]; exact hj
 | t :: l, xs, ⟨pv, kv, ys, hx, hp, ip, hq, iq, hr⟩, i + 1, u, hi => by
  obtain ⟨pv', kv', h1, h2, h3, h4, hc⟩ := NdS.at hr i u (by simpa using hi);refine ⟨pv', kv', h1, h2, h3, h4, fun j x hj => ?_⟩;subst hx;rw [ξt (by simp [ji]; omega)];rw [show 6 * (i + 1) + j - (ji t pv kv).length = 6 * i + j by simp [ji]; omega];exact hc j x hj
structure Fr (w : World) (U : Rl) (w' : World) (U' : Rl) : Prop where
 os : w'.os = w.os
 tape : w'.tape = w.tape
 output : w'.output = w.output
 size : w.heap.size ≤ w'.heap.size
 keep : ∀ k, k < w.heap.size → U k = 0 → w'.heap[k]? = w.heap[k]?
 sub : ∀ k, k < w.heap.size → U k = 0 → U' k = 0
theorem Fr.refl (w : World) (U : Rl) : Fr w U w U := ⟨rfl, rfl, rfl, ξF _, fun _ _ _ => rfl, fun _ _ h => h⟩
theorem Fr.trans {a b c : World} {U V W : Rl} (h : Fr a U b V) (k : Fr b V c W) : Fr a U c W :=
 ⟨k.os.trans h.os, k.tape.trans h.tape, k.output.trans h.output, ξG h.size k.size,
  fun i hi hu => (k.keep i (ξH hi h.size) (h.sub i hi hu)).trans (h.keep i hi hu), fun i hi hu => k.sub i (ξH hi h.size) (h.sub i hi hu)⟩
theorem Fr.alloc {a b : World} {U V : Rl} (h : Fr a U b V) (o : Obj) : Fr a U (b.alloc o) V :=
 ⟨h.os, h.tape, h.output, by have := h.size; simp; omega, fun i hi hu => (ξe b o i (ξH hi h.size)).trans (h.keep i hi hu), h.sub⟩
theorem Fr.drewN {a b : World} {U V : Rl} (h : Fr a U b V) (n : Nat) : Fr a U (b.drewN n) V := ⟨h.os, h.tape, h.output, h.size, h.keep, h.sub⟩
theorem Fr.drew {a b : World} {U V : Rl} (h : Fr a U b V) : Fr a U b.drew V := ⟨h.os, h.tape, h.output, h.size, h.keep, h.sub⟩
theorem Fr.setCell {a b : World} {U V : Rl} (h : Fr a U b V) {p : Addr} (hp : a.heap.size ≤ p.block ∨ U p.block ≠ 0) (x : Value) : Fr a U (b.setCell p x) V :=
 ⟨h.os, h.tape, h.output, by have := h.size; simpa [World.setCell] using this, fun i hi hu => (ψf b p i x (by rintro rfl; rcases hp with hp | hp; exact absurd hi (by omega); exact hp hu)).trans (h.keep i hi hu), h.sub⟩
theorem Fr.grown {a b c : World} {U V : Rl} (h : Fr a U b V) {row : Option Nat} (hg : b.grownBy c row) (hr : ∀ k, row = some k → a.heap.size ≤ k ∨ U k ≠ 0) : Fr a U c V :=
 ⟨hg.os.trans h.os, hg.tape.trans h.tape, hg.output.trans h.output, ξG h.size hg.size,
  fun i hi hu => (hg.block i (ξH hi h.size) (fun e => by rcases hr i e.symm with h1 | h1; exact absurd hi (by omega); exact h1 hu)).trans (h.keep i hi hu), h.sub⟩
theorem Fr.set {a b : World} {U V : Rl} (h : Fr a U b V) {k r : Nat} (hk : a.heap.size ≤ k ∨ U k ≠ 0) : Fr a U b (V.set k r) :=
 ⟨h.os, h.tape, h.output, h.size, h.keep, fun i hi hu => by
  rw [Rl.set_other (by rintro rfl; rcases hk with h1 | h1; exact absurd hi (by omega); exact h1 hu)]; exact h.sub i hi hu⟩
theorem Fr.give {a b : World} {U V : Rl} (h : Fr a U b V) {v : Value} {r : Nat} (hv : ∀ k, v.ownBlock = some k → a.heap.size ≤ k ∨ U k ≠ 0) : Fr a U b (V.give v r) := by
 unfold Rl.give;cases hb : v.ownBlock with
 | none => exact h
 | some k => exact h.set (hv k hb)
theorem Fr.cell {w w' : World} {U U' : Rl} (h : Fr w U w' U') {p : Addr} {v : Value} (hc : w.cell? p = some v) (hu : U p.block = 0) : w'.cell? p = some v :=
 (World.cell?_of_block (w := w) (h.keep p.block (ξS w p hc) hu)).trans hc
theorem Fr.frozen {w w' : World} {U U' : Rl} (h : Fr w U w' U') {p : Addr} (hl : p.block < w.heap.size) (hu : U p.block = 0) : w'.frozen? p = w.frozen? p :=
 World.frozen?_of_block (w := w) (h.keep p.block hl hu)
def LR (B : Nat) (w : World) (U : Rl) (v : Value) (l : List Int) : Prop := w.ownsRow B 3 1 v l.length (l.map (Value.int .i64)) ∧ Im U v 0
theorem LR.ints {B : Nat} {w : World} {U : Rl} {v : Value} {l : List Int} (h : LR B w U v l) : Ints w v l := by
 rcases id h.1.2 with ⟨rfl, h0⟩ | ⟨g, cap, cur, rfl, _, _, hlc, hcm, _⟩
 · have : l = [] := ξq h0;subst this;exact Ints.nil w
 · refine ⟨_, cap, rfl, hlc, hcm, fun _ => ⟨g, 0, rfl, fun i x hi => ?_⟩⟩;have := h.1.cells (g := g) rfl i (.int .i64 x) (by simp [hi]);rw [Nat.zero_add, ← iA]; exact this
theorem LR.nil (B : Nat) (w : World) (U : Rl) : LR B w U (.slice none 0 0) [] := ⟨ξX w B _ 1, Im.nil U 0⟩
theorem LR.lt {B : Nat} {w : World} {U : Rl} {v : Value} {l : List Int} (h : LR B w U v l) : ∀ k, v.ownBlock = some k → B ≤ k ∧ k < w.heap.size := h.1.lt
theorem cE {w w' : World} {B size n : Nat} {e : TypeId} {v : Value} {xs : List Value} (h : w.ownsRow B e size v n xs) (hk : BQ w w' v) : w'.ownsRow B e size v n xs := by
 refine ⟨h.1, ?_⟩;rcases h.2 with hn | ⟨g, cap, cur, rfl, hb, hgg, rest⟩
 · exact .inl hn
 · exact .inr ⟨g, cap, cur, rfl, hb, (hk g rfl).trans hgg, rest⟩
theorem LR.step {B : Nat} {w w' : World} {U U' : Rl} {v : Value} {l : List Int} (h : LR B w U v l) (hf : Fr w U w' U') : LR B w' U' v l :=
 ⟨cE h.1 fun k e => hf.keep k (h.lt k e).2 (h.2 k e), fun k e => hf.sub k (h.lt k e).2 (h.2 k e)⟩
theorem LR.alloc {B : Nat} {w : World} {U : Rl} {v : Value} {l : List Int} (h : LR B w U v l) (o : Obj) : LR B (w.alloc o) U v l := ⟨h.1.alloc o, h.2⟩
theorem LR.lit {B : Nat} {w : World} {U : Rl} (l : List Int) (cs : Array Value) (hc : cs = (l.map (Value.int .i64)).toArray) (hB : B ≤ w.heap.size) (hu : U w.heap.size = 0) (hl : l.length ≤ maxLen) :
 LR B (w.alloc (.cells cs 3)) U (.slice (some ⟨w.heap.size, 0, none⟩) l.length l.length) l := by
 subst hc;refine ⟨⟨by simp, .inr ⟨w.heap.size, l.length, _, rfl, hB, ψe w _, ξF _, hl, by simp, ?_⟩⟩, fun k e => ?_⟩
 · simp; exact List.take_of_length_le (by simp)
 · simp [Value.ownBlock] at e; subst e; exact hu
def fxV (f : Fx) : Value := .agg #[.int .i64 f.level, .bool f.right, .bool f.infx]
def fxD (f : Fx) : DataW Unit := .agg [.lit (.int .i64 f.level), .lit (.bool f.right), .lit (.bool f.infx)]
def fxL : List Value → Option (DataW Unit × List MemPlace)
 | [.int .i64 a, .bool r, .bool i] => some (.agg [.lit (.int .i64 a), .lit (.bool r), .lit (.bool i)], [])
 | _ => none
def kS : Value → Option (DataW Unit × List MemPlace)
 | .agg cs => fxL cs.toList
 | _ => none
theorem sx (f : Fx) : kS (fxV f) = some (fxD f, []) := rfl
theorem CM {v : Value} {f : Fx} {ps : List MemPlace} (h : kS v = some (fxD f, ps)) : v = fxV f := by
 cases v with
 | agg cs =>
  obtain ⟨l⟩ := cs;simp only [kS] at h;unfold fxL at h;split at h
  · simp only [fxD, ξO, ξP, DataW.agg.injEq, List.cons.injEq, DataW.lit.injEq, Lit.int.injEq, Lit.bool.injEq, true_and, and_true] at h;obtain ⟨⟨h1, h2, h3⟩, _⟩ := h;simp only [fxV, ← h1, ← h2, ← h3]
  · cases h
 | _ => simp [kS] at h
def NmD (D : DataW Unit) (nm : Names) : Prop := ∀ s : Bytes, Go.Maps.has D (.string s) = (eO s nm).isSome ∧ D.atKey (.string s) (fxD Hf) = fxD ((eO s nm).getD Hf)
def NmS (w : World) (m : Nat) (nm : Names) : Prop := ∃ D, w.ownsMap Tryz.prog 9 kS m nm.length D ∧ NmD D nm
def ScS (w : World) (U : Rl) : List Nat → List Names → Prop
 | [q], [nm] => U q = 4 ∧ ∃ m, w.heap[q]? = some (.cells #[.pointer none, .map (some m)] 107 (0, 0)) ∧ U m = 5 ∧ NmS w m nm
 | q :: q2 :: qs, nm :: n2 :: r => U q = 4 ∧ ∃ o m, w.heap[q]? = some (.cells #[.pointer (some ⟨o, 0, none⟩), .map (some m)] 107 (0, 0)) ∧ U o = 4 ∧
  w.heap[o]? = some (.cells #[.pointer (some ⟨q2, 0, none⟩)] 182 (0, 0)) ∧ U m = 6 + r.length ∧ NmS w m nm ∧ ScS w U (q2 :: qs) (n2 :: r)
 | _, _ => False
theorem NmS.keep {w w' : World} {m : Nat} {nm : Names} (h : NmS w m nm) (hk : w'.heap[m]? = w.heap[m]?) : NmS w' m nm := by
 obtain ⟨D, ⟨es, clock, hb, F, hs, hD⟩, hn⟩ := h;exact ⟨D, ⟨es, clock, hk.trans hb, F, hs, hD⟩, hn⟩
theorem ScS.keep {w w' : World} {U U' : Rl} : ∀ {qs : List Nat} {sc : List Names}, (∀ k, 4 ≤ U k → U k < 5 + sc.length → w'.heap[k]? = w.heap[k]? ∧ U' k = U k) → ScS w U qs sc → ScS w' U' qs sc
 | [], _, _, h => by unfold ScS at h; exact h.elim
 | [q], [], _, h => by unfold ScS at h; exact h.elim
 | [q], [nm], hk, h => by
  unfold ScS at h ⊢;obtain ⟨hq, m, h1, h2, h3⟩ := h;have k1 := hk q (by omega) (by rw [hq]; simp);have k2 := hk m (by omega) (by rw [h2]; simp);exact ⟨k1.2.trans hq, m, k1.1.trans h1, k2.2.trans h2, h3.keep k2.1⟩
 | [q], _ :: _ :: _, _, h => by unfold ScS at h; exact h.elim
 | q :: q2 :: qs, [], _, h => by unfold ScS at h; exact h.elim
 | q :: q2 :: qs, [_], _, h => by unfold ScS at h; exact h.elim
 | q :: q2 :: qs, nm :: n2 :: r, hk, h => by
  unfold ScS at h ⊢;obtain ⟨hq, o, m, h1, h4, h5, h2, h3, h6⟩ := h;simp only [ξ2] at hk;have k1 := hk q (by omega) (by omega);have k2 := hk m (by omega) (by omega);have k3 := hk o (by omega) (by omega);exact ⟨k1.2.trans hq, o, m, k1.1.trans h1, k3.2.trans h4, k3.1.trans h5, k2.2.trans h2, h3.keep k2.1, ScS.keep (fun k a b => hk k a (by simp at b; omega)) h6⟩
theorem ScS.len {w : World} {U : Rl} : ∀ {qs : List Nat} {sc : List Names}, ScS w U qs sc → qs.length = sc.length ∧ sc ≠ []
 | [], _, h => by unfold ScS at h; exact h.elim
 | [q], [], h => by unfold ScS at h; exact h.elim
 | [q], [nm], h => by simp
 | [q], _ :: _ :: _, h => by unfold ScS at h; exact h.elim
 | q :: q2 :: qs, [], h => by unfold ScS at h; exact h.elim
 | q :: q2 :: qs, [_], h => by unfold ScS at h; exact h.elim
 | q :: q2 :: qs, nm :: n2 :: r, h => by
  unfold ScS at h;obtain ⟨hq, o, m, h1, h4, h5, h2, h3, h6⟩ := h;have := ScS.len h6;simp only [ξ2] at this ⊢;exact ⟨by omega, by simp⟩
structure Tks (w0 : World) (tv : Value) (ts : List Tok) : Prop where
 tok : TkS w0 tv ts
 len : ts.length ≤ 4398046511104
 int : ∀ t ∈ ts, t.kind = 4 → t.text ≠ []
 siz : ∀ t ∈ ts, t.text.length ≤ 17592186044416
 pth : ∀ t ∈ ts, t.path.length ≤ 1099511627776
def qsV : List Nat → Value
 | [] => .pointer none
 | q :: _ => .pointer (some ⟨q, 0, none⟩)
structure TSm (w0 : World) (tv : Value) (ts : List Tok) (b : Nat) (qs : List Nat) (w : World) (U : Rl) (st : PS) (nv dv : Value) (xs : List Value) : Prop where
 base : Below w0.heap.size w0 w
 hi : ∀ k, U k ≠ 0 → w0.heap.size ≤ k ∧ k < w.heap.size
 ub : U b = 1
 blk : w.heap[b]? = some (.cells #[tv, .int .i64 st.pos, nv, dv, .int .i64 st.opn, qsV qs] 76 (0, 0))
 nrow : w.ownsRow w0.heap.size 41 6 nv st.nodes.length xs
 nds : NdS w U st.nodes xs
 nim : Im U nv 2
 drow : w.ownsRow w0.heap.size 3 1 dv st.deep.length (st.deep.map fun d => Value.int .i64 (d : Nat))
 dim : Im U dv 3
 sc : ScS w U qs st.sc
 deep : st.deep.length ≤ 262144
 pos : st.pos ≤ ts.length
 opn : st.opn ≤ 1001
 many : st.nodes.length ≤ 262144
 dle : ∀ d ∈ st.deep, d ≤ 1000
 fz : ∀ k, U k = 4 → Fz w k
def TSt (w0 : World) (tv : Value) (ts : List Tok) (b : Nat) (qs : List Nat) (w : World) (U : Rl) (st : PS) : Prop := ∃ nv dv xs, TSm w0 tv ts b qs w U st nv dv xs
section
variable {w0 : World} {tv : Value} {ts : List Tok} {b : Nat} {qs : List Nat} {w : World} {U : Rl} {st : PS} {nv dv : Value} {xs : List Value}
theorem TSt.base (h : TSt w0 tv ts b qs w U st) : Below w0.heap.size w0 w := let ⟨_, _, _, k⟩ := h; k.base
theorem TSt.hi (h : TSt w0 tv ts b qs w U st) : ∀ k, U k ≠ 0 → w0.heap.size ≤ k ∧ k < w.heap.size := let ⟨_, _, _, k⟩ := h; k.hi
theorem TSt.ub (h : TSt w0 tv ts b qs w U st) : U b = 1 := let ⟨_, _, _, k⟩ := h; k.ub
theorem TSt.sc (h : TSt w0 tv ts b qs w U st) : ScS w U qs st.sc := let ⟨_, _, _, k⟩ := h; k.sc
theorem TSt.pos (h : TSt w0 tv ts b qs w U st) : st.pos ≤ ts.length := let ⟨_, _, _, k⟩ := h; k.pos
theorem TSt.opn (h : TSt w0 tv ts b qs w U st) : st.opn ≤ 1001 := let ⟨_, _, _, k⟩ := h; k.opn
theorem TSt.many (h : TSt w0 tv ts b qs w U st) : st.nodes.length ≤ 262144 := let ⟨_, _, _, k⟩ := h; k.many
theorem TSt.zero (h : TSt w0 tv ts b qs w U st) {k : Nat} (hk : w.heap.size ≤ k) : U k = 0 := by
 rcases Nat.eq_zero_or_pos (U k) with h0 | h0
 · exact h0
 · have := (h.hi k (by omega)).2; omega
theorem TSm.same {w' : World} (h : TSm w0 tv ts b qs w U st nv dv xs) (hb : Below w0.heap.size w w') (hk : ∀ k, U k ≠ 0 → w'.heap[k]? = w.heap[k]?) : TSm w0 tv ts b qs w' U st nv dv xs := by
 have hsz := hb.size;exact ⟨h.base.trans hb, fun k hu => ⟨(h.hi k hu).1, ξH (h.hi k hu).2 hsz⟩, h.ub,
  (hk b (by rw [h.ub]; decide)).trans h.blk, cE h.nrow (fun k e => hk k (by rw [h.nim k e]; decide)), h.nds.keep (fun k e => ⟨hk k (by rw [e]; decide), e⟩), h.nim, cE h.drow (fun k e => hk k (by rw [h.dim k e]; decide)), h.dim,
  h.sc.keep (fun k e _ => ⟨hk k (by omega), rfl⟩), h.deep, h.pos, h.opn, h.many, h.dle, fun k e => (h.fz k e).keep (hk k (by rw [e]; decide))⟩
theorem TSm.alloc (h : TSm w0 tv ts b qs w U st nv dv xs) (o : Obj) : TSm w0 tv ts b qs (w.alloc o) U st nv dv xs :=
 h.same ((ξf _ w).alloc h.base.size o) fun k hu => ξe w o k (h.hi k hu).2
theorem TSm.below (h : TSm w0 tv ts b qs w U st nv dv xs) {w' : World} (hb : Below w.heap.size w w') : TSm w0 tv ts b qs w' U st nv dv xs :=
 h.same (hb.mono h.base.size) fun k hu => hb.block k (h.hi k hu).2
theorem TSt.same {w' : World} (h : TSt w0 tv ts b qs w U st) (hb : Below w0.heap.size w w') (hk : ∀ k, U k ≠ 0 → w'.heap[k]? = w.heap[k]?) : TSt w0 tv ts b qs w' U st :=
 let ⟨_, _, _, k⟩ := h; ⟨_, _, _, k.same hb hk⟩
theorem TSt.below (h : TSt w0 tv ts b qs w U st) {w' : World} (hb : Below w.heap.size w w') : TSt w0 tv ts b qs w' U st := let ⟨_, _, _, k⟩ := h; ⟨_, _, _, k.below hb⟩
theorem TSt.alloc (h : TSt w0 tv ts b qs w U st) (o : Obj) : TSt w0 tv ts b qs (w.alloc o) U st := let ⟨_, _, _, k⟩ := h; ⟨_, _, _, k.alloc o⟩
theorem TSt.drewN (h : TSt w0 tv ts b qs w U st) (n : Nat) : TSt w0 tv ts b qs (w.drewN n) U st := h.same ⟨rfl, rfl, rfl, ξF _, fun _ _ => rfl⟩ fun _ _ => rfl
theorem TSt.drew (h : TSt w0 tv ts b qs w U st) : TSt w0 tv ts b qs w.drew U st := h.same ⟨rfl, rfl, rfl, ξF _, fun _ _ => rfl⟩ fun _ _ => rfl
theorem TSt.grown {w' : World} {row : Option Nat} (h : TSt w0 tv ts b qs w U st) (hg : w.grownBy w' row) (hr : ∀ k, row = some k → w0.heap.size ≤ k ∧ U k = 0) : TSt w0 tv ts b qs w' U st :=
 h.same ((ξf _ w).grown hg h.base.size fun k e => (hr k e).1) fun k hu => hg.block k (h.hi k hu).2 fun e => hu (hr k e.symm).2
theorem TSt.off (h : TSt w0 tv ts b qs w U st) {p : Addr} (hp : w0.heap.size ≤ p.block) (hu : U p.block = 0) (x : Value) : TSt w0 tv ts b qs (w.setCell p x) U st :=
 h.same ((ξf _ w).setCell hp x) fun k hk => ψf w p k x (by rintro rfl; exact hk hu)
theorem TSt.take {k r : Nat} (h : TSt w0 tv ts b qs w U st) (hk : U k = 0) (hl : w0.heap.size ≤ k ∧ k < w.heap.size) (hz : r = 4 → Fz w k) : TSt w0 tv ts b qs w (U.set k r) st := by
 obtain ⟨nv, dv, xs, h⟩ := h;have hs : ∀ i, U i ≠ 0 → U.set k r i = U i := fun i hi => Rl.set_other (by rintro rfl; exact hi hk);refine ⟨nv, dv, xs, h.base, fun i hi => ?_, (hs b (by rw [h.ub]; decide)).trans h.ub, h.blk, h.nrow,
  h.nds.keep (fun i e => ⟨rfl, (hs i (by rw [e]; decide)).trans e⟩), fun i e => (hs i (by rw [h.nim i e]; decide)).trans (h.nim i e), h.drow, fun i e => (hs i (by rw [h.dim i e]; decide)).trans (h.dim i e),
  h.sc.keep (fun i e _ => ⟨rfl, hs i (by omega)⟩), h.deep, h.pos, h.opn, h.many, h.dle, fun i e => ?_⟩
 · by_cases hik : i = k
   · subst hik; exact hl
   · rw [Rl.set_other hik] at hi; exact h.hi i hi
 · by_cases hik : i = k
   · subst hik; rw [Rl.set_same] at e; exact hz e
   · rw [Rl.set_other hik] at e; exact h.fz i e
theorem TSt.give {B r : Nat} {v : Value} {l : List Int} (h : TSt w0 tv ts b qs w U st) (hv : LR B w U v l) (hB : w0.heap.size ≤ B) : TSt w0 tv ts b qs w (U.give v r) st := by
 unfold Rl.give;cases hb : v.ownBlock with
 | none => exact h
 | some k => exact h.take (hv.2 k hb) ⟨ξG hB (hv.lt k hb).1, (hv.lt k hb).2⟩ fun _ => Fz.row hv.1 k hb
theorem ru {w : World} {b : Nat} {T : TypeId} {v0 v1 v2 v3 v4 v5 : Value} (h : w.heap[b]? = some (.cells #[v0, v1, v2, v3, v4, v5] T (0, 0))) (x : Value) :
 (w.setCell ⟨b, 1, none⟩ x).heap[b]? = some (.cells #[v0, x, v2, v3, v4, v5] T (0, 0)) ∧ (w.setCell ⟨b, 2, none⟩ x).heap[b]? = some (.cells #[v0, v1, x, v3, v4, v5] T (0, 0)) ∧
 (w.setCell ⟨b, 3, none⟩ x).heap[b]? = some (.cells #[v0, v1, v2, x, v4, v5] T (0, 0)) ∧ (w.setCell ⟨b, 4, none⟩ x).heap[b]? = some (.cells #[v0, v1, v2, v3, x, v5] T (0, 0)) ∧
 (w.setCell ⟨b, 5, none⟩ x).heap[b]? = some (.cells #[v0, v1, v2, v3, v4, x] T (0, 0)) :=
 ⟨ψg w b 1 _ T x h, ψg w b 2 _ T x h, ψg w b 3 _ T x h, ψg w b 4 _ T x h, ψg w b 5 _ T x h⟩
theorem TSt.turn {w' : World} {qs' : List Nat} {st' : PS} (h : TSt w0 tv ts b qs w U st) (hb : Below w0.heap.size w w') (hk : ∀ k, U k ≠ 0 → k ≠ b → w'.heap[k]? = w.heap[k]?)
 (hm : ∀ nv dv, w.heap[b]? = some (.cells #[tv, .int .i64 st.pos, nv, dv, .int .i64 st.opn, qsV qs] 76 (0, 0)) →
  w'.heap[b]? = some (.cells #[tv, .int .i64 st'.pos, nv, dv, .int .i64 st'.opn, qsV qs'] 76 (0, 0)))
 (hn : st'.nodes = st.nodes) (hd : st'.deep = st.deep) (hs : ScS w' U qs' st'.sc) (hp : st'.pos ≤ ts.length) (ho : st'.opn ≤ 1001) : TSt w0 tv ts b qs' w' U st' := by
 obtain ⟨nv, dv, xs, h⟩ := h;have hub := h.ub;have hne : ∀ (k r : Nat), 1 < r → U k = r → k ≠ b := by rintro k r hr hk rfl; omega
 have hsz := hb.size;refine ⟨nv, dv, xs, h.base.trans hb, fun k hu => ⟨(h.hi k hu).1, ξH (h.hi k hu).2 hsz⟩, h.ub,
  hm nv dv h.blk, ?_, ?_, h.nim, ?_, h.dim, hs, by rw [hd]; exact h.deep, hp, ho, by rw [hn]; exact h.many, by rw [hd]; exact h.dle, fun k e => (h.fz k e).keep (hk k (by rw [e]; decide) (hne k 4 (by decide) e))⟩
 · rw [hn]; exact cE h.nrow (fun k e => hk k (by rw [h.nim k e]; decide) (hne k 2 (by decide) (h.nim k e)))
 · rw [hn]; exact h.nds.keep (fun k e => ⟨hk k (by rw [e]; decide) (hne k 4 (by decide) e), e⟩)
 · rw [hd]; exact cE h.drow (fun k e => hk k (by rw [h.dim k e]; decide) (hne k 3 (by decide) (h.dim k e)))
theorem TSt.bb (h : TSt w0 tv ts b qs w U st) : w0.heap.size ≤ b ∧ b < w.heap.size := h.hi b (by rw [h.ub]; decide)
theorem TSt.setPos (h : TSt w0 tv ts b qs w U st) (n : Nat) (hn : n ≤ ts.length) : TSt w0 tv ts b qs (w.setCell ⟨b, 1, none⟩ (.int .i64 n)) U { st with pos := n } := by
 have hub := h.ub;refine h.turn ((ξf _ w).setCell h.bb.1 _) (fun k _ hk => ψf w _ k _ hk) (fun nv dv h1 => (ru h1 _).1) rfl rfl ?_ hn h.opn;exact h.sc.keep (fun k e _ => ⟨ψf w _ k _ (by rintro rfl; omega), rfl⟩)
theorem TSt.setOpn (h : TSt w0 tv ts b qs w U st) (n : Nat) (hn : n ≤ 1001) : TSt w0 tv ts b qs (w.setCell ⟨b, 4, none⟩ (.int .i64 n)) U { st with opn := n } := by
 have hub := h.ub;refine h.turn ((ξf _ w).setCell h.bb.1 _) (fun k _ hk => ψf w _ k _ hk) (fun nv dv h1 => (ru h1 _).2.2.2.1) rfl rfl ?_ h.pos hn;exact h.sc.keep (fun k e _ => ⟨ψf w _ k _ (by rintro rfl; omega), rfl⟩)
theorem TSt.setIn (h : TSt w0 tv ts b qs w U st) {qs' : List Nat} {sc : List Names} (hs : ScS w U qs' sc) : TSt w0 tv ts b qs' (w.setCell ⟨b, 5, none⟩ (qsV qs')) U { st with sc := sc } := by
 have hub := h.ub;refine h.turn ((ξf _ w).setCell h.bb.1 _) (fun k _ hk => ψf w _ k _ hk) (fun nv dv h1 => (ru h1 _).2.2.2.2) rfl rfl ?_ h.pos h.opn;exact hs.keep (fun k e _ => ⟨ψf w _ k _ (by rintro rfl; omega), rfl⟩)
theorem TSt.frame (h : TSt w0 tv ts b qs w U st) (i : Nat) (x : Value) : Fr w U (w.setCell ⟨b, i, none⟩ x) U :=
 (Fr.refl w U).setCell (p := ⟨b, i, none⟩) (.inr (by rw [show U (⟨b, i, none⟩ : Addr).block = 1 from h.ub]; decide)) x
theorem TSt.reads (h : TSt w0 tv ts b qs w U st) : ∃ nv dv, w.cell? ⟨b, 0, none⟩ = some tv ∧ w.cell? ⟨b, 1, none⟩ = some (.int .i64 st.pos) ∧ w.cell? ⟨b, 2, none⟩ = some nv ∧ w.cell? ⟨b, 3, none⟩ = some dv ∧
 w.cell? ⟨b, 4, none⟩ = some (.int .i64 st.opn) ∧ w.cell? ⟨b, 5, none⟩ = some (qsV qs) ∧ (∀ i, w.frozen? ⟨b, i, none⟩ = false) := by
 obtain ⟨nv, dv, xs, h1⟩ := h;replace h1 := h1.blk;refine ⟨nv, dv, ?_, ?_, ?_, ?_, ?_, ?_, fun i => frozen_of_row w b i _ _ h1⟩ <;> simp [World.cell?, h1]
abbrev zV (l c : Int) (k : Nat) : Ending := .panicked [{ v := .iface 70 (.agg #[.int .i64 l, .int .i64 c, .int .i64 k]), recovered := false }]
def aG (w0 : World) (tv : Value) (ts : List Tok) (b : Nat) (qs : List Nat) {α : Type} (V : α → Value → World → Rl → Prop) (R : Except Flt (α × PS)) (w : World) (U : Rl) (e : Ending) (w' : World) : Prop :=
 match R with
 | .ok x => ∃ v U', e = .returned v ∧ V x.1 v w' U' ∧ TSt w0 tv ts b qs w' U' x.2 ∧ Fr w U w' U'
 | .error (.stop l c k) => e = zV l c k ∧ Below w0.heap.size w0 w'
 | .error .out => False
theorem aG.step {α β : Type} {V : α → Value → World → Rl → Prop} {m : M α} {f : α → M β} {R : Except Flt (β × PS)} {e : Ending} {w' : World} (h : aG w0 tv ts b qs V (m st) w U e w') (HR : R = (m >>= f) st) :
 (∃ x st' v U', e = .returned v ∧ V x v w' U' ∧ TSt w0 tv ts b qs w' U' st' ∧ Fr w U w' U' ∧ R = f x st') ∨
 (∃ l c k, e = zV l c k ∧ Below w0.heap.size w0 w' ∧ R = .error (.stop l c k)) := by
 unfold aG at h;cases hm : m st with
 | ok x =>
  rw [hm] at h;obtain ⟨v, U', h1, h2, h3, h4⟩ := h;exact .inl ⟨x.1, x.2, v, U', h1, h2, h3, h4, HR.trans (bind_ok hm)⟩
 | error g =>
  rw [hm] at h;cases g with
  | out => exact h.elim
  | stop l c k => exact .inr ⟨l, c, k, h.1, h.2, HR.trans (dB hm)⟩
theorem aC {α β : Type} {m : M α} {f : α → M β} {R : Except Flt (β × PS)} (HR : R = (m >>= f) st) (hne : R ≠ .error .out) : m st ≠ .error .out := fun h => hne (HR.trans (dB h))
theorem aG.good {α : Type} {V : α → Value → World → Rl → Prop} {R : Except Flt (α × PS)} {e : Ending} {w' : World} {x : α} {v : Value} {st' : PS} {U' : Rl} (hR : R = .ok (x, st')) (he : e = .returned v) (hv : V x v w' U') (hp : TSt w0 tv ts b qs w' U' st') (hf : Fr w U w' U') :
 aG w0 tv ts b qs V R w U e w' := by subst hR; exact ⟨v, U', he, hv, hp, hf⟩
theorem aG.bad {α : Type} {V : α → Value → World → Rl → Prop} {R : Except Flt (α × PS)} {e : Ending} {w' : World} {l c : Int} {k : Nat} (hR : R = .error (.stop l c k)) (he : e = zV l c k) (hb : Below w0.heap.size w0 w') :
 aG w0 tv ts b qs V R w U e w' := by subst hR; exact ⟨he, hb⟩
def idR (i : Nat) (v : Value) (_ : World) (_ : Rl) : Prop := v = .int .i64 (i : Nat)
def I7 (_ : Unit) (v : Value) (_ : World) (_ : Rl) : Prop := v = .tuple #[]
def Mr (x : Bool) (v : Value) (_ : World) (_ : Rl) : Prop := v = .bool x
def M7 (x : Bytes) (v : Value) (_ : World) (_ : Rl) : Prop := v = str x
def Mh (B : Nat) (l : List Nat) (v : Value) (w : World) (U : Rl) : Prop := LR B w U v (l.map Int.ofNat) ∧ l.length ≤ 1099511627776
end
def tkV (t : Tok) (pv : Value) : Value := .agg #[.int .i64 t.kind, str t.text, pv, .int .i64 t.line, .int .i64 t.col]
def dc (s : Int × Int) : Value := .agg #[.int .i64 s.1, .int .i64 s.2]
abbrev bL (b : Nat) : Value := .pointer (some ⟨b, 0, none⟩)
section
variable {w0 : World} {tv : Value} {ts : List Tok} {b : Nat} {qs : List Nat} {w : World} {U : Rl} {st : PS}
theorem Fr.below {w w' w'' : World} {U U' : Rl} (h : Fr w U w' U') (hb : Below w'.heap.size w' w'') : Fr w U w'' U' :=
 ⟨hb.os.trans h.os, hb.tape.trans h.tape, hb.output.trans h.output, ξG h.size hb.size, fun k hk hu => (hb.block k (ξH hk h.size)).trans (h.keep k hk hu), h.sub⟩
theorem bQ {w W : World} (h : Below w.heap.size w W) (o : Obj) : Below w.heap.size w (W.alloc o) := h.alloc h.size o
theorem iK {w W : World} (h : Below w.heap.size w W) (n : Nat) : Below w.heap.size w (W.drewN n) := ⟨h.os, h.tape, h.output, h.size, h.block⟩
theorem jZ {w W : World} (h : Below w.heap.size w W) : Below w.heap.size w W.drew := ⟨h.os, h.tape, h.output, h.size, h.block⟩
theorem jJ {w W : World} (h : Below w.heap.size w W) {p : Addr} (hk : w.heap.size ≤ p.block) (x : Value) : Below w.heap.size w (W.setCell p x) := h.setCell hk x
theorem aU (HT : Tks w0 tv ts) (hp : TSt w0 tv ts b qs w U st) (k : Nat) (hk : k ≤ 4) :
 Calls Tryz.prog 59 #[bL b, .int .i64 k] w fun e w' => (∃ pv, e = .returned (tkV (aB ts k st) pv) ∧ Strs w0 pv (aB ts k st).path) ∧ Below w.heap.size w w' := by
 obtain ⟨a, cap, rfl, hl⟩ := HT.tok;obtain ⟨nv, dv, c0, c1, -, -, -, -, -⟩ := hp.reads;have hpos := hp.pos;have hlen := HT.len;have d0 := ay c0;have d1 := ay c1;have HB := κ hp.base;by_cases hlt : st.pos + k < ts.length
 · obtain ⟨u, hu⟩ : ∃ u, ts[st.pos + k]? = some u := ⟨_, ξw hlt⟩;have HU := κ (show aB ts k st = u by unfold aB; simp [List.getD, hu]);obtain ⟨bt, off, rfl, hx⟩ := hl (by rintro rfl; simp at hlt);obtain ⟨pv, hs, hc⟩ := hx _ u hu;obtain ⟨a2, cap2, rfl, _⟩ := id hs;have hc' : ∀ (j : Nat) x q, (fV u (.slice a2 u.path.length cap2))[j]? = some x → q = off + (5 * (st.pos + k) + j) → ∀ o, (w.alloc o).cell? ⟨bt, q, none⟩ = some x := fun j x q hj hq o => by
    subst hq; exact ay (cell_later HB.out (hc j x hj)) o
   have e0 := hc' 0 _ (off + (st.pos + k) * 5) rfl (by omega);have e1 := hc' 1 _ (off + (st.pos + k) * 5 + 1) rfl (by omega);have e2 := hc' 2 _ (off + (st.pos + k) * 5 + 2) rfl (by omega);have e3 := hc' 3 _ (off + (st.pos + k) * 5 + 3) rfl (by omega);have e4 := hc' 4 _ (off + (st.pos + k) * 5 + 4) rfl (by omega);have HS := κ hs;clear hc hc' hx hs hu hl c0 c1;have hlt' : (st.pos : Int) + k < ts.length := by omega
   go_enter Tryz.func59, Tryz.ntmps59;go_wp2
   go_quiet (fail);go_wp2
   go_region;go_wp2
   refine ψb (by simp [results, Tryz.results59, go_sem]; exact rfl) rfl ?_;exact ⟨⟨_, by rw [HU.out]; rfl, by rw [HU.out]; exact HS.out⟩, by (repeat (first | with_reducible exact ξf _ _ | with_reducible refine bQ ?_ _ | with_reducible refine iK ?_ _ | with_reducible refine jZ ?_ | (with_reducible refine jJ ?_ (by first | exact ξF _ | omega | (simp; done) | (simp; omega)) _) | assumption))⟩
 · have HU := κ (show aB ts k st = qq by unfold aB; simp [List.getD, ξx (show ts.length ≤ st.pos + k by omega)]);have hlt' : ¬ (st.pos : Int) + k < ts.length := by omega
   clear hl;go_enter Tryz.func59, Tryz.ntmps59;go_wp2
   go_quiet (fail);go_wp2
   refine ψb (by simp [results, Tryz.results59, go_sem]; exact rfl) rfl ?_;exact ⟨⟨_, by rw [HU.out]; rfl, by rw [HU.out]; exact Strs.nil _⟩, by (repeat (first | with_reducible exact ξf _ _ | with_reducible refine bQ ?_ _ | with_reducible refine iK ?_ _ | with_reducible refine jZ ?_ | (with_reducible refine jJ ?_ (by first | exact ξF _ | omega | (simp; done) | (simp; omega)) _) | assumption))⟩
theorem Rk {p : Prop} (h : p := by
 go_wp2
 go_region;go_wp2
 refine ψb (by simp [results, Tryz.results56, go_sem]; exact rfl) rfl ?_;exact ⟨by rw [HU.out]; rfl, by (repeat (first | with_reducible exact ξf _ _ | with_reducible refine bQ ?_ _ | with_reducible refine iK ?_ _ | with_reducible refine jZ ?_ | (with_reducible refine jJ ?_ (by first | exact ξF _ | omega | (simp; done) | (simp; omega)) _) | assumption))⟩
 ) : p := h
theorem aY (HT : Tks w0 tv ts) (hp : TSt w0 tv ts b qs w U st) :
 Calls Tryz.prog 56 #[bL b] w fun e w' => e = .returned (dc (ak ts st)) ∧ Below w.heap.size w w' := by
 obtain ⟨a, cap, rfl, hl⟩ := HT.tok;obtain ⟨nv, dv, c0, c1, -, -, -, -, -⟩ := hp.reads;have hpos := hp.pos;have hlen := HT.len;have d0 := ay c0;have d1 := ay c1;have HB := κ hp.base;by_cases hz : ts.length = 0
 · have HU := κ (show ak ts st = (0, 0) by unfold ak; simp [ξx (show ts.length ≤ min st.pos (ts.length - 1) by omega)]);have hp0 : st.pos = 0 := by omega
   have d0' : ∀ o, (w.alloc o).cell? ⟨b, 0, none⟩ = some (.slice a 0 cap) := by rw [hz] at d0; exact d0
   have d1' : ∀ o, (w.alloc o).cell? ⟨b, 1, none⟩ = some (.int .i64 0) := by rw [hp0] at d1; exact d1
   clear hl d0 d1 c0 c1 hz hp0 hpos;go_enter Tryz.func56, Tryz.ntmps56;exact Rk
 · obtain ⟨i, hi⟩ : ∃ i, i = min st.pos (ts.length - 1) := ⟨_, rfl⟩;have hil : i < ts.length := by omega
   obtain ⟨u, hu⟩ : ∃ u, ts[i]? = some u := ⟨_, ξw hil⟩;have HU := κ (show ak ts st = (u.line, u.col) by unfold ak; rw [← hi, hu]);obtain ⟨bt, off, rfl, hx⟩ := hl (by rintro rfl; simp at hz);obtain ⟨pv, hs, hc⟩ := hx _ u hu;have hc' : ∀ (j : Nat) x q, (fV u pv)[j]? = some x → q = off + (5 * i + j) → ∀ o, (w.alloc o).cell? ⟨bt, q, none⟩ = some x := fun j x q hj hq o => by
    subst hq; exact ay (cell_later HB.out (hc j x hj)) o
   have e3 := hc' 3 _ (off + i * 5 + 3) rfl (by omega);have e4 := hc' 4 _ (off + i * 5 + 4) rfl (by omega);clear hc hc' hx hs hu hl c0 c1;by_cases hq : ts.length ≤ st.pos
   · obtain rfl : i = ts.length - 1 := by omega
     obtain ⟨n, hn⟩ : ∃ n, ts.length = n + 1 := ⟨ts.length - 1, by omega⟩;rw [hn] at d0 e3 e4 hq hlen;rw [show n + 1 - 1 = n by omega] at e3 e4;have hq' : min (st.pos : Int) (n : Int) = n := by omega
     clear hi hil hz hn hpos hq;go_enter Tryz.func56, Tryz.ntmps56;go_wp2
     go_region;exact Rk
   · obtain rfl : i = st.pos := by omega
     have hq' : min (st.pos : Int) ((ts.length : Int) - 1) = st.pos := by omega
     have hq2 : (st.pos : Int) < (ts.length : Int) := by omega
     clear hi hz hq;go_enter Tryz.func56, Tryz.ntmps56;go_wp2
     go_region;exact Rk
theorem fN (hp : TSt w0 tv ts b qs w U st) (i : Nat) (hi : i < st.nodes.length) :
 Calls Tryz.prog 135 #[bL b, .int .i64 i] w fun e w' => e = .returned (dc (ofP i st)) ∧ Below w.heap.size w w' := by
 obtain ⟨nv, dv, xs, hm⟩ := id hp;have h1 := hm.blk;have h2 := hm.nrow;have h3 := hm.nds;have hmany := hp.many;obtain ⟨n, hn⟩ : ∃ n, st.nodes[i]? = some n := ⟨_, ξw hi⟩;have HU := κ (show ofP i st = (n.line, n.col) by unfold ofP; rw [hn]);obtain ⟨pv, kv, -, -, -, -, hx⟩ := h3.at i n hn;rcases id h2.2 with ⟨rfl, h0⟩ | ⟨g, cap, cur, rfl, _, hcap⟩
 · omega
 · have c2 : w.cell? ⟨b, 2, none⟩ = some (.slice (some ⟨g, 0, none⟩) st.nodes.length cap) := by simp [World.cell?, h1]
   have hc : ∀ (j : Nat) x, (ji n pv kv)[j]? = some x → ∀ q, q = i * 6 + j → w.cell? ⟨g, q, none⟩ = some x := fun j x hj q hq => by
    have := h2.cells (g := g) rfl (6 * i + j) x (hx j x hj);rw [iA] at this;rw [hq, show i * 6 + j = 6 * i + j by omega]; exact this
   have d2 := ay c2;have e4 := ay (hc 4 _ rfl (i * 6 + 4) rfl);have e5 := ay (hc 5 _ rfl (i * 6 + 5) rfl);have hlt : (i : Int) < (st.nodes.length : Int) := by omega
   clear hc c2 hx hcap h2 h3 hn h1 hm;go_enter Tryz.func135, Tryz.ntmps135;go_wp2
   go_region;go_wp2
   refine ψb (by simp [results, Tryz.results135, go_sem]; exact rfl) rfl ?_;exact ⟨by rw [HU.out]; rfl, by (repeat (first | with_reducible exact ξf _ _ | with_reducible refine bQ ?_ _ | with_reducible refine iK ?_ _ | with_reducible refine jZ ?_ | (with_reducible refine jJ ?_ (by first | exact ξF _ | omega | (simp; done) | (simp; omega)) _) | assumption))⟩
theorem nI (s : Int × Int) (k : Nat) (w : World) :
 Calls Tryz.prog 64 #[bL b, dc s, .int .i64 k] w fun e w' => e = zV s.1 s.2 k ∧ Below w.heap.size w w' := by
 unfold dc;go_enter Tryz.func64, Tryz.ntmps64;go_wp2
 exact ⟨rfl, rfl, by (repeat (first | with_reducible exact ξf _ _ | with_reducible refine bQ ?_ _ | with_reducible refine iK ?_ _ | with_reducible refine jZ ?_ | (with_reducible refine jJ ?_ (by first | exact ξF _ | omega | (simp; done) | (simp; omega)) _) | assumption))⟩
theorem iT (HT : Tks w0 tv ts) (hp : TSt w0 tv ts b qs w U st) :
 Calls Tryz.prog 32 #[bL b] w fun e w' => e = zV (ak ts st).1 (ak ts st).2 50 ∧ Below w.heap.size w w' := by
 have HH := κ (aY HT hp);go_enter Tryz.func32, Tryz.ntmps32;go_wp2_with fail;refine HH.mono ?_;rintro e w1 ⟨rfl, hb1⟩;have HB1 := κ hb1; clear hb1;go_wp2_with fail;refine (nI (ak ts st) 50 _).mono ?_;rintro e w2 ⟨rfl, hb2⟩;have HB2 := κ hb2; clear hb2;go_wp2_with fail;exact ⟨rfl, rfl, HB1.trans (HB2.mono HB1.size)⟩
end
section
variable {w0 : World} {tv : Value} {ts : List Tok} {b : Nat} {qs : List Nat} {w : World} {U : Rl} {st : PS}
theorem jv (HT : Tks w0 tv ts) (hp : TSt w0 tv ts b qs w U st) (hne : gB ts st ≠ .error .out) :
 Calls Tryz.prog 60 #[bL b] w (aG w0 tv ts b qs I7 (gB ts st) w U) := by
 obtain ⟨nv, dv, -, -, -, -, c4, -, hf⟩ := hp.reads;have hf4 := hf 4;have HP := κ (fun n hn => hp.setOpn n hn);have HF := κ (hp.frame 4);obtain ⟨R, hR⟩ : ∃ R, gB ts st = R := ⟨_, rfl⟩;rw [hR] at hne ⊢;unfold gB at hR;by_cases ho : 1000 < st.opn
 · rw [ψi ho] at hR; exact absurd hR.symm hne
 rw [ψh ho] at hR;by_cases hb : 1000 < st.opn + 1
 · rw [ψi hb] at hR;have HR := κ hR.symm; clear hR;obtain ⟨n, hn⟩ : ∃ n, st.opn = n := ⟨_, rfl⟩;rw [hn] at c4 hb ho;clear hn;have hb' : (1000 : Int) < (n : Int) + 1 := by omega
   go_enter Tryz.func60, Tryz.ntmps60;go_wp2_with fail;have HP1 := κ (HP (n + 1) (by omega));refine (aY HT HP1).mono ?_;rintro e w1 ⟨rfl, hb1⟩;have HB1 := κ hb1; clear hb1;go_wp2_with fail;refine (nI (ak ts st) 52 _).mono ?_;rintro e w2 ⟨rfl, hb2⟩;have HB2 := κ hb2; clear hb2;go_wp2_with fail;exact ⟨rfl, aG.bad HR rfl (HP1.base.trans ((HB1.trans (HB2.mono HB1.size)).mono HP1.base.size))⟩
 · rw [ψh hb] at hR;have HR := κ hR.symm; clear hR;have hb' : ¬ (1000 : Int) < (st.opn : Int) + 1 := by omega
   go_enter Tryz.func60, Tryz.ntmps60;go_wp2_with fail;go_end0
   exact aG.good HR rfl rfl (HP (st.opn + 1) (by omega)) (HF _)
theorem ij (hp : TSt w0 tv ts b qs w U st) (hne : dh st ≠ .error .out) :
 Calls Tryz.prog 62 #[bL b] w (aG w0 tv ts b qs I7 (dh st) w U) := by
 obtain ⟨nv, dv, -, -, -, -, c4, -, hf⟩ := hp.reads;have hf4 := hf 4;have HP := κ (fun n hn => hp.setOpn n hn);have HF := κ (hp.frame 4);have ho := hp.opn;obtain ⟨R, hR⟩ : ∃ R, dh st = R := ⟨_, rfl⟩;rw [hR] at hne ⊢;unfold dh at hR;by_cases h0 : st.opn = 0
 · rw [ψi h0] at hR; exact absurd hR.symm hne
 rw [ψh h0] at hR;obtain ⟨n, hn⟩ : ∃ n, st.opn = n + 1 := ⟨st.opn - 1, by omega⟩;rw [hn] at c4 hR ho;have HR := κ hR.symm; clear hR h0 hn;go_enter Tryz.func62, Tryz.ntmps62;go_wp2_with fail;go_end0
 exact aG.good HR rfl rfl (HP n (by omega)) (HF _)
theorem Rj {p : Prop} (h : p := by
 go_enter Tryz.func140, Tryz.ntmps140;go_wp2_with fail;go_ret;exact ⟨by rw [HN.out]; rfl, by (repeat (first | with_reducible exact ξf _ _ | with_reducible refine bQ ?_ _ | with_reducible refine iK ?_ _ | with_reducible refine jZ ?_ | (with_reducible refine jJ ?_ (by first | exact ξF _ | omega | (simp; done) | (simp; omega)) _) | assumption))⟩
 ) : p := h
theorem fD (t : Tok) (pv : Value) (w1 : World) (hs : Strs w1 pv t.path) :
 Calls Tryz.prog 140 #[tkV t pv] w fun e w' => e = .returned (.bool (cJ t)) ∧ Below w.heap.size w w' := by
 obtain ⟨a, cap, rfl, -⟩ := hs;unfold tkV;cases hk : t.kind == 2
 · have HN := κ (show cJ t = false by unfold cJ; rw [hk]; rfl);exact Rj
 · cases hp : t.path with
   | nil =>
    have HN := κ (show cJ t = true by unfold cJ; rw [hk, hp]; rfl);clear hp;exact Rj
   | cons x l =>
    have HN := κ (show cJ t = false by unfold cJ; rw [hk, hp]; rfl);have hl : ((l.length : Int) + 1 == 0) = false := by rw [ξY]; omega
    clear hp;exact Rj
theorem gq (HT : Tks w0 tv ts) (hp : TSt w0 tv ts b qs w U st) (k : Nat) (hk : k ≤ 3) (s : Bytes) :
 Calls Tryz.prog 95 #[bL b, .int .i64 k, str s] w fun e w' => e = .returned (.bool (isP ts k s st)) ∧ Below w.heap.size w w' := by
 have HK := κ (aU HT hp k (by omega));obtain ⟨P, hP⟩ : ∃ P, isP ts k s st = P := ⟨_, rfl⟩;rw [hP];unfold isP at hP;generalize aB ts k st = t at *;cases hk1 : t.kind == 1
 · rw [hk1] at hP;have HPP := κ hP.symm; clear hP;go_enter Tryz.func95, Tryz.ntmps95;go_wp2_with fail;refine HK.mono ?_;rintro e w1 ⟨⟨pv, rfl, hs⟩, hb1⟩;have HB1 := κ hb1; clear hb1;obtain ⟨a, cap, rfl, -⟩ := hs;unfold tkV;go_wp2_with fail;go_ret;exact ⟨by rw [HPP.out]; rfl, bQ HB1.out _⟩
 · rw [hk1] at hP;have HPP := κ hP.symm; clear hP;go_enter Tryz.func95, Tryz.ntmps95;go_wp2_with fail;refine HK.mono ?_;rintro e w1 ⟨⟨pv, rfl, hs⟩, hb1⟩;have HB1 := κ hb1; clear hb1;obtain ⟨a, cap, rfl, -⟩ := hs;unfold tkV;go_wp2_with fail;go_ret;exact ⟨by rw [HPP.out, Bool.true_and]; rfl, bQ HB1.out _⟩
theorem Mj {k : Nat} {s : Bytes} (h : isP ts k s st = true) : st.pos + k < ts.length := by
 unfold isP aB at h;rcases Nat.lt_or_ge (st.pos + k) ts.length with h1 | h1
 · exact h1
 · simp [List.getD, ξx h1, qq] at h
theorem Hh {k : Nat} (h : cJ (aB ts k st) = true) : st.pos + k < ts.length := by
 unfold cJ aB at h;rcases Nat.lt_or_ge (st.pos + k) ts.length with h1 | h1
 · exact h1
 · simp [List.getD, ξx h1, qq] at h
theorem aI (HT : Tks w0 tv ts) (hp : TSt w0 tv ts b qs w U st) (s : Bytes) :
 Calls Tryz.prog 57 #[bL b, str s] w (aG w0 tv ts b qs Mr (aX ts s st) w U) := by
 have HI := κ (gq HT hp 0 (by omega) s);have HP := κ hp;have hpos := hp.pos;have hlen := HT.len;obtain ⟨R, hR⟩ : ∃ R, aX ts s st = R := ⟨_, rfl⟩;rw [hR];unfold aX at hR;cases hB : isP ts 0 s st
 · rw [hB] at hR HI;have HR := κ hR.symm; clear hR;go_enter Tryz.func57, Tryz.ntmps57;go_wp2_with fail;refine HI.mono ?_;rintro e w1 ⟨rfl, hb1⟩;have HB1 := κ hb1; clear hb1;go_wp2_with fail;go_ret;exact aG.good HR rfl rfl (HP.below HB1) ((Fr.refl w U).below HB1)
 · have hlt := Mj hB;rw [hB] at hR HI;have HR := κ hR.symm; clear hR;go_enter Tryz.func57, Tryz.ntmps57;go_wp2_with fail;refine HI.mono ?_;rintro e w1 ⟨rfl, hb1⟩;have HP1 := κ (HP.below hb1);have HF1 := κ ((Fr.refl w U).below hb1);clear hb1;obtain ⟨nv, dv, -, c1, -, -, -, -, hf⟩ := HP1.reads;have hf1 := hf 1;go_wp2_with fail;go_ret;exact aG.good HR rfl rfl (HP1.setPos (st.pos + 1) (by omega)) (HF1.trans (HP1.frame 1 _))
theorem bf (HT : Tks w0 tv ts) (hp : TSt w0 tv ts b qs w U st) (s : Bytes) :
 Calls Tryz.prog 133 #[bL b, str s] w (aG w0 tv ts b qs I7 (bF ts s st) w U) := by
 have HI := κ (aI HT hp s);have HP := κ hp;obtain ⟨R, hR⟩ : ∃ R, bF ts s st = R := ⟨_, rfl⟩;rw [hR];unfold bF jK at hR;cases hB : isP ts 0 s st
 · rw [hB] at hR;unfold aX at HI;rw [hB] at HI;have HR := κ hR.symm; clear hR;go_enter Tryz.func133, Tryz.ntmps133;go_wp2_with fail;refine HI.mono ?_;rintro e w1 ⟨v, U1, rfl, rfl, hp1, hf1⟩;have HP1 := κ hp1; clear hp1 hf1;go_wp2_with fail;refine (iT HT HP1).mono ?_;rintro e w2 ⟨rfl, hb2⟩;have HB2 := κ hb2; clear hb2;go_wp2_with fail;exact ⟨rfl, aG.bad HR rfl (HP1.base.trans (HB2.mono HP1.base.size))⟩
 · rw [hB] at hR;unfold aX at HI;rw [hB] at HI;have HR := κ hR.symm; clear hR;go_enter Tryz.func133, Tryz.ntmps133;go_wp2_with fail;refine HI.mono ?_;rintro e w1 ⟨v, U1, rfl, rfl, hp1, hf1⟩;have HP1 := κ hp1; have HF1 := κ hf1; clear hp1 hf1
   go_wp2_with fail;go_end0
   exact aG.good HR rfl rfl HP1 HF1
end
theorem MI : Keyed Tryz.prog 9 := Go.Maps.string_keyed Tryz.underlying9
theorem K6 (w : World) : (zeroValue 102).run Tryz.prog w = .ok (fxV Hf) w := by kernel_rfl
theorem NmS.look {w : World} {m : Nat} {nm : Names} (h : NmS w m nm) (s : Bytes) (hs : s.length ≤ maxLen) :
 (Instr.lookup 104 (.map (some m)) (str s) true).run Tryz.prog w = .ok (.tuple #[fxV ((eO s nm).getD Hf), .bool (eO s nm).isSome]) w := by
 obtain ⟨D, ho, hn⟩ := h;obtain ⟨v, ps, hrun, hv⟩ := ho.look_ok MI Tryz.underlying104 (K6 w) (sx Hf) (key := str s) (kl := .string s) (Go.WideMaps.keyOf_string_mk Tryz.underlying9 hs);rw [(hn s).2] at hv;rw [(hn s).1] at hrun;rw [← CM hv];exact hrun
theorem kY {P : Program} {id : Nat} {Q : Exit → Act → World → Prop} {a : Act} {w : World} {l : List Oper} {T : Type} (f : T → World) (hm : P.follows .mixedOrders = true) (hB : Region.lexB .any l.toArray = true) (h0 : ∃ q, w.drew = f q)
 (h : wpQuiet P l.toArray (fun w' => ∃ q, w' = f q) (fun a' => ∀ w', (∃ q, w' = f q) → Q .normal a' w') l a) : (Code.region id l.toArray true).wp P Q a w :=
 wp_region_quiet (C := fun w' => ∃ q, w' = f q) hm hB h0 (by simpa using h)
theorem Ld (W0 : World) : ∃ (T : Type) (f : T → World), Nonempty T ∧ (∀ q, Below W0.heap.size W0 (f q)) ∧ (∀ W, Below W0.heap.size W0 W → ∃ q, W = f q) :=
 ⟨{W // Below W0.heap.size W0 W}, Subtype.val, ⟨⟨W0, ξf _ _⟩⟩, fun q => q.2, fun W hW => ⟨⟨W, hW⟩, rfl⟩⟩
theorem Le {W0 : World} {T : Type} {f : T → World} (hf : ∀ q, Below W0.heap.size W0 (f q)) (hs : ∀ W, Below W0.heap.size W0 W → ∃ q, W = f q) {P : Program} {F : FuncId} {args : Array Value} {v : Value}
 (h : ∀ W, Below W0.heap.size W0 W → Calls P F args W fun e w' => e = .returned v ∧ Below W.heap.size W w') (q : T) : Calls P F args (f q) fun e w' => e = .returned v ∧ ∃ q', w' = f q' :=
 (h (f q) (hf q)).mono fun _ w' hh => ⟨hh.1, hs w' ((hf q).trans (hh.2.mono (hf q).size))⟩
section
variable {w0 : World} {tv : Value} {ts : List Tok} {b : Nat} {qs : List Nat} {w : World} {U : Rl} {st : PS}
theorem ScS.head {w : World} {U : Rl} {qs : List Nat} {sc : List Names} (h : ScS w U qs sc) : ∃ q nm m, qs.head? = some q ∧ sc.head? = some nm ∧ qsV qs = .pointer (some ⟨q, 0, none⟩) ∧ w.cell? ⟨q, 1, none⟩ = some (.map (some m)) ∧ NmS w m nm ∧
 ((qs.tail = [] ∧ sc.tail = [] ∧ w.cell? ⟨q, 0, none⟩ = some (.pointer none)) ∨ (∃ o, w.cell? ⟨q, 0, none⟩ = some (.pointer (some ⟨o, 0, none⟩)) ∧ w.cell? ⟨o, 0, none⟩ = some (qsV qs.tail) ∧ ScS w U qs.tail sc.tail)) := by
 match qs, sc, h with
 | [], _, h => unfold ScS at h; exact h.elim
 | [q], [], h => unfold ScS at h; exact h.elim
 | [q], [nm], h =>
  unfold ScS at h;obtain ⟨_, m, h1, _, h3⟩ := h;exact ⟨q, nm, m, rfl, rfl, rfl, by simp [World.cell?, h1], h3, .inl ⟨rfl, rfl, by simp [World.cell?, h1]⟩⟩
 | [q], _ :: _ :: _, h => unfold ScS at h; exact h.elim
 | q :: q2 :: qs, [], h => unfold ScS at h; exact h.elim
 | q :: q2 :: qs, [_], h => unfold ScS at h; exact h.elim
 | q :: q2 :: qs, nm :: n2 :: r, h =>
  unfold ScS at h;obtain ⟨_, o, m, h1, _, h4, _, h3, h6⟩ := h;exact ⟨q, nm, m, rfl, rfl, rfl, by simp [World.cell?, h1], h3, .inr ⟨o, by simp [World.cell?, h1], by simp [World.cell?, h4, qsV], h6⟩⟩
theorem ScS.below {w w' : World} {U : Rl} {qs : List Nat} {sc : List Names} (h : ScS w U qs sc) (hb : Below w.heap.size w w') (hu : ∀ k, U k ≠ 0 → k < w.heap.size) : ScS w' U qs sc :=
 h.keep fun k e _ => ⟨hb.block k (hu k (by omega)), rfl⟩
theorem bO {W : World} {B : Nat} {T : TypeId} {cs : Array Value} (h : W.heap[B]? = some (.cells cs T (0, 0))) (j : Nat) (x : Value) (hx : cs[j]? = some x) : W.cell? ⟨B, j, none⟩ = some x := by
 simp [World.cell?, h, hx]
theorem M9 {wr : World} {B : Nat} {T : TypeId} {a0 a1 a2 : Value} (h : wr.heap[B]? = some (.cells #[a0, a1, a2] T (0, 0))) (v0 v1 v2 : Value) (o : Obj) :
 ((((wr.setCell ⟨B, 0, none⟩ v0).setCell ⟨B, 1, none⟩ v1).setCell ⟨B, 2, none⟩ v2).alloc o).heap[B]? = some (.cells #[v0, v1, v2] T (0, 0)) := by
 have h1 := ψg wr B 0 _ T v0 h;have h2 := ψg _ B 1 _ T v1 h1;have h3 := ψg _ B 2 _ T v2 h2;exact (ξe _ _ _ (ξd.1 h3).1).trans h3
theorem RV {p : Prop} (h : p := by
 have g0 := bO g 0 _ rfl;have g1 := bO g 1 _ rfl;have g2 := bO g 2 _ rfl;refine ψb (by simp [results, Tryz.results215, go_sem, g0, g1, g2]; exact rfl) rfl ?_;exact ⟨by rw [HR.out]; rfl, by (repeat (first | with_reducible exact ξf _ _ | with_reducible refine bQ ?_ _ | with_reducible refine iK ?_ _ | with_reducible refine jZ ?_ | (with_reducible refine jJ ?_ (by first | exact ξF _ | omega | (simp; done) | (simp; omega)) _) | assumption))⟩
 ) : p := h
theorem Hl (qs : List Nat) (sc : List Names) (w : World) (U : Rl) (h : ScS w U qs sc) (hu : ∀ k, U k ≠ 0 → k < w.heap.size) (s : Bytes) (hs : s.length ≤ maxLen) :
 Calls Tryz.prog 215 #[qsV qs, str s] w fun e w' => e = .returned (fxV (fP s sc)) ∧ Below w.heap.size w w' := by
 obtain ⟨R, hR⟩ : ∃ R, fP s sc = R := ⟨_, rfl⟩;rw [hR];have HR := κ hR.symm; clear hR;have HS := κ h;obtain ⟨v0, hv0⟩ : ∃ v0, qsV qs = v0 := ⟨_, rfl⟩;rw [hv0];have HV := κ hv0.symm; clear hv0 h;have HU := κ hu; clear hu;go_enter Tryz.func215, Tryz.ntmps215;go_wp2_with fail;go_loopg [0] sc.length (fun g p wr => ∃ q2 s2, p = qsV q2 ∧ ScS w U q2 s2 ∧ R = fP s s2 ∧ s2.length = g ∧ Below w.heap.size w wr ∧ wr.heap[w.heap.size]? = some (.cells #[.int .i64 0, .bool false, .bool false] 102 (0, 0)))
 case atStart => exact ⟨qs, sc, HV.out, HS.out, HR.out, rfl, by (repeat (first | with_reducible exact ξf _ _ | with_reducible refine bQ ?_ _ | with_reducible refine iK ?_ _ | with_reducible refine jZ ?_ | (with_reducible refine jJ ?_ (by first | exact ξF _ | omega | (simp; done) | (simp; omega)) _) | assumption)), ψe w _⟩
 case round =>
  obtain ⟨q2, s2, rfl, hsc, hr, hl, hbe, hres⟩ := hrel;obtain ⟨q, nm, m, hq1, hn1, hqv, c1, hnm, hd⟩ := hsc.head;obtain ⟨rest, rfl⟩ : ∃ rest, s2 = nm :: rest := by
   cases s2 with
   | nil => cases hn1
   | cons x l => simp only [List.head?_cons, ξO] at hn1; exact ⟨l, by rw [hn1]⟩
  have hml : m < w.heap.size := let ⟨_, ho, _⟩ := hnm; ho.lt
  have hlk := (hnm.keep (hbe.block m hml)).look s hs;have c1' := cell_later hbe c1;have r0 : wr.cell? ⟨w.heap.size, 0, none⟩ = some (.int .i64 0) := by simp [World.cell?, hres]
  have r1 : wr.cell? ⟨w.heap.size, 1, none⟩ = some (.bool false) := by simp [World.cell?, hres]
  have r2 : wr.cell? ⟨w.heap.size, 2, none⟩ = some (.bool false) := by simp [World.cell?, hres]
  have rf0 := frozen_of_row wr w.heap.size 0 _ _ hres;have rf1 := frozen_of_row wr w.heap.size 1 _ _ hres;have rf2 := frozen_of_row wr w.heap.size 2 _ _ hres;have hwr : w.heap.size < wr.heap.size := (ξd.1 hres).1;have HB := κ hbe;have HRES := κ hres;have HQ := κ hqv; rw [hqv];clear hq1 hn1 hqv hnm c1 hres hml;cases hlk1 : eO s nm with
  | some f =>
   have HR := κ (show R = f by rw [hr]; simp only [fP, hlk1]);rw [hlk1] at hlk;simp only [Option.getD_some, Option.isSome_some, fxV] at hlk;clear hr hlk1 hd hl hbe;go_wp2_with fail;have g := M9 HRES (.int .i64 f.level) (.bool f.right) (.bool f.infx) (.cells #[.int .i64 f.level, .bool f.right, .bool f.infx] 102);exact RV
  | none =>
   have hr2 : R = fP s rest := by rw [hr]; simp only [fP, hlk1]
   rw [hlk1] at hlk;simp only [Option.getD_none, Option.isSome_none, fxV, Hf] at hlk;clear hr hlk1;rcases hd with ⟨_, ht, c0⟩ | ⟨o, c0, co, hsc2⟩
   · have c0' := ay (cell_later hbe c0);have HR := κ (show R = Hf by rw [hr2, show rest = [] from ht]; rfl);clear hr2 hl hbe c0 ht;go_wp2_with fail;have g := M9 HRES (.int .i64 0) (.bool false) (.bool false) (.cells #[.int .i64 0, .bool false, .bool false] 102);exact RV
   · have c0' := ay (cell_later hbe c0);have co' := ay (cell_later hbe co);have HR2 := κ hr2;have HL := κ hl;have HSC := κ hsc2;clear hr2 hl hbe c0 co hsc2;obtain ⟨v2, hv2⟩ : ∃ v2, qsV q2.tail = v2 := ⟨_, rfl⟩;rw [hv2] at co';have HV2 := κ hv2.symm; clear hv2;go_wp2_with fail;go_roundg rest.length
     case measure => have := HL.out; simp at this; omega
     case rel =>
      refine ⟨q2.tail, rest, HV2, HSC, HR2, rfl, bQ HB _, ?_⟩;exact (ξe wr _ _ hwr).trans HRES
theorem EM (hp : TSt w0 tv ts b qs w U st) (s : Bytes) (hs : s.length ≤ maxLen) :
 Calls Tryz.prog 215 #[qsV qs, str s] w fun e w' => e = .returned (fxV (fP s st.sc)) ∧ Below w.heap.size w w' :=
 Hl qs st.sc w U hp.sc (fun k hk => (hp.hi k hk).2) s hs
theorem jX (hp : TSt w0 tv ts b qs w U st) (t : Tok) (pv : Value) {w1 : World} (hs : Strs w1 pv t.path) (ht : t.text.length ≤ maxLen) :
 Calls Tryz.prog 179 #[bL b, tkV t pv] w fun e w' => e = .returned (.bool (cO t st)) ∧ Below w.heap.size w w' := by
 have HN := κ (fun W => fD (w := W) t pv w1 hs);have HP := κ hp;obtain ⟨nv, dv, -, -, -, -, -, c5, -⟩ := hp.reads;obtain ⟨a, cap, rfl, -⟩ := hs;obtain ⟨q, hq⟩ : ∃ q, qsV qs = .pointer (some ⟨q, 0, none⟩) := let ⟨q, _, _, _, _, h, _⟩ := hp.sc.head; ⟨q, h⟩
 have HQ := κ hq;rw [hq] at c5;have d5 := ay c5;have hbl := ξS w _ c5;clear hq c5;unfold tkV at *;have HLK := κ (fun W (h : TSt w0 tv ts b qs W U st) => EM h t.text ht);obtain ⟨V, hV⟩ : ∃ V, fP t.text st.sc = V := ⟨_, rfl⟩;obtain ⟨R, hR⟩ : ∃ R, cO t st = R := ⟨_, rfl⟩;rw [hR];unfold cO at hR;rw [hV] at hR HLK;rw [HQ.out] at HLK;have HR := κ hR.symm;clear hR hV HQ;go_enter Tryz.func179, Tryz.ntmps179;go_wp2_with fail;have HP1 := κ (HP.alloc (.cells #[.int .i64 t.kind, str t.text, .slice a t.path.length cap, .int .i64 t.line, .int .i64 t.col] 32));have k0 := ψe w (.cells #[.int .i64 t.kind, str t.text, .slice a t.path.length cap, .int .i64 t.line, .int .i64 t.col] 32);have HBW := κ (bQ (ξf w.heap.size w) (.cells #[.int .i64 t.kind, str t.text, .slice a t.path.length cap, .int .i64 t.line, .int .i64 t.col] 32));have k5 := d5 (.cells #[.int .i64 t.kind, str t.text, .slice a t.path.length cap, .int .i64 t.line, .int .i64 t.col] 32);generalize w.alloc (.cells #[.int .i64 t.kind, str t.text, .slice a t.path.length cap, .int .i64 t.line, .int .i64 t.col] 32) = W0 at *;obtain ⟨T, f, hT, hf, hsur⟩ := Ld W0;haveI := hT
 have HF := κ hf;have HSU := κ hsur;have h0 := hsur _ (ξf W0.heap.size W0).drew;have HNQ := κ (Le hf hsur fun W _ => HN W);have HLQ := κ (Le hf hsur fun W hW => HLK W (HP1.below hW));have a0 := fun q => cell_later (hf q) (bO k0 0 _ rfl);have a1 := fun q => cell_later (hf q) (bO k0 1 _ rfl);have a2 := fun q => cell_later (hf q) (bO k0 2 _ rfl);have a3 := fun q => cell_later (hf q) (bO k0 3 _ rfl);have a4 := fun q => cell_later (hf q) (bO k0 4 _ rfl);have a5 := fun q => cell_later (hf q) k5;have H0 := κ h0;clear hf hsur h0 d5 k0 k5 hbl;unfold fxV at HLQ;cases hn : cJ t
 · have HRR := κ (show R = false by rw [HR.out, hn]; rfl);rw [hn] at HNQ;clear hn;refine kY f (by kernel_rfl) (by kernel_rfl) H0 ?_;repeat (go_big_quiet_step (exact HNQ _))
   refine wpQuiet_nil ?_;rintro wz ⟨qz, rfl⟩;go_wp2_with fail;go_ret;exact ⟨by rw [HRR.out]; rfl, HBW.trans ((HF.out _).mono HBW.size)⟩
 · have HRR := κ (show R = V.infx by rw [HR.out, hn]; rfl);rw [hn] at HNQ;clear hn;refine kY f (by kernel_rfl) (by kernel_rfl) H0 ?_;have hfl : ∀ w, (Instr.field 102 (.agg #[.int .i64 V.level, .bool V.right, .bool V.infx]) 2).run Tryz.prog w = .ok (.bool V.infx) w := fun _ => by kernel_rfl
   repeat (go_big_quiet_step (first | exact HNQ.out _ | exact HLQ.out _))
   refine wpQuiet_nil ?_;rintro wz ⟨qz, rfl⟩;go_wp2_with fail;go_ret;exact ⟨by rw [HRR.out]; rfl, HBW.trans ((HF.out _).mono HBW.size)⟩
end
section
variable {w0 : World} {tv : Value} {ts : List Tok} {b : Nat} {qs : List Nat} {w : World} {U : Rl} {st : PS}
theorem Nq {p : Prop} (h : p := by
 go_wp2_with fail;go_ret;exact ⟨by rw [HR.out]; rfl, by (repeat (first | with_reducible exact ξf _ _ | with_reducible refine bQ ?_ _ | with_reducible refine iK ?_ _ | with_reducible refine jZ ?_ | (with_reducible refine jJ ?_ (by first | exact ξF _ | omega | (simp; done) | (simp; omega)) _) | assumption))⟩
 ) : p := h
theorem pU (t : Tok) (pv : Value) (w1 : World) (hs : Strs w1 pv t.path) :
 Calls Tryz.prog 216 #[tkV t pv] w fun e w' => e = .returned (.int .i64 (bZ t)) ∧ Below w.heap.size w w' := by
 obtain ⟨a, cap, rfl, -⟩ := hs;unfold tkV;obtain ⟨R, hR⟩ : ∃ R, bZ t = R := ⟨_, rfl⟩;rw [hR];unfold bZ at hR;generalize t.kind = k at *;by_cases h4 : k = 4
 · subst h4;have HR := κ (show R = 1 from hR.symm);clear hR;go_enter Tryz.func216, Tryz.ntmps216;exact Nq
 by_cases h5 : k = 5
 · subst h5;have HR := κ (show R = 2 from hR.symm);clear hR;go_enter Tryz.func216, Tryz.ntmps216;exact Nq
 by_cases h6 : k = 6
 · subst h6;have HR := κ (show R = 3 from hR.symm);clear hR;go_enter Tryz.func216, Tryz.ntmps216;exact Nq
 by_cases h7 : k = 7
 · subst h7;have HR := κ (show R = 4 from hR.symm);clear hR;go_enter Tryz.func216, Tryz.ntmps216;exact Nq
 · have b4 : (k == 4) = false := by rw [ξY]; exact h4
   have b5 : (k == 5) = false := by rw [ξY]; exact h5
   have b6 : (k == 6) = false := by rw [ξY]; exact h6
   have b7 : (k == 7) = false := by rw [ξY]; exact h7
   rw [b4, b5, b6, b7] at hR;have HR := κ (show R = 0 from hR.symm);clear hR h4 h5 h6 h7;go_enter Tryz.func216, Tryz.ntmps216;exact Nq
theorem vq (t : Tok) (pv : Value) (w1 : World) (hs : Strs w1 pv t.path) :
 Calls Tryz.prog 58 #[tkV t pv] w fun e w' => e = .returned (.bool (eB t)) ∧ Below w.heap.size w w' := by
 obtain ⟨a, cap, rfl, -⟩ := hs;unfold tkV;obtain ⟨R, hR⟩ : ∃ R, eB t = R := ⟨_, rfl⟩;rw [hR];unfold eB at hR;generalize t.text = x at *;cases hk : t.kind == 1
 · rw [hk] at hR;have HR := κ (show R = false from hR.symm);have hk' : (t.kind != 1) = true := by rw [bne, hk]; rfl
   clear hR hk;go_enter Tryz.func58, Tryz.ntmps58;exact Nq
 · rw [hk] at hR;have hk' : (t.kind != 1) = false := by rw [bne, hk]; rfl
   have HR := κ hR.symm;clear hR hk;go_enter Tryz.func58, Tryz.ntmps58;go_wp2_with fail;all_goals go_ret
   all_goals exact ⟨by rw [HR.out]; simp_all, by (repeat (first | with_reducible exact ξf _ _ | with_reducible refine bQ ?_ _ | with_reducible refine iK ?_ _ | with_reducible refine jZ ?_ | (with_reducible refine jJ ?_ (by first | exact ξF _ | omega | (simp; done) | (simp; omega)) _) | assumption))⟩
theorem bC (HT : Tks w0 tv ts) (k : Nat) (st : PS) : (aB ts k st).text.length ≤ maxLen := by
 unfold aB maxLen;rcases Nat.lt_or_ge (st.pos + k) ts.length with h1 | h1
 · rw [ξr, ξw h1];have := HT.siz _ (List.getElem_mem h1);simp; omega
 · rw [ξr, ξx h1]; simp [qq]
theorem RX {p : Prop} (h : p := by
 go_wp2_with fail;refine HK.mono ?_;rintro e w1 ⟨⟨pv, rfl, hs⟩, hb1⟩;have HB1 := κ hb1;have HP1 := κ ((HP.below hb1).alloc (.cells #[.int .i64 2, str t.text, pv, .int .i64 t.line, .int .i64 t.col] 32));clear hb1;have HS := κ hs;obtain ⟨a, cap, rfl, -⟩ := hs;unfold tkV;rw [h2];have HII := κ (HI _ HP1 _ HS);unfold tkV at HII;rw [h2] at HII;go_wp2_with fail;refine HII.mono ?_;rintro e w2 ⟨rfl, hb2⟩;have HB2 := κ hb2; clear hb2;go_wp2_with fail;go_ret;exact ⟨by rw [HR.out]; rfl, (bQ HB1.out _).trans (HB2.mono (by have := HB1.size; simp; omega))⟩
 ) : p := h
theorem rG (HT : Tks w0 tv ts) (hp : TSt w0 tv ts b qs w U st) :
 Calls Tryz.prog 181 #[bL b] w fun e w' => e = .returned (.bool (cN ts st)) ∧ Below w.heap.size w w' := by
 have HK := κ (aU HT hp 0 (by omega));have HP := κ hp;have HX := κ (bC HT 0 st);obtain ⟨R, hR⟩ : ∃ R, cN ts st = R := ⟨_, rfl⟩;rw [hR];unfold cN at hR;generalize aB ts 0 st = t at *;have HI := κ (fun (W : World) (h : TSt w0 tv ts b qs W U st) pv (hs : Strs w0 pv t.path) => jX h t pv hs HX);clear hp;simp only [] at hR;obtain ⟨V, hV⟩ : ∃ V, cO t st = V := ⟨_, rfl⟩;rw [hV] at hR HI;by_cases h2 : t.kind = 2
 · rw [h2] at hR;have HR := κ (show R = !V by rw [← hR]; rfl);clear hR hV;go_enter Tryz.func181, Tryz.ntmps181;exact RX
 · have b2 : (t.kind == 2) = false := by rw [ξY]; exact h2
   rw [b2] at hR;have HR := κ hR.symm;clear hR h2 hV HI;go_enter Tryz.func181, Tryz.ntmps181;go_wp2_with fail;refine HK.mono ?_;rintro e w1 ⟨⟨pv, rfl, hs⟩, hb1⟩;have HB1 := κ hb1;clear hb1;obtain ⟨a, cap, rfl, -⟩ := hs;unfold tkV;go_wp2_with fail;all_goals go_ret
   all_goals exact ⟨by rw [HR.out]; simp_all, bQ HB1.out _⟩
theorem Dg (HT : Tks w0 tv ts) (hp : TSt w0 tv ts b qs w U st) :
 Calls Tryz.prog 293 #[bL b] w fun e w' => e = .returned (.bool (iG ts st)) ∧ Below w.heap.size w w' := by
 have HK := κ (aU HT hp 0 (by omega));have HP := κ hp;have HX := κ (bC HT 0 st);obtain ⟨R, hR⟩ : ∃ R, iG ts st = R := ⟨_, rfl⟩;rw [hR];unfold iG at hR;generalize aB ts 0 st = t at *;have HI := κ (fun (W : World) (h : TSt w0 tv ts b qs W U st) pv (hs : Strs w0 pv t.path) => jX h t pv hs HX);clear hp;simp only [] at hR;obtain ⟨V, hV⟩ : ∃ V, cO t st = V := ⟨_, rfl⟩;rw [hV] at hR HI;by_cases h2 : t.kind = 2
 · rw [h2] at hR;have HR := κ (show R = !V by rw [← hR]; rfl);clear hR hV;go_enter Tryz.func293, Tryz.ntmps293;exact RX
 · have b2 : (t.kind == 2) = false := by rw [ξY]; exact h2
   rw [b2] at hR;have HR := κ hR.symm;clear hR h2 hV HI;go_enter Tryz.func293, Tryz.ntmps293;go_wp2_with fail;refine HK.mono ?_;rintro e w1 ⟨⟨pv, rfl, hs⟩, hb1⟩;have HB1 := κ hb1;clear hb1;obtain ⟨a, cap, rfl, -⟩ := hs;unfold tkV;go_wp2_with fail;all_goals go_ret
   all_goals exact ⟨by rw [HR.out]; simp_all, bQ HB1.out _⟩
theorem RY {p : Prop} (h : p := by
 cases ho : O
 · rw [ho] at HRT;have HR := κ (show R = ([], 0) from HRT);clear HRT ho;go_wp2_with fail;go_ret2
   exact ⟨by rw [HR.out]; rfl, HBA.out⟩
 · rw [ho] at HRT;clear ho;go_wp2_with fail;refine (HK1 _ (HP.below HBA)).mono ?_;rintro e wb ⟨⟨pu, rfl, hsu⟩, hbb⟩;have HBB := κ (HBA.trans (hbb.mono HBA.size)); clear hbb;have HNU := κ (fun W => fD (w := W) u pu w0 hsu);obtain ⟨au, capu, rfl, -⟩ := hsu;unfold tkV at HNU ⊢;go_wp2_with fail;have HBC := κ (bQ HBB (.cells #[.int .i64 u.kind, str u.text, .slice au u.path.length capu, .int .i64 u.line, .int .i64 u.col] 32));have k0 := ψe wb (.cells #[.int .i64 u.kind, str u.text, .slice au u.path.length capu, .int .i64 u.line, .int .i64 u.col] 32);refine (HNU _).mono ?_;rintro e wd ⟨rfl, hbd⟩;have HBD := κ (HBC.trans (hbd.mono HBC.size));have hc1 := cell_later hbd (bO k0 1 _ rfl);clear hbd k0;cases hu : cJ u
   · rw [hu] at HRT;clear hu hc1;go_wp2_with fail;refine (HIE _ (HP.below HBD)).mono ?_;rintro e we ⟨rfl, hbe⟩;have HBE := κ (HBD.trans (hbe.mono HBD.size)); clear hbe;cases hq : Q
     · rw [hq] at HRT;have HR := κ (show R = ([], 0) from HRT);clear HRT hq;go_wp2_with fail;go_ret2
       exact ⟨by rw [HR.out]; rfl, HBE.out⟩
     · rw [hq] at HRT;have HR := κ (show R = ([61], 2) from HRT);clear HRT hq;go_wp2_with fail;go_ret2
       exact ⟨by rw [HR.out]; rfl, HBE.out⟩
   · rw [hu] at HRT;have HR := κ (show R = (u.text, 2) from HRT);clear HRT hu;go_wp2_with fail;go_ret2
     exact ⟨by rw [HR.out]; rfl, HBD.out⟩
 ) : p := h
theorem lD (HT : Tks w0 tv ts) (hp : TSt w0 tv ts b qs w U st) (k : Nat) (hk : k ≤ 1) :
 Calls Tryz.prog 178 #[bL b, .int .i64 k] w fun e w' => e = .returned (.tuple #[str (bM ts k st).1, .int .i64 ((bM ts k st).2 : Nat)]) ∧ Below w.heap.size w w' := by
 have HK := κ (aU HT hp k (by omega));have HP := κ hp;have HX := κ (bC HT k st);have HK1 := κ (fun (W : World) (h : TSt w0 tv ts b qs W U st) => aU HT h (k + 1) (by omega));have HIS := κ (fun (W : World) (h : TSt w0 tv ts b qs W U st) => gq HT h k (by omega) [111, 112]);have HIE := κ (fun (W : World) (h : TSt w0 tv ts b qs W U st) => gq HT h (k + 1) (by omega) [61]);rw [show ((k + 1 : Nat) : Int) = (k : Int) + 1 from by omega] at HK1 HIE;obtain ⟨R, hR⟩ : ∃ R, bM ts k st = R := ⟨_, rfl⟩;rw [hR];unfold bM at hR;obtain ⟨O, hO⟩ : ∃ O, isP ts k [111, 112] st = O := ⟨_, rfl⟩;obtain ⟨Q, hQ⟩ : ∃ Q, isP ts (k + 1) [61] st = Q := ⟨_, rfl⟩;rw [hO] at hR HIS;rw [hQ] at hR HIE;clear hO hQ hp;generalize aB ts (k + 1) st = u at *;generalize aB ts k st = t at *;have HI := κ (fun (W : World) (h : TSt w0 tv ts b qs W U st) pv (hs : Strs w0 pv t.path) => jX h t pv hs HX);obtain ⟨V, hV⟩ : ∃ V, cO t st = V := ⟨_, rfl⟩;rw [hV] at hR HI;have HRT := κ hR.symm;clear hR hV;have hk2 : (k : Int) ≤ 1 := by omega
 go_enter Tryz.func178, Tryz.ntmps178;go_wp2_with fail;refine HK.mono ?_;rintro e w1 ⟨⟨pv, rfl, hs⟩, hb1⟩;have HB1 := κ (bQ hb1 (.cells #[.int .i64 t.kind, str t.text, pv, .int .i64 t.line, .int .i64 t.col] 32));clear hb1;have k0 := ψe w1 (.cells #[.int .i64 t.kind, str t.text, pv, .int .i64 t.line, .int .i64 t.col] 32);have HN := κ (fun W => fD (w := W) t pv w0 hs);have HII := κ (fun (W : World) (h : TSt w0 tv ts b qs W U st) => HI W h pv hs);obtain ⟨a, cap, rfl, -⟩ := hs;unfold tkV at HN HII ⊢;go_wp2_with fail;refine (HN _).mono ?_;rintro e w2 ⟨rfl, hb2⟩;have HB2 := κ (HB1.trans (hb2.mono HB1.size));have e0 := cell_later hb2 (bO k0 0 _ rfl);have e1 := cell_later hb2 (bO k0 1 _ rfl);have e2 := cell_later hb2 (bO k0 2 _ rfl);have e3 := cell_later hb2 (bO k0 3 _ rfl);have e4 := cell_later hb2 (bO k0 4 _ rfl);clear hb2 k0 HI HK;cases hn : cJ t
 · rw [hn] at HRT;clear hn HN HII;go_wp2_with fail;refine (HIS _ (HP.below HB2)).mono ?_;rintro e wa ⟨rfl, hba⟩;have HBA := κ (HB2.trans (hba.mono HB2.size)); clear hba;exact RY
 · rw [hn] at HRT;clear hn HN;go_wp2_with fail;refine (HII _ (HP.below HB2)).mono ?_;rintro e w3 ⟨rfl, hb3⟩;have HB3 := κ (HB2.trans (hb3.mono HB2.size));have f1 := cell_later hb3 e1;clear hb3 e0 e1 e2 e3 e4;cases V
   · have HR := κ (show R = (t.text, 1) from HRT);go_wp2_with fail;go_ret2
     exact ⟨by rw [HR.out]; rfl, HB3.out⟩
   · clear f1;go_wp2_with fail;refine (HIS _ (HP.below HB3)).mono ?_;rintro e wa ⟨rfl, hba⟩;have HBA := κ (HB3.trans (hba.mono HB3.size)); clear hba;exact RY
end
theorem Tryz.infoNode : (Tryz.prog.info? 41).map (fun i => (i.zero, i.size, i.bytes)) = some (some (.agg #[.int .i64 0, .string ⟨#[]⟩, .slice none 0 0, .slice none 0 0, .int .i64 0, .int .i64 0]), 6, 88) := by kernel_rfl
theorem Tryz.infoInt : (Tryz.prog.info? 3).map (fun i => (i.zero, i.size, i.bytes)) = some (some (.int .i64 0), 1, 8) := by kernel_rfl
section
variable {w0 : World} {tv : Value} {ts : List Tok} {b : Nat} {qs : List Nat} {w : World} {U : Rl} {st : PS} {nv dv : Value} {xs : List Value}
theorem TSm.addNode (h : TSm w0 tv ts b qs w U st nv dv xs) {n : Nd} {pv kv : Value} {g cap : Nat} {w2 : World} (hpv : Strs w pv n.path) (ip : Im U pv 4) (hkv : Ints w kv n.kids) (ik : Im U kv 4) (hlt : st.nodes.length < 262144)
 (hrow : w2.ownsRow w0.heap.size 41 6 (.slice (some ⟨g, 0, none⟩) (st.nodes.length + 1) cap) (st.nodes.length + 1) (xs ++ ji n pv kv)) (hg : w.grownBy w2 nv.ownBlock) (hgb : nv.ownBlock = some g ∨ w.heap.size ≤ g) (hgl : g < w2.heap.size) :
 TSm w0 tv ts b qs (w2.setCell ⟨b, 2, none⟩ (.slice (some ⟨g, 0, none⟩) (st.nodes.length + 1) cap)) (U.set g 2) { st with nodes := st.nodes ++ [n] } (.slice (some ⟨g, 0, none⟩) (st.nodes.length + 1) cap) dv (xs ++ ji n pv kv) := by
 have hub := h.ub;have hbb := h.hi b (by rw [hub]; decide);have hsz := hg.size;have hnb : nv.ownBlock ≠ some b := fun e => by have := h.nim b e; omega
 have hg2 : U g = 2 ∨ w.heap.size ≤ g := hgb.imp (fun e => h.nim g e) id;have hU : ∀ i, U i ≠ 0 → U i ≠ 2 → U.set g 2 i = U i := fun i h0 h2 => Rl.set_other (by
  rintro rfl;rcases hg2 with h3 | h3
  · exact h2 h3
  · have := (h.hi _ h0).2; omega)
 have hgw : w0.heap.size ≤ g := by
  rcases hg2 with h3 | h3
  · exact (h.hi g (by rw [h3]; decide)).1
  · have := h.base.size; omega
 have hk : ∀ i, U i ≠ 0 → U i ≠ 2 → i ≠ b → (w2.setCell ⟨b, 2, none⟩ (.slice (some ⟨g, 0, none⟩) (st.nodes.length + 1) cap)).heap[i]? = w.heap[i]? := fun i h0 h2 hb =>
  (ψf w2 _ i _ hb).trans (hg.block i (h.hi i h0).2 fun e => h2 (h.nim i e.symm))
 have hgb' : g ≠ b := by
  rintro rfl;rcases hg2 with h3 | h3 <;> omega
 refine ⟨(h.base.trans ((ξf _ w).grown hg h.base.size fun k e => (h.hi k (by rw [h.nim k e]; decide)).1)).setCell hbb.1 _, fun k hu => ?_, (hU b (by omega) (by omega)).trans hub, ?_, ?_, ?_, ?_, ?_, ?_, ?_, h.deep, h.pos, h.opn, by simp; omega, h.dle, fun k e => ?_⟩
 · by_cases e : k = g
   · subst e; exact ⟨hgw, by simpa [World.setCell] using hgl⟩
   · rw [Rl.set_other e] at hu;have := h.hi k hu;exact ⟨this.1, by simp [World.setCell]; omega⟩
 · have h1 := ψg w2 b 2 _ 76 (.slice (some ⟨g, 0, none⟩) (st.nodes.length + 1) cap) ((hg.block b hbb.2 (fun e => hnb e.symm)).trans h.blk);exact h1
 · simp only [ξ1, ξ2, ξ5];exact cE hrow fun k e => by
    simp only [Value.ownBlock, ξO] at e; subst e;exact ψf w2 _ _ _ hgb'
 · have hk4 : ∀ k, U k = 4 → (w2.setCell ⟨b, 2, none⟩ (.slice (some ⟨g, 0, none⟩) (st.nodes.length + 1) cap)).heap[k]? = w.heap[k]? ∧ U.set g 2 k = 4 := fun k e => ⟨hk k (by omega) (by omega) (by rintro rfl; omega), (hU k (by omega) (by omega)).trans e⟩;exact (h.nds.keep hk4).snoc (hpv.stay fun k e => (hk4 k (ip k e)).1) (fun k e => (hk4 k (ip k e)).2) (hkv.keep fun k e => (hk4 k (ik k e)).1) (fun k e => (hk4 k (ik k e)).2)
 · intro k e;simp only [Value.ownBlock, ξO] at e; subst e;exact Rl.set_same U _ 2
 · exact cE h.drow fun k e => hk k (by rw [h.dim k e]; decide) (by rw [h.dim k e]; decide) (by rintro rfl; have := h.dim _ e; omega)
 · exact fun k e => (hU k (by rw [h.dim k e]; decide) (by rw [h.dim k e]; decide)).trans (h.dim k e)
 · exact h.sc.keep fun k e _ => ⟨hk k (by omega) (by omega) (by rintro rfl; omega), hU k (by omega) (by omega)⟩
 · have hkg : k ≠ g := by rintro rfl; rw [Rl.set_same] at e; exact absurd e (by decide)
   rw [Rl.set_other hkg] at e;exact (h.fz k e).keep (hk k (by omega) (by omega) (by rintro rfl; omega))
theorem TSm.addDeep (h : TSm w0 tv ts b qs w U st nv dv xs) {d : Nat} {g cap : Nat} {w2 : World} (hd : d ≤ 1000) (hlt : st.deep.length < 262144)
 (hrow : w2.ownsRow w0.heap.size 3 1 (.slice (some ⟨g, 0, none⟩) (st.deep.length + 1) cap) (st.deep.length + 1) (st.deep.map (fun d => Value.int .i64 (d : Nat)) ++ [.int .i64 (d : Nat)])) (hg : w.grownBy w2 dv.ownBlock) (hgb : dv.ownBlock = some g ∨ w.heap.size ≤ g) (hgl : g < w2.heap.size) :
 TSm w0 tv ts b qs (w2.setCell ⟨b, 3, none⟩ (.slice (some ⟨g, 0, none⟩) (st.deep.length + 1) cap)) (U.set g 3) { st with deep := st.deep ++ [d] } nv (.slice (some ⟨g, 0, none⟩) (st.deep.length + 1) cap) xs := by
 have hub := h.ub;have hbb := h.hi b (by rw [hub]; decide);have hsz := hg.size;have hnb : dv.ownBlock ≠ some b := fun e => by have := h.dim b e; omega
 have hg2 : U g = 3 ∨ w.heap.size ≤ g := hgb.imp (fun e => h.dim g e) id;have hU : ∀ i, U i ≠ 0 → U i ≠ 3 → U.set g 3 i = U i := fun i h0 h2 => Rl.set_other (by
  rintro rfl;rcases hg2 with h3 | h3
  · exact h2 h3
  · have := (h.hi _ h0).2; omega)
 have hgw : w0.heap.size ≤ g := by
  rcases hg2 with h3 | h3
  · exact (h.hi g (by rw [h3]; decide)).1
  · have := h.base.size; omega
 have hk : ∀ i, U i ≠ 0 → U i ≠ 3 → i ≠ b → (w2.setCell ⟨b, 3, none⟩ (.slice (some ⟨g, 0, none⟩) (st.deep.length + 1) cap)).heap[i]? = w.heap[i]? := fun i h0 h2 hb =>
  (ψf w2 _ i _ hb).trans (hg.block i (h.hi i h0).2 fun e => h2 (h.dim i e.symm))
 have hgb' : g ≠ b := by
  rintro rfl;rcases hg2 with h3 | h3 <;> omega
 refine ⟨(h.base.trans ((ξf _ w).grown hg h.base.size fun k e => (h.hi k (by rw [h.dim k e]; decide)).1)).setCell hbb.1 _, fun k hu => ?_, (hU b (by omega) (by omega)).trans hub, ?_, ?_, ?_, ?_, ?_, ?_, ?_, by simp; omega, h.pos, h.opn, h.many, ?_, fun k e => ?_⟩
 · by_cases e : k = g
   · subst e; exact ⟨hgw, by simpa [World.setCell] using hgl⟩
   · rw [Rl.set_other e] at hu;have := h.hi k hu;exact ⟨this.1, by simp [World.setCell]; omega⟩
 · have h1 := ψg w2 b 3 _ 76 (.slice (some ⟨g, 0, none⟩) (st.deep.length + 1) cap) ((hg.block b hbb.2 (fun e => hnb e.symm)).trans h.blk);exact h1
 · exact cE h.nrow fun k e => hk k (by rw [h.nim k e]; decide) (by rw [h.nim k e]; decide) (by rintro rfl; have := h.nim _ e; omega)
 · exact h.nds.keep fun k e => ⟨hk k (by omega) (by omega) (by rintro rfl; omega), (hU k (by omega) (by omega)).trans e⟩
 · exact fun k e => (hU k (by rw [h.nim k e]; decide) (by rw [h.nim k e]; decide)).trans (h.nim k e)
 · simp only [ξ1, ξ2, ξ5, ξ8, List.map_cons, List.map_nil];exact cE hrow fun k e => by
    simp only [Value.ownBlock, ξO] at e; subst e;exact ψf w2 _ _ _ hgb'
 · intro k e;simp only [Value.ownBlock, ξO] at e; subst e;exact Rl.set_same U _ 3
 · exact h.sc.keep fun k e _ => ⟨hk k (by omega) (by omega) (by rintro rfl; omega), hU k (by omega) (by omega)⟩
 · intro x hx;rcases ξ9.1 hx with h1 | h1
   · exact h.dle x h1
   · simp at h1; omega
 · have hkg : k ≠ g := by rintro rfl; rw [Rl.set_same] at e; exact absurd e (by decide)
   rw [Rl.set_other hkg] at e;exact (h.fz k e).keep (hk k (by omega) (by omega) (by rintro rfl; omega))
theorem Bn {X w2 : World} {row : Option Nat} (hg : X.drew.grownBy w2 row) : X.grownBy w2 row := ⟨hg.os, hg.tape, hg.output, hg.size, hg.block⟩
theorem TSm.nfar (h : TSm w0 tv ts b qs w U st nv dv xs) {W w2 : World} (hg : W.grownBy w2 nv.ownBlock) (hW : W.heap = w.heap) : w2.cell? ⟨b, 2, none⟩ = some nv ∧ w2.frozen? ⟨b, 2, none⟩ = false := by
 have hb := h.hi b (by rw [h.ub]; decide);have h1 := hg.block b (by rw [hW]; exact hb.2) (fun e => by have := h.nim b e.symm; have := h.ub; omega);rw [hW, h.blk] at h1;exact ⟨by simp [World.cell?, h1], frozen_of_row w2 b 2 _ _ h1⟩
theorem TSm.dfar (h : TSm w0 tv ts b qs w U st nv dv xs) {W w2 : World} (hg : W.grownBy w2 dv.ownBlock) (hW : W.heap = w.heap) : w2.cell? ⟨b, 3, none⟩ = some dv ∧ w2.frozen? ⟨b, 3, none⟩ = false ∧ w2.cell? ⟨b, 2, none⟩ = some nv := by
 have hb := h.hi b (by rw [h.ub]; decide);have h1 := hg.block b (by rw [hW]; exact hb.2) (fun e => by have := h.dim b e.symm; have := h.ub; omega);rw [hW, h.blk] at h1;exact ⟨by simp [World.cell?, h1], frozen_of_row w2 b 3 _ _ h1, by simp [World.cell?, h1]⟩
theorem dP {w : World} {v : Value} {l : List Int} (h : Ints w v l) : ∃ a cap, v = .slice a l.length cap ∧ ∀ (i : Nat) x, l[i]? = some x → ∃ b off, a = some ⟨b, off, none⟩ ∧ w.cell? ⟨b, off + i, none⟩ = some (.int .i64 x) := by
 obtain ⟨a, cap, rfl, -, -, hl⟩ := h;refine ⟨a, cap, rfl, fun i x hi => ?_⟩;obtain ⟨b, off, rfl, hx⟩ := hl (by rintro rfl; simp at hi);exact ⟨b, off, rfl, hx i x hi⟩
theorem su (w : World) (o1 o2 : Obj) : ((w.alloc o1).alloc o2).heap[w.heap.size + 1]? = some o2 := by
 have := ψe (w.alloc o1) o2;simpa using this
theorem Mg (a b c : Int) (t : Bytes) (o : Option Addr) (n cap : Nat) : ∀ u ∈ [Value.int .i64 a, str t, .slice none 0 0, .slice o n cap, .int .i64 b, .int .i64 c], u.oneCell' = true := by
 intro u hu;simp only [List.mem_cons, List.not_mem_nil, or_false] at hu;rcases hu with rfl | rfl | rfl | rfl | rfl | rfl <;> rfl
theorem bP (a : Int) : ∀ u ∈ [Value.int .i64 a], u.oneCell' = true := by
 intro u hu;simp only [List.mem_cons, List.not_mem_nil, or_false] at hu;subst hu; rfl
theorem qw {w : World} {B n size : Nat} {e : TypeId} {v : Value} {ys : List Value} (h : w.ownsRow B e size v n ys) : ∃ a cap, v = .slice a n cap := by
 rcases id h.2 with ⟨rfl, h0⟩ | ⟨g, cap, cur, rfl, _⟩
 · exact ⟨none, 0, by rw [h0]⟩
 · exact ⟨_, _, rfl⟩
theorem aS (hp : TSt w0 tv ts b qs w U st) (s : Int × Int) (k : Int) (text : Bytes) (kids : List Nat) (kv : Value) (hi : Ints w kv (kids.map Int.ofNat)) (im : Im U kv 4) (hkl : kids.length ≤ 2199023255552) (hne : aV s k text kids st ≠ .error .out) :
 Calls Tryz.prog 63 #[bL b, dc s, .int .i64 k, str text, kv] w (aG w0 tv ts b qs idR (aV s k text kids st) w U) := by
 obtain ⟨nv, dv, xs, hm⟩ := hp;have HM := κ hm;obtain ⟨ka, kcap, rfl, hkc⟩ := dP hi;rw [ξ4] at hi im;have HI := κ hi;have HIM := κ im;have HKC := κ hkc; clear hkc hi im;simp only [ξ4];obtain ⟨R, hR⟩ : ∃ R, aV s k text kids st = R := ⟨_, rfl⟩;rw [hR] at hne ⊢;unfold aV at hR;by_cases hk : kids.any fun i => !(decide (i < st.nodes.length) && decide (i < st.deep.length))
 · rw [ψi hk] at hR; exact absurd hR.symm hne
 rw [ψh hk] at hR;have HK : RowKit.Hid (∀ i ∈ kids, i < st.deep.length) := fun i hi => by
  simp only [List.any_eq_true, not_exists, not_and, ξi, Bool.not_eq_false'] at hk;have := hk i hi;simp at this; omega
 clear hk;have HNE := κ hne; clear hne;obtain ⟨D, hD⟩ : ∃ D, iJ st.deep kids 1 = D := ⟨_, rfl⟩;rw [hD] at hR;have HR := κ hR.symm; clear hR;have HD := κ hD.symm; clear hD;have hdl := hm.deep;have hml := hm.many;have c2 : w.cell? ⟨b, 2, none⟩ = some nv := by simp [World.cell?, hm.blk]
 have c3 : w.cell? ⟨b, 3, none⟩ = some dv := by simp [World.cell?, hm.blk]
 have d2 := ay c2;have d3 := ay c3;clear c2 c3 hm;unfold dc;go_enter Tryz.func63, Tryz.ntmps63;go_wp2_with fail;go_loop [11, 16] (fun d i => ∃ n dn : Nat, i = .int .i64 n ∧ d = .int .i64 dn ∧ n ≤ kids.length ∧ dn ≤ 1001 ∧ D = iJ st.deep (kids.drop n) dn) (fun _ i => kids.length - (intOf i).toNat)
 case atStart => exact ⟨0, 1, rfl, rfl, ξM _, by omega, HD⟩
 case round =>
  obtain ⟨n, dn, rfl, rfl, hn, hdn, hd⟩ := hrel;have HDN := κ hd; clear hd;by_cases hlt : n < kids.length
  · obtain ⟨c, hc⟩ : ∃ c, kids[n]? = some c := ⟨_, ξw hlt⟩;have hcd := HK.out c (ξB hc);obtain ⟨kb, koff, rfl, hkc⟩ := HKC.out n c (by simp [hc]);have e1 := ay hkc;obtain ⟨x, hx⟩ : ∃ x, st.deep[c]? = some x := ⟨_, ξw hcd⟩;have hx1 := HM.dle x (ξB hx);rcases id HM.drow.2 with ⟨_, h0⟩ | ⟨g, cap, cur, rfl, _⟩
    · omega
    have hdc := HM.drow.cells (g := g) rfl c (.int .i64 (x : Nat)) (by simp [hx]);rw [iA] at hdc;have e2 := ay hdc;have HDN1 : RowKit.Hid (D = iJ st.deep (kids.drop (n + 1)) (max dn (x + 1))) := by
     show _ = _;rw [HDN.out, ξp hlt];have : kids[n] = c := by rw [ξw hlt] at hc; simpa using hc
     rw [this];simp [iJ, hx]
    have hni : (n : Int) < (kids.length : Int) := by omega
    have hci : (c : Int) < (st.deep.length : Int) := by omega
    clear hkc hdc hx hc HDN hlt HKC;by_cases hmx : dn < x + 1
    · have hmi : max (dn : Int) ((x : Int) + 1) = (x : Int) + 1 := by omega
      rw [Nat.max_eq_right (by omega)] at HDN1;clear hmx;go_wp2_with fail;go_round
      case rel => exact ⟨n + 1, x + 1, by go_num, by go_num, by omega, by omega, HDN1⟩
      case measure => simp [intOf]; omega
    · have hmi : max (dn : Int) ((x : Int) + 1) = dn := by omega
      rw [Nat.max_eq_left (by omega)] at HDN1;clear hmx;go_wp2_with fail;go_round
      case rel => exact ⟨n + 1, dn, by go_num, rfl, by omega, by omega, HDN1⟩
      case measure => simp [intOf]; omega
  · have hni : ¬ (n : Int) < (kids.length : Int) := by omega
    have HDD : RowKit.Hid (D = dn) := by
     show _ = _;rw [HDN.out, List.drop_of_length_le (by omega)]; rfl
    clear HDN hlt HK;by_cases h1 : 1000 < dn
    · have hi1 : (1000 : Int) < (dn : Int) := by omega
      have HE : RowKit.Hid (R = .error (.stop s.1 s.2 52)) := HR.trans (ψi (by rw [HDD.out]; exact h1));go_wp2_with fail;refine (nI s 52 _).mono ?_;rintro e w2 ⟨rfl, hb2⟩;have HB2 := κ hb2; clear hb2;go_wp2_with fail;exact ⟨rfl, aG.bad HE.out rfl (HM.base.trans ((((ξf _ w).alloc HM.base.size _)).trans (HB2.mono (by have := HM.base.size; simp; omega))))⟩
    · have hi1 : ¬ (1000 : Int) < (dn : Int) := by omega
      have HR1 := κ (HR.trans (ψh (by rw [HDD.out]; exact h1)));by_cases h2 : 262144 ≤ st.nodes.length
      · have hi2 : (262144 : Int) ≤ (st.nodes.length : Int) := by omega
        have HE : RowKit.Hid (R = .error (.stop s.1 s.2 3)) := HR1.trans (ψi h2);obtain ⟨na, ncap, hnv⟩ := qw HM.nrow;subst hnv;go_wp2_with fail;refine (nI s 3 _).mono ?_;rintro e w2 ⟨rfl, hb2⟩;have HB2 := κ hb2; clear hb2;go_wp2_with fail;exact ⟨rfl, aG.bad HE.out rfl (HM.base.trans ((((ξf _ w).alloc HM.base.size _)).trans (HB2.mono (by have := HM.base.size; simp; omega))))⟩
      · have hi2 : ¬ (262144 : Int) ≤ (st.nodes.length : Int) := by omega
        have HR2 := κ (HR1.trans (ψh h2));by_cases h3 : 262144 ≤ st.deep.length
        · exact absurd (HR2.trans (ψi h3)) HNE
        have HR3 := κ (HR2.trans (ψh h3));obtain ⟨na, ncap, hnv⟩ := qw HM.nrow;subst hnv;obtain ⟨da, dcap, hdv⟩ := qw HM.drow;subst hdv;obtain ⟨i0, hq, hq0, hq1, hq2⟩ := info_parts Tryz.infoNode;obtain ⟨j0, hj, hj0, hj1, hj2⟩ := info_parts Tryz.infoInt;have HQ := κ (ξc hq (ξc hq0 (ξc hq1 hq2)));have HJ := κ (ξc hj (ξc hj0 (ξc hj1 hj2)));clear hq hq0 hq1 hq2 hj hj0 hj1 hj2;go_wp2_with fail;have HN1 := κ (fun o1 o2 => ((HM.alloc o1).alloc o2));have d22 := fun o1 => ay (d2 o1);have hbs := HM.base.size;have HI2 := κ (fun o1 o2 => HI.keep (w' := (w.alloc o1).alloc o2) (fun k e => ((ξe (w.alloc o1) o2 k (by simp; have := (HM.hi k (by rw [HIM.out k e]; decide)).2; omega)).trans (ξe w o1 k (HM.hi k (by rw [HIM.out k e]; decide)).2))));go_region_law ((refine ψj _ rfl (.tmp 49) (.tmp 58) 33 rfl w0.heap.size 41 i0 (.agg #[.int .i64 0, .string ⟨#[]⟩, .slice none 0 0, .slice none 0 0, .int .i64 0, .int .i64 0]) 6 88 Tryz.underlying33 HQ.out.1 HQ.out.2.1 HQ.out.2.2.1 HQ.out.2.2.2 rfl (by decide) (.slice na st.nodes.length ncap) st.nodes.length xs (by simp [Act.eval]) (by exact (HN1.out _ _).nrow) ⟨w.heap.size + 1, 0, none⟩ 1 1 [.int .i64 k, str text, .slice none 0 0, .slice ka kids.length kcap, .int .i64 s.1, .int .i64 s.2] (by simp [Act.eval]) rfl (by exact ξW (su _ _ _)) (Mg _ _ _ _ _ _ _) (by decide) (by unfold maxLen; omega) (by omega) (by simp [World.drew]; omega) _ rfl ?_); intro g cap w2 hrow hgr hgb hgl; have hfar := (HN1.out _ _).nfar hgr rfl; have hfc := hfar.1; have hff := hfar.2; clear hfar)
        all_goals
         have HM2 := κ ((HN1.out _ _).addNode (n := ⟨k, text, [], kids.map Int.ofNat, s.1, s.2⟩) (pv := .slice none 0 0) (kv := .slice ka kids.length kcap) (Strs.nil _) (Im.nil U 4) (HI2.out _ _) HIM.out (by omega) hrow (Bn hgr) (hgb.imp id (fun e => by subst e; simp)) hgl);have HF2 := κ (((((Fr.refl w U).alloc _).alloc _).grown (Bn hgr) (fun k e => .inr (by rw [HM.nim k e]; decide))).setCell (p := ⟨b, 2, none⟩) (.inr (by rw [show U (⟨b, 2, none⟩ : Addr).block = 1 from HM.ub]; decide)) (.slice (some ⟨g, 0, none⟩) (st.nodes.length + 1) cap) |>.set (k := g) (r := 2) (by rcases hgb with e | e; exact .inr (by rw [HM.nim _ e]; decide); exact .inl (by rw [e]; simp [World.drew]; omega)));have HD2 : RowKit.Hid (∀ k, (Value.slice da st.deep.length dcap).ownBlock = some k → U k ≠ 0) := fun k e => by rw [HM.dim k e]; decide
         clear hrow hgr hgb hgl hfc hff;obtain ⟨W2, hW2⟩ : ∃ W, w2.setCell ⟨b, 2, none⟩ (.slice (some ⟨g, 0, none⟩) (st.nodes.length + 1) cap) = W := ⟨_, rfl⟩;rw [hW2] at HM2 HF2 ⊢;clear hW2;have c3 : W2.cell? ⟨b, 3, none⟩ = some (.slice da st.deep.length dcap) := by simp [World.cell?, HM2.blk]
         have HM3 := κ (fun o => HM2.alloc o);have hbs2 := HM2.base.size;go_wp2_with (first | (at_builtin; refine ψm _ rfl (.tmp 66) (.tmp 68) 39 rfl w0.heap.size 3 j0 (.int .i64 0) 1 8 Tryz.underlying39 HJ.out.1 HJ.out.2.1 HJ.out.2.2.1 HJ.out.2.2.2 rfl (by decide) (.slice da st.deep.length dcap) st.deep.length _ rfl (HM3.out _).drow ⟨W2.heap.size, 0, none⟩ 1 1 [.int .i64 dn] rfl rfl (ξW (ψe _ _)) (bP _) (by decide) (by unfold maxLen; omega) (by omega) (by simp; omega) _ rfl ?_; intro g2 cap2 w5 hrow2 hgr2 hgb2 hgl2; have hfar := (HM3.out _).dfar hgr2 rfl; have hfc := hfar.1; have hff := hfar.2.1; have hfn := hfar.2.2; clear hfar));go_ret;have HR4 := HR3.out;rw [HDD.out] at HR4;have hm4 := (HM3.out _).addDeep (d := dn) (by omega) (by show st.deep.length < _; omega) hrow2 hgr2 (hgb2.imp id (fun e => by rw [e]; exact ξF _)) hgl2;refine aG.good HR4 rfl (show _ = _ by simp) ⟨_, _, _, hm4⟩ ((((HF2.alloc _).grown hgr2 (fun k e => .inr (HD2.out k e))).setCell (p := ⟨b, 3, none⟩) (.inr (by rw [show U (⟨b, 3, none⟩ : Addr).block = 1 from HM.ub]; decide)) _).set (k := g2) (r := 3) ?_);rcases hgb2 with e | e
         · exact .inr (HD2 _ e)
         · exact .inl (by rw [e]; have := HF2.size; simp; omega)
end
end Go.Proofs.YtbchkldhnjahaaaGreatDoor
