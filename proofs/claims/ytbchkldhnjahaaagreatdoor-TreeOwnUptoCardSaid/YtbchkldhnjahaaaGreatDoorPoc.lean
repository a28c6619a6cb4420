/- Part of the proof. Conditions: those of each theorem. -/
import Derived.Test.YtbchkldhnjahaaaGreatDoorPoa
import Derived.Test.YtbchkldhnjahaaaGreatDoorPob
set_option maxRecDepth 100000
set_option maxHeartbeats 40000000
namespace Kiln
def wpM {α : Type} (m : M α) (Q : α → PS → Prop) (st : PS) : Prop := match m st with
 | .ok x => Q x.1 x.2
 | .error .out => False
 | .error (.stop _ _ _) => True
theorem wb {α β : Type} {m : M α} {f : α → M β} {P : α → PS → Prop} {Q : β → PS → Prop} {st : PS} (h : wpM m P st) (k : ∀ a s, P a s → wpM (f a) Q s) : wpM (m >>= f) Q st := by
 unfold wpM at h;cases hm : m st with
 | ok x =>
  rw [hm] at h;unfold wpM;rw [show (m >>= f) st = f x.1 x.2 from bind_ok hm];exact k x.1 x.2 h
 | error e =>
  rw [hm] at h;unfold wpM;rw [show (m >>= f) st = .error e from dB hm];cases e with
  | out => exact h
  | stop a b c => exact ξQ
theorem bB {α : Type} {m : M α} {P Q : α → PS → Prop} {st : PS} (h : wpM m P st) (k : ∀ a s, P a s → Q a s) : wpM m Q st := by
 unfold wpM at h ⊢;cases hm : m st with
 | ok x => rw [hm] at h; exact k x.1 x.2 h
 | error e =>
  rw [hm] at h;cases e with
  | out => exact h
  | stop a b c => exact ξQ
theorem aP {α β : Type} {g : PS → α} {f : α → M β} {Q : β → PS → Prop} {st : PS} (h : wpM (f (g st)) Q st) : wpM ((fun s => .ok (g s, s) : M α) >>= f) Q st := h
theorem aR {α : Type} {a : α} {Q : α → PS → Prop} {st : PS} (h : Q a st) : wpM (pure a : M α) Q st := h
theorem pb {α β : Type} {a : α} {f : α → M β} {Q : β → PS → Prop} {st : PS} (h : wpM (f a) Q st) : wpM ((pure a : M α) >>= f) Q st := h
def zf (sc : List Names) : Nat := (sc.map List.length).sum
structure Inv (ts : List Tok) (o k : Nat) (st : PS) : Prop where
 int : ∀ t ∈ ts, t.kind = 4 → t.text ≠ []
 opn : st.opn = o
 opl : o ≤ 1000
 pos : st.pos ≤ ts.length
 len : st.deep.length = st.nodes.length
 many : st.nodes.length ≤ 262144
 sc : st.sc.length = k + 1
 tot : zf st.sc ≤ 18 + st.nodes.length
 good : lT st.nodes
 tp : ∀ t ∈ ts, t.path.length ≤ 1099511627776
 lens : ∀ n ∈ st.nodes, n.kids.length ≤ 262154 ∧ n.path.length ≤ 1099511627776
def Ext (l l' : List Nd) : Prop := ∃ e, l' = l ++ e
structure Stp (a b : PS) : Prop where
 pos : a.pos ≤ b.pos
 ext : Ext a.nodes b.nodes
theorem Ext.refl (l : List Nd) : Ext l l := ⟨[], by simp⟩
theorem Ext.trans {a b c : List Nd} (h : Ext a b) (k : Ext b c) : Ext a c := by
 obtain ⟨e, rfl⟩ := h;obtain ⟨f, rfl⟩ := k;exact ⟨e ++ f, by simp⟩
theorem Stp.refl (s : PS) : Stp s s := ⟨ξF _, Ext.refl _⟩
theorem Stp.trans {a b c : PS} (h : Stp a b) (k : Stp b c) : Stp a c := ⟨ξG h.pos k.pos, h.ext.trans k.ext⟩
theorem Ext.len {l l' : List Nd} (h : Ext l l') : l.length ≤ l'.length := by obtain ⟨e, rfl⟩ := h; simp
theorem Stp.len {a b : PS} (h : Stp a b) : a.nodes.length ≤ b.nodes.length := h.ext.len
structure Knd where
 f : List Nd → Nd → Bool
 st : ∀ l e n, Rng l n.kids → f l n = true → f (l ++ e) n = true
def KN (l : List Nd) (P : Knd) (i : Nat) : Prop := lT l ∧ ∃ n, l[i]? = some n ∧ P.f l n = true
def KL (l : List Nd) (P : Knd) (is : List Nat) : Prop := ∀ i ∈ is, KN l P i
theorem KN.up' {l l' : List Nd} {P : Knd} {i : Nat} (h : KN l P i) (he : Ext l l') (hg : lT l') : KN l' P i := by
 obtain ⟨hg0, n, hn, hp⟩ := h;obtain ⟨e, rfl⟩ := he;have hi := (ξz.1 hn).1;refine ⟨hg, n, by rw [ξs hi]; exact hn, P.st l e n (fun k hk => ?_) hp⟩;have := (hg0 i n hn).1 k hk;exact ⟨this.1, by omega⟩
theorem KL.up' {l l' : List Nd} {P : Knd} {is : List Nat} (h : KL l P is) (he : Ext l l') (hg : lT l') : KL l' P is := fun i hi => (h i hi).up' he hg
theorem KN.lt {l : List Nd} {P : Knd} {i : Nat} (h : KN l P i) : i < l.length := by obtain ⟨_, n, hn, _⟩ := h; exact (ξz.1 hn).1
theorem KL.nil {l : List Nd} {P : Knd} : KL l P [] := fun i hi => by simp at hi
theorem KL.one {l : List Nd} {P : Knd} {i : Nat} (h : KN l P i) : KL l P [i] := fun j hj => by simp at hj; subst hj; exact h
theorem KL.app {l : List Nd} {P : Knd} {a b : List Nat} (h : KL l P a) (k : KL l P b) : KL l P (a ++ b) := fun j hj => by
 rcases ξ9.1 hj with h1 | h1
 · exact h j h1
 · exact k j h1
theorem KL.cons {l : List Nd} {P : Knd} {i : Nat} {b : List Nat} (h : KN l P i) (k : KL l P b) : KL l P (i :: b) := KL.app (KL.one h) k
theorem KN.mono {l : List Nd} {P Q : Knd} {i : Nat} (h : KN l P i) (hm : ∀ n, P.f l n = true → Q.f l n = true) : KN l Q i := by
 obtain ⟨hg, n, hn, hp⟩ := h;exact ⟨hg, n, hn, hm n hp⟩
def Gk (g : Nat) : Knd := ⟨fun _ n => bw g n.kind, fun _ _ _ _ h => h⟩
def Kd (k : Int) : Knd := ⟨fun _ n => n.kind == k, fun _ _ _ _ h => h⟩
theorem BO {l e : List Nd} {g : Int → Bool} {ks : List Int} (hr : Rng l ks) : (ks.all fun j => g (kindOf (l ++ e) j)) = ks.all fun j => g (kindOf l j) := by
 rw [Bool.eq_iff_iff, List.all_eq_true, List.all_eq_true];refine forall_congr' fun j => forall_congr' fun hj => ?_;rw [iW (hr j hj).2 (hr j hj).1]
def Kw (k : Int) (lo hi : Nat) (g : Int → Bool) : Knd := ⟨fun l n => (n.kind == k) && (decide (lo ≤ n.kids.length) && decide (n.kids.length ≤ hi) && n.kids.all fun j => g (kindOf l j)), fun l e n hr h => by
 rw [BO hr]; exact h⟩
def Kex : Knd := ⟨fun l n => (n.kind == 65) || (n.kind == 62) && (decide (n.kids.length ≤ 1) && n.kids.all fun j => bw 2 (kindOf l j)), fun l e n hr h => by
 rw [BO hr]; exact h⟩
theorem KN.g {l : List Nd} {g : Nat} {i : Nat} (h : KN l (Gk g) i) : bw g (kindOf l (i : Int)) = true := by
 obtain ⟨_, n, hn, hp⟩ := h;unfold kindOf;rw [show ((i : Int)).toNat = i from rfl, hn];exact hp
theorem KN.d {l : List Nd} {k : Int} {i : Nat} (h : KN l (Kd k) i) : kindOf l (i : Int) = k := by
 obtain ⟨_, n, hn, hp⟩ := h;unfold kindOf;rw [show ((i : Int)).toNat = i from rfl, hn];simpa [Kd] using hp
theorem KN.w {l : List Nd} {k : Int} {lo hi : Nat} {g : Int → Bool} {i : Nat} (h : KN l (Kw k lo hi g) i) : KN l (Kd k) i := h.mono fun n hn => by
 simp only [Kw, ξg] at hn;exact hn.1
theorem KL.g {l : List Nd} {g : Nat} {is : List Nat} (h : KL l (Gk g) is) : ∀ c ∈ is.map Int.ofNat, bw g (kindOf l c) = true := fun c hc => by
 obtain ⟨i, hi, rfl⟩ := List.mem_map.1 hc;exact (h i hi).g
theorem KL.d {l : List Nd} {k : Int} {is : List Nat} (h : KL l (Kd k) is) : ∀ c ∈ is.map Int.ofNat, kindOf l c = k := fun c hc => by
 obtain ⟨i, hi, rfl⟩ := List.mem_map.1 hc;exact (h i hi).d
theorem KL.mono {l : List Nd} {P Q : Knd} {is : List Nat} (h : KL l P is) (hm : ∀ i, KN l P i → KN l Q i) : KL l Q is := fun i hi => hm i (h i hi)
theorem KL.w {l : List Nd} {k : Int} {lo hi : Nat} {g : Int → Bool} {is : List Nat} (h : KL l (Kw k lo hi g) is) : KL l (Kd k) is := h.mono fun _ hi => hi.w
theorem KL.lt {l : List Nd} {P : Knd} {is : List Nat} (h : KL l P is) : ∀ i ∈ is, i < l.length := fun i hi => (h i hi).lt
theorem KL.inn {l : List Nd} {k : Int} {lo hi : Nat} {g : Int → Bool} {is : List Nat} (h : KL l (Kw k lo hi g) is) : inB l k lo hi g (is.map Int.ofNat) = true := EY fun c hc n hn _ => by
 obtain ⟨i, hi', rfl⟩ := List.mem_map.1 hc;obtain ⟨hg, m, hm, hp⟩ := h i hi';have e : m = n := by
  rw [show ((Int.ofNat i)).toNat = i from rfl, hm] at hn;exact Option.some.inj hn
 subst e;simp only [Kw, ξg, ψc, List.all_eq_true] at hp;exact ⟨hp.2.1.1, hp.2.1.2, fun j hj => ⟨((hg i _ hm).1 j hj).1, ((hg i _ hm).1 j hj).2, hp.2.2 j hj⟩⟩
theorem KL.ex {l : List Nd} {is : List Nat} (h : KL l Kex is) : inB l 62 0 1 (bw 2) (is.map Int.ofNat) = true ∧ ∀ c ∈ is.map Int.ofNat, bw 7 (kindOf l c) = true := by
 refine ⟨EY fun c hc n hn hk => ?_, fun c hc => ?_⟩
 · obtain ⟨i, hi', rfl⟩ := List.mem_map.1 hc;obtain ⟨hg, m, hm, hp⟩ := h i hi';have e : m = n := by
    rw [show ((Int.ofNat i)).toNat = i from rfl, hm] at hn;exact Option.some.inj hn
   subst e;simp only [Kex, ξj, ξg, ψc, List.all_eq_true, ξZ] at hp;rcases hp with hp | hp
   · omega
   · exact ⟨ξM _, hp.2.1, fun j hj => ⟨((hg i _ hm).1 j hj).1, ((hg i _ hm).1 j hj).2, hp.2.2 j hj⟩⟩
 · obtain ⟨i, hi', rfl⟩ := List.mem_map.1 hc;obtain ⟨hg, m, hm, hp⟩ := h i hi';unfold kindOf;rw [show ((Int.ofNat i)).toNat = i from rfl, hm];simp only [Kex, ξj, ξg, ξZ] at hp;rcases hp with hp | hp
   · simp [bw, hp]
   · simp [bw, hp.1]
section
variable {ts : List Tok} {o k : Nat} {st : PS}
theorem Inv.up {a b : PS} {P : Knd} {i : Nat} (h : KN a.nodes P i) (d : Stp a b) (hI : Inv ts o k b) : KN b.nodes P i := h.up' d.ext hI.good
abbrev St1 (ts : List Tok) (o k : Nat) (st s : PS) : Prop := Inv ts o k s ∧ Stp st s
theorem vG {j : Nat} {s : PS} (h : ∀ t ∈ ts, t.path.length ≤ 1099511627776) : (aB ts j s).path.length ≤ 1099511627776 := by
 unfold aB;rw [ξr];cases e : ts[s.pos + j]? with
 | none => simp [qq]
 | some t => exact h t (ξB e)
theorem kZ {j : Nat} (h : (aB ts j st).kind ≠ 0) : st.pos + j < ts.length := by
 rcases Nat.lt_or_ge (st.pos + j) ts.length with h1 | h1
 · exact h1
 · unfold aB at h;rw [ξr, ξx h1] at h;exact absurd rfl h
theorem gu {j : Nat} {s : Bytes} (h : isP ts j s st = true) : st.pos + j < ts.length := kZ (st := st) (by
 unfold isP at h;simp only [ξg, ξZ] at h;rw [h.1]; decide)
theorem lG {j : Nat} (h : cJ (aB ts j st) = true) : st.pos + j < ts.length := kZ (st := st) (by
 unfold cJ at h;simp only [ξg, ξZ] at h;rw [h.1]; decide)
theorem l9 {j : Nat} (h : 0 < (bM ts j st).2) : st.pos + j + (bM ts j st).2 ≤ ts.length ∧ (bM ts j st).2 ≤ 2 := by
 unfold bM at h ⊢;split
 · rename_i h1;simp only [ξg] at h1;have := lG h1.1;exact ⟨by show _ + 1 ≤ _; omega, by show 1 ≤ 2; decide⟩
 · rename_i h1;rw [ψh h1] at h;split
   · rename_i h2;rw [ψi h2] at h;split
     · rename_i h3;have := lG h3;exact ⟨by show _ + 2 ≤ _; omega, by show 2 ≤ 2; decide⟩
     · rename_i h3;rw [ψh h3] at h;split
       · rename_i h4;have := gu h4;exact ⟨by show _ + 2 ≤ _; omega, by decide⟩
       · rename_i h4;rw [ψh h4] at h;exact absurd h (by decide)
   · rename_i h2;rw [ψh h2] at h;exact absurd h (by decide)
theorem Inv.at (h : Inv ts o k st) {n : Nat} (hn : n ≤ ts.length) (hm : st.pos ≤ n) : St1 ts o k st { st with pos := n } :=
 ⟨⟨h.int, h.opn, h.opl, hn, h.len, h.many, h.sc, h.tot, h.good, h.tp, h.lens⟩, ⟨hm, Ext.refl _⟩⟩
theorem Inv.same (h : Inv ts o k st) : St1 ts o k st st := ⟨h, Stp.refl st⟩
theorem bV (n : Nat) (h : Inv ts o k st) (hn : st.pos + n ≤ ts.length) : wpM (cu ts n) (fun _ s => St1 ts o k st s ∧ s.pos = st.pos + n ∧ s.nodes = st.nodes ∧ s.sc = st.sc) st := by
 unfold wpM cu;rw [ψi hn];exact ⟨h.at hn (Nat.le_add_right _ _), rfl, rfl, rfl⟩
theorem aN (x : Bytes) (h : Inv ts o k st) : wpM (aX ts x) (fun b s => St1 ts o k st s ∧ (b = true → s.pos = st.pos + 1) ∧ s.nodes = st.nodes ∧ s.sc = st.sc ∧ isP ts 0 x st = b ∧ (b = false → s = st)) st := by
 unfold wpM aX;cases hb : isP ts 0 x st
 · exact ⟨h.same, fun e => by simp at e, rfl, rfl, rfl, fun _ => rfl⟩
 · have := gu hb;exact ⟨h.at (by omega) (by omega), fun _ => rfl, rfl, rfl, rfl, fun e => by simp at e⟩
theorem bA (x : Bytes) (h : Inv ts o k st) : wpM (bF ts x) (fun _ s => St1 ts o k st s ∧ s.pos = st.pos + 1 ∧ s.nodes = st.nodes ∧ s.sc = st.sc) st := by
 unfold wpM bF;cases hb : isP ts 0 x st
 · exact ξQ
 · have := gu hb;exact ⟨h.at (by omega) (by omega), rfl, rfl, rfl⟩
theorem dJ (h : Inv ts o k st) : wpM (aW ts) (fun _ s => St1 ts o k st s ∧ s.pos = st.pos + 1 ∧ s.nodes = st.nodes ∧ s.sc = st.sc) st := by
 unfold wpM aW;cases hb : cJ (aB ts 0 st)
 · exact ξQ
 · have := lG hb;exact ⟨h.at (by omega) (by omega), rfl, rfl, rfl⟩
theorem fW {α : Type} {Q : α → PS → Prop} : wpM (jK ts : M α) Q st := ξQ
theorem ju (h : Inv ts o k st) : wpM (gB ts) (fun _ s => St1 ts (o + 1) k st s ∧ o + 1 ≤ 1000 ∧ s.pos = st.pos ∧ s.nodes = st.nodes ∧ s.sc = st.sc) st := by
 have h1 := h.opn;have h2 := h.opl;unfold wpM gB;rw [ψh (by omega)];by_cases h3 : 1000 < st.opn + 1
 · rw [ψi h3]; exact ξQ
 · rw [ψh h3];exact ⟨⟨⟨h.int, by show st.opn + 1 = _; omega, by omega, h.pos, h.len, h.many, h.sc, h.tot, h.good, h.tp, h.lens⟩, ⟨ξF _, Ext.refl _⟩⟩, by omega, rfl, rfl, rfl⟩
theorem jl (h : Inv ts (o + 1) k st) : wpM dh (fun _ s => St1 ts o k st s ∧ s.pos = st.pos ∧ s.nodes = st.nodes ∧ s.sc = st.sc) st := by
 have h1 := h.opn;have h2 := h.opl;unfold wpM dh;rw [ψh (by omega)];exact ⟨⟨⟨h.int, by show st.opn - 1 = _; omega, by omega, h.pos, h.len, h.many, h.sc, h.tot, h.good, h.tp, h.lens⟩, ⟨ξF _, Ext.refl _⟩⟩, rfl, rfl, rfl⟩
theorem jh {P : Knd} {i : Nat} (h : Inv ts o k st) (hi : KN st.nodes P i) : wpM (ofM i) (fun _ s => St1 ts o k st s ∧ s = st) st := by
 unfold wpM ofM;rw [ψi hi.lt];exact ⟨h.same, rfl⟩
theorem dH {α : Type} {l : List α} (h : Inv ts o k st) (hl : l.length ≤ 262144) : wpM (cA l) (fun _ s => St1 ts o k st s ∧ s = st) st := by
 unfold wpM cA;rw [ψi (by omega)];exact ⟨h.same, rfl⟩
theorem tV (h : Inv ts o k st) : qd ts st = true := by
 unfold qd;cases hk : (aB ts 0 st).kind == 4
 · rfl
 · have hk' : (aB ts 0 st).kind = 4 := by simpa using hk
   have hlt := kZ (ts := ts) (st := st) (j := 0) (by rw [hk']; decide);have hm : aB ts 0 st ∈ ts := by
    unfold aB;rw [ξr, ξw hlt];exact List.getElem_mem _
   have := h.int _ hm hk';simp [this]
theorem Ba (h : dF ts st ≠ []) : st.pos + 0 < ts.length := by
 refine kZ (st := st) fun e => h ?_;unfold dF cJ;simp [e]
theorem ku (h : Inv ts o k st) : wpM (cK ts) (fun _ s => St1 ts o k st s ∧ s.pos = st.pos + 1 ∧ s.nodes = st.nodes ∧ s.sc = st.sc) st := by
 unfold wpM cK;rw [ψi (tV h)];by_cases hl : (dF ts st == []) = true
 · rw [ψi hl]; exact ξQ
 · rw [ψh hl];have := Ba (ts := ts) (st := st) (by simpa using hl);exact ⟨h.at (by omega) (by omega), rfl, rfl, rfl⟩
theorem EU (h : Inv ts o k st) {β : Type} {f : Bytes → M β} {Q : β → PS → Prop} (hf : wpM (f (dF ts st)) Q st) : wpM (jm ts >>= f) Q st := by
 refine wb (P := fun b s => b = dF ts st ∧ s = st) ?_ fun a s h1 => ?_
 · unfold wpM jm;rw [ψi (tV h)];exact ⟨rfl, rfl⟩
 · obtain ⟨rfl, rfl⟩ := h1;exact hf
theorem yC {l : List Nd} {n : Nd} (h : ∀ n ∈ l, n.kids.length ≤ 262154 ∧ n.path.length ≤ 1099511627776) (hn : n.kids.length ≤ 262154 ∧ n.path.length ≤ 1099511627776) : ∀ x ∈ l ++ [n], x.kids.length ≤ 262154 ∧ x.path.length ≤ 1099511627776 := fun x hx => by
 rcases ξ9.1 hx with hx | hx
 · exact h x hx
 · rw [ξC.1 hx]; exact hn
theorem vQ (P : Knd) (sp : Int × Int) (kd : Int) (text : Bytes) (kids : List Nat) (h : Inv ts o k st) (sc' : List Names) (hsc : sc'.length = k + 1) (ht : zf sc' ≤ 19 + st.nodes.length) (hk : ∀ i ∈ kids, i < st.nodes.length)
 (hf : cT st.nodes ⟨kd, text, [], kids.map Int.ofNat, sp.1, sp.2⟩ = true) (hP : P.f st.nodes ⟨kd, text, [], kids.map Int.ofNat, sp.1, sp.2⟩ = true)
 (hn : kids.length ≤ st.nodes.length + 10 := by first | (simp only [ξ5, ξ2, ξ1]; omega) | omega) :
 wpM (aV sp kd text kids) (fun i s => St1 ts o k st s ∧ s.pos = st.pos ∧ st.nodes.length < s.nodes.length ∧ KN s.nodes P i ∧ s.sc = sc' ∧ i = st.nodes.length ∧ s.nodes = st.nodes ++ [⟨kd, text, [], kids.map Int.ofNat, sp.1, sp.2⟩]) { st with sc := sc' } := by
 have hr : Rng st.nodes (kids.map Int.ofNat) := fun c hc => by
  obtain ⟨i, hi, rfl⟩ := List.mem_map.1 hc;exact ⟨Int.natCast_nonneg _, by have := hk i hi; show (i : Int) < _; omega⟩
 have hlen := h.len;unfold wpM aV;rw [ψh (by
  simp only [List.any_eq_true, not_exists, Bool.not_eq_true', Bool.and_eq_false_iff, decide_eq_false_iff_not, not_and, not_or, Decidable.not_not];intro i hi;have := hk i hi;exact ⟨this, by omega⟩)]
 by_cases h1 : 1000 < iJ st.deep kids 1
 · rw [ψi h1]; exact ξQ
 rw [ψh h1];by_cases h2 : 262144 ≤ st.nodes.length
 · rw [ψi h2]; exact ξQ
 rw [ψh h2, ψh (by show ¬ 262144 ≤ st.deep.length; omega)];have hg := h.good.snoc (n := ⟨kd, text, [], kids.map Int.ofNat, sp.1, sp.2⟩) hr hf;refine ⟨⟨⟨h.int, h.opn, h.opl, h.pos, by simp [hlen], by simp; omega, hsc, by simp; omega, hg, h.tp, yC h.lens ⟨by rw [ξ4]; omega, by simp⟩⟩, ⟨ξF _, ⟨_, rfl⟩⟩⟩, rfl, by simp, ⟨hg, _, by simp, P.st _ _ _ hr hP⟩, rfl, rfl, rfl⟩
theorem aF (P : Knd) (sp : Int × Int) (kd : Int) (text : Bytes) (kids : List Nat) (h : Inv ts o k st) (hk : ∀ i ∈ kids, i < st.nodes.length)
 (hf : cT st.nodes ⟨kd, text, [], kids.map Int.ofNat, sp.1, sp.2⟩ = true) (hP : P.f st.nodes ⟨kd, text, [], kids.map Int.ofNat, sp.1, sp.2⟩ = true)
 (hn : kids.length ≤ st.nodes.length + 10 := by first | (simp only [ξ5, ξ2, ξ1]; omega) | omega) :
 wpM (aV sp kd text kids) (fun i s => St1 ts o k st s ∧ s.pos = st.pos ∧ st.nodes.length < s.nodes.length ∧ KN s.nodes P i ∧ s.sc = st.sc ∧ i = st.nodes.length ∧ s.nodes = st.nodes ++ [⟨kd, text, [], kids.map Int.ofNat, sp.1, sp.2⟩]) st :=
 vQ P sp kd text kids h st.sc h.sc (by have := h.tot; omega) hk hf hP hn
theorem vV (P : Knd) (sp : Int × Int) (kd : Int) (text : Bytes) (kids : List Nat) (pa : List Bytes) (h : Inv ts o k st) (hk : ∀ i ∈ kids, i < st.nodes.length)
 (hf : cT st.nodes ⟨kd, text, [], kids.map Int.ofNat, sp.1, sp.2⟩ = true) (hP : P.f st.nodes ⟨kd, text, pa, kids.map Int.ofNat, sp.1, sp.2⟩ = true) (hpa : pa.length ≤ 1099511627776)
 (hn : kids.length ≤ st.nodes.length + 10 := by first | (simp only [ξ5, ξ2, ξ1]; omega) | omega) :
 wpM (aV sp kd text kids >>= fun i => setPath i pa >>= fun _ => (pure i : M Nat)) (fun i s => St1 ts o k st s ∧ s.pos = st.pos ∧ st.nodes.length < s.nodes.length ∧ KN s.nodes P i) st := by
 have hr : Rng st.nodes (kids.map Int.ofNat) := fun c hc => by
  obtain ⟨i, hi, rfl⟩ := List.mem_map.1 hc;exact ⟨Int.natCast_nonneg _, by have := hk i hi; show (i : Int) < _; omega⟩
 have hg := h.good.snoc (n := ⟨kd, text, pa, kids.map Int.ofNat, sp.1, sp.2⟩) hr hf;refine wb (aF ⟨fun _ _ => true, fun _ _ _ _ h => h⟩ sp kd text kids h hk hf rfl hn) fun i s hs => ?_;obtain ⟨⟨hI, d⟩, e1, e2, -, e4, rfl, e6⟩ := hs;have hm : s.nodes.modify st.nodes.length (fun n => { n with path := pa }) = st.nodes ++ [⟨kd, text, pa, kids.map Int.ofNat, sp.1, sp.2⟩] := by
  rw [e6];refine List.ext_getElem? fun j => ?_;rw [List.getElem?_modify];by_cases hj : st.nodes.length = j
  · subst hj; simp
  · simp only [hj, ↓reduceIte];rcases Nat.lt_trichotomy j st.nodes.length with h1 | h1 | h1
    · rw [ξs h1, ξs h1]; simp
    · omega
    · rw [ξx (by simp; omega), ξx (by simp; omega)]; rfl
 show wpM (setPath st.nodes.length pa >>= fun _ => (pure st.nodes.length : M Nat)) _ s;have e : (setPath st.nodes.length pa >>= fun _ => (pure st.nodes.length : M Nat)) s = .ok (st.nodes.length, { s with nodes := st.nodes ++ [⟨kd, text, pa, kids.map Int.ofNat, sp.1, sp.2⟩] }) := by
  rw [← hm]; rfl
 unfold wpM;rw [e];have hl : s.nodes.length = st.nodes.length + 1 := by rw [e6]; simp
 have h5 := hI.len;have h6 := hI.many;have h7 := hI.tot;exact ⟨⟨⟨hI.int, hI.opn, hI.opl, hI.pos, by simp; omega, by simp; omega, hI.sc, by simp; omega, hg, h.tp, yC h.lens ⟨by show (kids.map Int.ofNat).length ≤ _; rw [ξ4]; have := h.many; omega, hpa⟩⟩, ⟨d.pos, ⟨_, rfl⟩⟩⟩, e1, by simp, hg, _, by simp, P.st _ _ _ hr hP⟩
def Ph (ts : List Tok) (o k : Nat) (P : Knd) (m : M Nat) : Prop :=
 ∀ st, Inv ts o k st → wpM m (fun i s => St1 ts o k st s ∧ st.pos < s.pos ∧ st.nodes.length < s.nodes.length ∧ KN s.nodes P i) st
def Ph0 (ts : List Tok) (o k : Nat) (P : Knd) (m : M Nat) : Prop :=
 ∀ st, Inv ts o k st → wpM m (fun i s => St1 ts o k st s ∧ st.nodes.length < s.nodes.length ∧ KN s.nodes P i) st
def PhL (ts : List Tok) (o k : Nat) (P : Knd) (m : M (List Nat)) : Prop :=
 ∀ st, Inv ts o k st → wpM m (fun l s => St1 ts o k st s ∧ st.pos < s.pos ∧ l.length ≤ s.nodes.length ∧ KL s.nodes P l ∧ 1 ≤ l.length ∧ st.nodes.length < s.nodes.length) st
theorem KN.up {s s' : PS} {P : Knd} {i : Nat} (h : KN s.nodes P i) (he : Stp s s' ∧ lT s'.nodes) : KN s'.nodes P i := h.up' he.1.ext he.2
theorem KL.up {s s' : PS} {P : Knd} {i : List Nat} (h : KL s.nodes P i) (he : Stp s s' ∧ lT s'.nodes) : KL s'.nodes P i := h.up' he.1.ext he.2
theorem iO {P : Knd} {sign : Bytes} {one : M Nat} (h1 : Ph ts o k P one) : ∀ (f : Nat) (l : List Nat) (st : PS), Inv ts o k st → ts.length < f + st.pos → l.length ≤ st.nodes.length →
 wpM (dw ts sign one f l) (fun l' s => St1 ts o k st s ∧ ∃ m, l' = l ++ m ∧ KL s.nodes P m ∧ l'.length ≤ s.nodes.length ∧ (isP ts 0 sign st = true → 1 ≤ m.length)) st
 | 0, l, st, hI, hf, hl => by have := hI.pos; omega
 | f + 1, l, st, hI, hf, hl => by
  have hS := Stp.refl st;unfold dw;refine wb (aN sign hI) fun b s1 h1 => ?_;obtain ⟨⟨hI, d1⟩, ⟨a1, b1, -, c1, -⟩⟩ := h1;have p1 := d1.pos;have q1 := d1.len;have hS := hS.trans d1;cases b
  · simp only [ξh, ↓reduceIte];exact aR ⟨⟨hI, hS⟩, [], by simp, KL.nil, by rw [b1]; exact hl, fun e => by rw [c1] at e; cases e⟩
  · simp only [↓reduceIte];have a1 := a1 rfl;refine wb (h1 _ hI) fun i s2 h2 => ?_;obtain ⟨⟨hI, d2⟩, ⟨a2, b2, ki⟩⟩ := h2;have p2 := d2.pos;have q2 := d2.len;have hS := hS.trans d2;have hm := hI.many;refine wb (dH hI (by omega)) fun u s3 h3 => ?_;obtain ⟨⟨hI, d3⟩, e3⟩ := h3;have p3 := d3.pos;have q3 := d3.len;have hS := hS.trans d3;subst e3;refine bB (iO h1 f (l ++ [i]) _ hI (by omega) (by simp; omega)) fun l' s4 h4 => ?_;obtain ⟨⟨hI4, d4⟩, m, rfl, hm4, hl4, -⟩ := h4;exact ⟨⟨hI4, hS.trans d4⟩, i :: m, by simp, KL.cons (ki.up ⟨d4, hI4.good⟩) hm4, hl4, fun _ => by simp⟩
theorem cZ {P : Knd} {sign : Bytes} {one : M Nat} (h1 : Ph ts o k P one) : PhL ts o k P (qY ts sign one) := by
 intro st hI;have hS := Stp.refl st;unfold qY;refine wb (h1 _ hI) fun i s1 h1 => ?_;obtain ⟨⟨hI, d1⟩, ⟨a1, b1, ki⟩⟩ := h1;have p1 := d1.pos;have q1 := d1.len;have hS := hS.trans d1;refine bB (iO h1 (ts.length + 1) [i] _ hI (by omega) (by simp; omega)) fun l' s h => ?_;obtain ⟨⟨hI4, d4⟩, m, rfl, hm4, hl4, -⟩ := h;have p4 := d4.pos;have q4 := d4.len;exact ⟨⟨hI4, hS.trans d4⟩, by omega, hl4, KL.cons (ki.up ⟨d4, hI4.good⟩) hm4, by simp, by omega⟩
structure fQ (ts : List Tok) (o : Nat) (L : Low) : Prop where
 exp : ∀ k, Ph ts o k (Gk 0) L.exp
 pat : ∀ k, Ph ts o k (Gk 1) L.pat
 ty : ∀ k, Ph ts o k (Gk 2) L.ty
 decs : ∀ k, Ph0 ts o k (Kd 50) L.decs
 str : ∀ k, Ph ts o k (Gk 4) L.str
 sig : ∀ k, Ph ts o k (Gk 5) L.sig
end
end Kiln
namespace Kiln
section
variable {ts : List Tok} {o k : Nat} {s0 st : PS}
theorem wc {α β : Type} {m : M α} {f : α → M β} {P : α → PS → Prop} {Q : β → PS → Prop} (hS : Stp s0 st) (h : wpM m (fun a s => St1 ts o k st s ∧ P a s) st)
 (hf : ∀ a s, Inv ts o k s → Stp st s → Stp s0 s → st.pos ≤ s.pos → st.nodes.length ≤ s.nodes.length → P a s → wpM (f a) Q s) : wpM (m >>= f) Q st :=
 wb h fun a s hs => hf a s hs.1.1 hs.1.2 (hS.trans hs.1.2) hs.1.2.pos hs.1.2.len hs.2
theorem we {α : Type} {m : M α} {P Q : α → PS → Prop} (hS : Stp s0 st) (h : wpM m (fun a s => St1 ts o k st s ∧ P a s) st)
 (hf : ∀ a s, Inv ts o k s → Stp st s → St1 ts o k s0 s → st.pos ≤ s.pos → st.nodes.length ≤ s.nodes.length → P a s → Q a s) : wpM m Q st :=
 bB h fun a s hs => hf a s hs.1.1 hs.1.2 ⟨hs.1.1, hS.trans hs.1.2⟩ hs.1.2.pos hs.1.2.len hs.2
end
end Kiln
namespace Kiln
section
variable {ts : List Tok} {o k : Nat} {st : PS} {L : Low}
theorem lt1 {l : List Nd} {P : Knd} {a : Nat} (h : KN l P a) : ∀ i ∈ [a], i < l.length := (KL.one h).lt
theorem lt2 {l : List Nd} {P Q : Knd} {a b : Nat} (h : KN l P a) (h2 : KN l Q b) : ∀ i ∈ [a, b], i < l.length := fun i hi => by
 simp only [List.mem_cons, List.not_mem_nil, or_false] at hi;rcases hi with rfl | rfl
 · exact h.lt
 · exact h2.lt
theorem lt3 {l : List Nd} {P Q R : Knd} {a b c : Nat} (h : KN l P a) (h2 : KN l Q b) (h3 : KN l R c) : ∀ i ∈ [a, b, c], i < l.length := fun i hi => by
 simp only [List.mem_cons, List.not_mem_nil, or_false] at hi;rcases hi with rfl | rfl | rfl
 · exact h.lt
 · exact h2.lt
 · exact h3.lt
theorem lt0 {n : Nat} : ∀ i ∈ ([] : List Nat), i < n := fun i hi => by simp at hi
theorem GJ (HL : fQ ts o L) : Ph ts o k (Kd 27) (rB ts L) := by
 intro st hI;have hS := Stp.refl st;unfold rB;refine wc hS (HL.pat k _ hI) ?_;rintro a s1 hI d1 hS p1 q1 ⟨a1, b1, ka⟩;refine wc hS (bA _ hI) ?_;rintro u s2 hI d2 hS p2 q2 ⟨a2, b2, -⟩;have ka := ka.up ⟨d2, hI.good⟩;refine wc hS (HL.exp k _ hI) ?_;rintro e s3 hI d3 hS p3 q3 ⟨a3, b3, ke⟩;have ka := ka.up ⟨d3, hI.good⟩;refine wc hS (jh hI ka) ?_;rintro sp s4 hI d4 hS p4 q4 e4;subst e4;refine we hS (aF (Kd 27) _ _ _ _ hI (lt2 ka ke) (by simp [cT, aJ, jC, seqB, ka.g, ke.g]) rfl) ?_;rintro iz sz hI dz hS pz qz ⟨a9, b9, k9, -⟩;exact ⟨hS, by omega, by omega, k9⟩
theorem rR (HL : fQ ts o L) : PhL ts o k (Kd 27) (kR ts L) := cZ (GJ HL)
theorem Kr {l : List Nd} {g e : Nat} {t : Bytes} {x y : Int} (hg : g ≤ 2) (ke : KN l (Gk g) e) : cT l ⟨28, t, [], [e].map Int.ofNat, x, y⟩ = true := by
 obtain rfl | rfl | rfl : g = 0 ∨ g = 1 ∨ g = 2 := by omega
 all_goals simp [cT, aJ, seqB, ke.g]
theorem sF {g : Nat} {sign : Bytes} {part : M Nat} (hg : g ≤ 2) (h1 : Ph ts o k (Gk g) part) : ∀ (f : Nat) (l : List Nat) (st : PS), Inv ts o k st → ts.length < f + st.pos → l.length ≤ st.nodes.length →
 wpM (jq ts sign part f l) (fun l' s => St1 ts o k st s ∧ ∃ m, l' = l ++ m ∧ KL s.nodes (Kw 28 1 1 (bw g)) m ∧ l'.length ≤ s.nodes.length ∧ st.pos < s.pos) st
 | 0, l, st, hI, hf, hl => by have := hI.pos; omega
 | f + 1, l, st, hI, hf, hl => by
  have hS := Stp.refl st;unfold jq;refine aP (g := ak ts) ?_;refine wc hS (ku hI) ?_;rintro tx s1 hI d1 hS p1 q1 ⟨a1, b1, -⟩;refine wc hS (bA _ hI) ?_;rintro u s2 hI d2 hS p2 q2 ⟨a2, b2, -⟩;refine wc hS (h1 _ hI) ?_;rintro e s3 hI d3 hS p3 q3 ⟨a3, b3, ke⟩;refine wc hS (aF (Kw 28 1 1 (bw g)) _ _ _ _ hI (lt1 ke) (Kr hg ke) (by simp [Kw, ke.g])) ?_;rintro i s4 hI d4 hS p4 q4 ⟨a4, b4, ki, -⟩;have hm := hI.many;refine wc hS (dH hI (by omega)) ?_;rintro u s5 hI d5 hS p5 q5 e5;subst e5;refine wc hS (aN _ hI) ?_;rintro b s6 hI d6 hS p6 q6 ⟨a6, b6, -⟩;have ki := ki.up ⟨d6, hI.good⟩;cases b
  · simp only [ξh, ↓reduceIte];refine wc hS (bA _ hI) ?_;rintro u s7 hI d7 hS p7 q7 ⟨a7, b7, -⟩;have ki := ki.up ⟨d7, hI.good⟩;exact aR ⟨⟨hI, hS⟩, [i], rfl, KL.one ki, by simp; omega, by omega⟩
  · simp only [↓reduceIte];have a6 := a6 rfl;refine bB (sF hg h1 f (l ++ [i]) _ hI (by omega) (by simp; omega)) fun l' s h => ?_;obtain ⟨⟨hI4, d4⟩, m, rfl, hm4, hl4, hp4⟩ := h;exact ⟨⟨hI4, hS.trans d4⟩, i :: m, by simp, KL.cons (ki.up ⟨d4, hI4.good⟩) hm4, hl4, by omega⟩
theorem uY {g : Nat} {sign : Bytes} {part : M Nat} (hg : g ≤ 2) (h1 : Ph ts o k (Gk g) part) (hI : Inv ts o k st) :
 wpM (jo ts sign part) (fun l s => St1 ts o k st s ∧ st.pos < s.pos ∧ KL s.nodes (Kw 28 1 1 (bw g)) l ∧ l.length ≤ s.nodes.length) st := by
 have hS := Stp.refl st;unfold jo;refine wc hS (aN _ hI) ?_;rintro b s1 hI d1 hS p1 q1 ⟨a1, b1, -⟩;cases b
 · simp only [ξh, ↓reduceIte];refine bB (sF hg h1 (ts.length + 1) [] _ hI (by omega) (by simp)) fun l' s h => ?_;obtain ⟨⟨hI4, d4⟩, m, rfl, hm4, hl4, hp4⟩ := h;exact ⟨⟨hI4, hS.trans d4⟩, by omega, hm4, hl4⟩
 · simp only [↓reduceIte];have a1 := a1 rfl;exact aR ⟨⟨hI, hS⟩, by omega, KL.nil, by simp⟩
theorem AZ {P : Knd} {end_ : Bytes} {part : M Nat} (h1 : Ph ts o k P part) (hI : Inv ts o k st) :
 wpM (oF ts end_ part) (fun l s => St1 ts o k st s ∧ st.pos < s.pos ∧ KL s.nodes P l ∧ l.length ≤ s.nodes.length) st := by
 have hS := Stp.refl st;unfold oF;refine wc hS (aN _ hI) ?_;rintro b s1 hI d1 hS p1 q1 ⟨a1, b1, -⟩;cases b
 · simp only [ξh, ↓reduceIte];refine wc hS (h1 _ hI) ?_;rintro i s2 hI d2 hS p2 q2 ⟨a2, b2, ki⟩;refine wc hS (iO h1 (ts.length + 1) [i] _ hI (by omega) (by simp; omega)) ?_;rintro l s3 hI d3 hS p3 q3 ⟨m, e3, km, l3, -⟩;have ki := ki.up ⟨d3, hI.good⟩;subst e3;have kl := KL.cons ki km;refine wc hS (bA _ hI) ?_;rintro u s4 hI d4 hS p4 q4 ⟨a4, b4, -⟩;have kl := kl.up ⟨d4, hI.good⟩;exact aR ⟨⟨hI, hS⟩, by omega, kl, by simp at l3 ⊢; omega⟩
 · simp only [↓reduceIte];have a1 := a1 rfl;exact aR ⟨⟨hI, hS⟩, by omega, KL.nil, by simp⟩
theorem KL.first {l : List Nd} {P : Knd} {is : List Nat} (h : KL l P is) (hl : 1 ≤ is.length) : KN l P (is.getD 0 0) := by
 cases is with
 | nil => simp at hl
 | cons a r => exact h a List.mem_cons_self
theorem Ey (HL : fQ ts o L) (sp : Int × Int) : Ph ts o k (Gk 0) (mV ts L sp) := by
 intro st hI;have hS := Stp.refl st;unfold mV;refine wc hS (aN _ hI) ?_;rintro b s1 hI d1 hS p1 q1 ⟨a1, b1, -⟩;cases b
 · simp only [ξh, ↓reduceIte];refine wc hS (HL.exp k _ hI) ?_;rintro i s2 hI d2 hS p2 q2 ⟨a2, b2, ki⟩;refine aP (g := isP ts 0 [59]) ?_;refine wc hS (iO (HL.exp k) (ts.length + 1) [i] _ hI (by omega) (by simp; omega)) ?_;rintro l s3 hI d3 hS p3 q3 ⟨m, e3, km, l3, -⟩;have ki := ki.up ⟨d3, hI.good⟩;have kl := KL.cons ki km;have hlen : 1 ≤ l.length := by subst e3; simp
   have kl : KL s3.nodes (Gk 0) l := by subst e3; exact kl
   clear e3;refine wc hS (bA _ hI) ?_;rintro u s4 hI d4 hS p4 q4 ⟨a4, b4, -⟩;have kl := kl.up ⟨d4, hI.good⟩;split
   · exact aR ⟨⟨hI, hS⟩, by omega, by omega, kl.first hlen⟩
   · rename_i hn;have h2 : l.length ≠ 1 := by simpa using hn
     have hz := iI (m := 2) kl.g (by simp; omega);have hz0 := iI (m := 0) kl.g (by simp);cases isP ts 0 [59] s2
     · simp only [ξh, ↓reduceIte];refine we hS (aF (Gk 0) _ 13 _ _ hI kl.lt (by simp [cT, aJ, jC, hz0, h2]) rfl) ?_;rintro iz sz hI dz hS pz qz ⟨a9, b9, k9, -⟩;exact ⟨hS, by omega, by omega, k9⟩
     · simp only [↓reduceIte];refine we hS (aF (Gk 0) _ 15 _ _ hI kl.lt (by simp [cT, aJ, jC, hz]) rfl) ?_;rintro iz sz hI dz hS pz qz ⟨a9, b9, k9, -⟩;exact ⟨hS, by omega, by omega, k9⟩
 · simp only [↓reduceIte];have a1 := a1 rfl;refine we hS (aF (Gk 0) _ 13 _ _ hI lt0 (by simp [cT, aJ, jC, mI, cH]) rfl) ?_;rintro iz sz hI dz hS pz qz ⟨a9, b9, k9, -⟩;exact ⟨hS, by omega, by omega, k9⟩
theorem xu (sc : List Names) : zf sc.tail ≤ zf sc := by
 cases sc with
 | nil => exact ξF _
 | cons a r => simp [zf]
theorem Inv.pop {s : PS} (h : Inv ts o (k + 1) s) : Inv ts o k { s with sc := s.sc.tail } := by
 have h1 := h.sc;have h2 := h.tot;have h3 := xu s.sc;exact ⟨h.int, h.opn, h.opl, h.pos, h.len, h.many, by show s.sc.tail.length = _; rw [List.length_tail]; omega, ξG h3 h2, h.good, h.tp, h.lens⟩
theorem Inv.push (h : Inv ts o k st) : Inv ts o (k + 1) { st with sc := [] :: st.sc } := by
 have h1 := h.sc;have h2 := h.tot;exact ⟨h.int, h.opn, h.opl, h.pos, h.len, h.many, by simp [h1], by simpa [zf] using h2, h.good, h.tp, h.lens⟩
theorem lM {α : Type} {m : M α} {V : α → PS → Prop} (hI : Inv ts o k st) (hm : wpM m (fun a s => St1 ts o (k + 1) { st with sc := [] :: st.sc } s ∧ V a s) { st with sc := [] :: st.sc }) :
 wpM (dQ m) (fun a s => St1 ts o k st s ∧ ∃ s0, V a s0 ∧ Inv ts o (k + 1) s0 ∧ s.pos = s0.pos ∧ s.nodes = s0.nodes ∧ s.sc = s0.sc.tail) st := by
 unfold wpM at hm;unfold wpM dQ;cases hx : m { st with sc := [] :: st.sc } with
 | ok x =>
  rw [hx] at hm;exact ⟨⟨hm.1.1.pop, ⟨hm.1.2.pos, hm.1.2.ext⟩⟩, x.2, hm.2, hm.1.1, rfl, rfl, rfl⟩
 | error e =>
  rw [hx] at hm;cases e with
  | out => exact hm
  | stop a b c => exact ξQ
theorem J5 (HL : fQ ts o L) (sp : Int × Int) : Ph ts o k (Gk 0) (Gc ts L sp) := by
 intro st hI;have hS := Stp.refl st;unfold Gc;refine wb (lM (V := fun l s => st.pos < s.pos ∧ ∃ d es, l = d :: es ∧ KN s.nodes (Kd 50) d ∧ KL s.nodes (Gk 0) es ∧ 1 ≤ es.length ∧ es.length ≤ s.nodes.length) hI ?_) fun l s1 h1 => ?_
 · have hI := hI.push;have hS := Stp.refl { st with sc := [] :: st.sc };refine wc hS (HL.decs _ _ hI) ?_;rintro d s1 hI d1 hS p1 q1 ⟨b1, kd⟩;refine wc hS (bA _ hI) ?_;rintro u s2 hI d2 hS p2 q2 ⟨a2, b2, -⟩;have kd := kd.up ⟨d2, hI.good⟩;refine wc hS (HL.exp _ _ hI) ?_;rintro e s3 hI d3 hS p3 q3 ⟨a3, b3, ke⟩;have kd := kd.up ⟨d3, hI.good⟩;refine wc hS (iO (HL.exp _) (ts.length + 1) [d, e] _ hI (by omega) (by have hp : ({ st with sc := [] :: st.sc } : PS).nodes.length < s1.nodes.length := b1; simp; omega)) ?_;rintro l s4 hI d4 hS p4 q4 ⟨m, e4, km, l4, -⟩;have kd := kd.up ⟨d4, hI.good⟩;have ke := ke.up ⟨d4, hI.good⟩;subst e4;have kl := KL.cons ke km;refine wc hS (bA _ hI) ?_;rintro u s5 hI d5 hS p5 q5 ⟨a5, b5, -⟩;have kd := kd.up ⟨d5, hI.good⟩;have kl := kl.up ⟨d5, hI.good⟩;have p1 : st.pos ≤ s1.pos := p1;exact aR ⟨⟨hI, hS⟩, by omega, d, e :: m, by simp, kd, kl, by simp, by simp at l4 ⊢; omega⟩
 · obtain ⟨⟨hI, d1⟩, s0, ⟨hp, d, es, rfl, kd, kes, hes, hes2⟩, hI0, e1, e2, e3⟩ := h1;have hS := hS.trans d1;rw [← e2] at kd kes hes2;have hz := iI (m := 1) kes.g (by simp; omega);have q1 := d1.len;refine we hS (aF (Gk 0) _ 16 _ (d :: es) hI (KL.lt (P := ⟨fun _ _ => true, fun _ _ _ _ h => h⟩) (KL.cons (kd.mono fun _ _ => rfl) (kes.mono fun _ h => h.mono fun _ _ => rfl))) (by simp [cT, aJ, jC, oH, kd.d, hz]) rfl) ?_;rintro iz sz hI dz hS pz qz ⟨a9, b9, k9, -⟩;exact ⟨hS, by omega, by omega, k9⟩
theorem jH {kd : Int} (hk : kd = 10 ∨ kd = 31 ∨ kd = 41 ∨ kd = 81) : Ph ts o k (Kw kd 0 0 (bw 2)) (jV ts kd) := by
 intro st hI;have hS := Stp.refl st;unfold jV;refine aP (g := ak ts) (aP (g := aB ts 0) ?_);split
 · rename_i hn;have hlt := kZ (ts := ts) (st := st) (j := 0) (by have : (aB ts 0 st).kind = 2 := (by simpa using hn); rw [this]; decide);refine wc hS (bV 1 hI (by omega)) ?_;rintro u s1 hI d1 hS p1 q1 ⟨a1, b1, -⟩;have hfit : cT s1.nodes ⟨kd, (aB ts 0 st).text, [], ([] : List Nat).map Int.ofNat, (ak ts st).1, (ak ts st).2⟩ = true := by
    rcases hk with rfl | rfl | rfl | rfl <;> simp [cT, aJ, F6, mI, cH, inB]
   refine we hS (vV (Kw kd 0 0 (bw 2)) _ kd _ [] _ hI lt0 hfit (by simp [Kw]) (vG hI.tp)) ?_;rintro iz sz hI dz hS pz qz ⟨a9, b9, k9⟩;exact ⟨hS, by omega, by omega, k9⟩
 · exact fW
end
end Kiln
namespace Kiln
section
variable {ts : List Tok} {o k : Nat} {st : PS} {L : Low}
theorem yT (t : Tok) : bZ t = 0 ∨ bZ t = 1 ∨ bZ t = 2 ∨ bZ t = 3 ∨ bZ t = 4 := by
 unfold bZ;repeat' split
 all_goals simp
theorem Bv {j : Nat} (h : (bZ (aB ts j st) != 0) = true) : st.pos + j < ts.length := kZ (st := st) fun e => by
 rw [show bZ (aB ts j st) = 0 from by unfold bZ; rw [e]; rfl] at h;exact absurd h (by decide)
theorem yK {l : List Nd} {kd : Int} {t : Bytes} {x y : Int} (hk : kd = 1 ∨ kd = 2 ∨ kd = 3 ∨ kd = 4) : cT l ⟨kd, t, [], ([] : List Nat).map Int.ofNat, x, y⟩ = true := by
 rcases hk with rfl | rfl | rfl | rfl <;> simp [cT, aJ]
theorem vk {t : Tok} (h : (bZ t != 0) = true) : bZ t = 1 ∨ bZ t = 2 ∨ bZ t = 3 ∨ bZ t = 4 := by
 rcases yT t with e | e
 · rw [e] at h; exact absurd h (by decide)
 · exact e
theorem KZ {l : List Nd} {kd : Int} {lo hi g : Nat} {f : Int → Bool} {i : Nat} (h : KN l (Kw kd lo hi f) i) (hg : bw g kd = true) : KN l (Gk g) i := h.mono fun n hn => by
 simp only [Kw, ξg, ξZ] at hn;show bw g n.kind = true;rw [hn.1]; exact hg
theorem MB {l : List Nd} {kd : Int} {g : Nat} {i : Nat} (h : KN l (Kd kd) i) (hg : bw g kd = true) : KN l (Gk g) i := h.mono fun n hn => by
 simp only [Kd, ξZ] at hn;show bw g n.kind = true;rw [hn]; exact hg
theorem uW {l : List Nd} {kd : Int} {g : Nat} {ks : List Nat} {t : Bytes} {x y : Int} (h : kd = 11 ∧ g = 0 ∨ kd = 43 ∧ g = 2) (hk : KL l (Kw 28 1 1 (bw g)) ks) : cT l ⟨kd, t, [], ks.map Int.ofNat, x, y⟩ = true := by
 have h1 := hk.inn;have h2 := lZ (m := 0) hk.w.d (by simp);rcases h with ⟨rfl, rfl⟩ | ⟨rfl, rfl⟩
 · simp [cT, aJ, jC, h1, h2]
 · simp [cT, aJ, F6, h1, h2]
theorem lN {l : List Nd} {kd : Int} {g m : Nat} {ks : List Nat} {t : Bytes} {x y : Int} (h : kd = 14 ∧ g = 0 ∧ m = 0 ∨ kd = 36 ∧ g = 1 ∧ m = 0 ∨ kd = 50 ∧ g = 3 ∧ m = 0 ∨ kd = 57 ∧ g = 1 ∧ m = 1 ∨ kd = 42 ∧ g = 2 ∧ m = 2 ∨ kd = 41 ∧ g = 2 ∧ m = 0 ∨ kd = 90 ∧ g = 6 ∧ m = 0) (hk : KL l (Gk g) ks) (hm : m ≤ ks.length) :
 cT l ⟨kd, t, [], ks.map Int.ofNat, x, y⟩ = true := by
 have h1 := iI (m := (m : Int)) hk.g (by simp; omega);rcases h with ⟨rfl, rfl, rfl⟩ | ⟨rfl, rfl, rfl⟩ | ⟨rfl, rfl, rfl⟩ | ⟨rfl, rfl, rfl⟩ | ⟨rfl, rfl, rfl⟩ | ⟨rfl, rfl, rfl⟩ | ⟨rfl, rfl, rfl⟩;all_goals first
  | (have h2 : mI l _ (0 : Int) _ = true := h1; simp [cT, aJ, jC, je, F6, iR, mK, h2]; done)
  | (have h2 : mI l _ (1 : Int) _ = true := h1; simp [cT, aJ, jC, je, F6, iR, mK, h2]; done)
  | (have h2 : mI l _ (2 : Int) _ = true := h1; simp [cT, aJ, jC, je, F6, iR, mK, h2]; done)
theorem dY {l : List Nd} {kd kk : Int} {ks : List Nat} {t : Bytes} {x y : Int} (h : kd = 26 ∧ kk = 27 ∨ kd = 51 ∧ kk = 53 ∨ kd = 52 ∧ kk = 53 ∨ kd = 54 ∧ kk = 55 ∨ kd = 55 ∧ kk = 56 ∨ kd = 58 ∧ kk = 59 ∨ kd = 60 ∧ kk = 61 ∨ kd = 67 ∧ kk = 81 ∨ kd = 68 ∧ kk = 31 ∨ kd = 69 ∧ kk = 70 ∨ kd = 71 ∧ kk = 72 ∨ kd = 73 ∧ kk = 74 ∨ kd = 97 ∧ kk = 59 ∨ kd = 98 ∧ kk = 61 ∨ kd = 100 ∧ kk = 72)
 (hk : KL l (Kd kk) ks) (hm : 1 ≤ ks.length) : cT l ⟨kd, t, [], ks.map Int.ofNat, x, y⟩ = true := by
 have h1 := lZ (m := 1) hk.d (by simp; omega);rcases h with ⟨rfl, rfl⟩ | ⟨rfl, rfl⟩ | ⟨rfl, rfl⟩ | ⟨rfl, rfl⟩ | ⟨rfl, rfl⟩ | ⟨rfl, rfl⟩ | ⟨rfl, rfl⟩ | ⟨rfl, rfl⟩ | ⟨rfl, rfl⟩ | ⟨rfl, rfl⟩ | ⟨rfl, rfl⟩ | ⟨rfl, rfl⟩ | ⟨rfl, rfl⟩ | ⟨rfl, rfl⟩ | ⟨rfl, rfl⟩;all_goals simp [cT, aJ, jC, iR, lH, mK, h1]
theorem y8 (HL : fQ ts o L) : Ph ts o k (Gk 0) (j4 ts L) := by
 intro st hI;have hS := Stp.refl st;unfold j4;refine aP (g := ak ts) (aP (g := aB ts 0) ?_);split
 · rename_i hc;have hlt := Bv hc;have h4 := vk hc;have hm : bw 0 (bZ (aB ts 0 st)) = true := by rcases h4 with e | e | e | e <;> rw [e] <;> rfl
   refine wc hS (bV 1 hI (by omega)) ?_;rintro u s1 hI d1 hS p1 q1 ⟨a1, b1, -⟩;refine we hS (aF (Gk 0) _ _ _ _ hI lt0 (yK h4) hm) ?_;rintro iz sz hI dz hS pz qz ⟨a9, b9, k9, -⟩;exact ⟨hS, by omega, by omega, k9⟩
 refine aP (g := bM ts 0) ?_;split
 · rename_i hp;have hlt := l9 hp;refine wc hS (bV _ hI (by omega)) ?_;rintro u s1 hI d1 hS p1 q1 ⟨a1, b1, -⟩;refine we hS (aF (Gk 0) _ 10 _ _ hI lt0 (by simp [cT, aJ]) rfl) ?_;rintro iz sz hI dz hS pz qz ⟨a9, b9, k9, -⟩;exact ⟨hS, by omega, by omega, k9⟩
 split
 · exact bB (jH (.inl rfl) st hI) fun i s h => ⟨h.1, h.2.1, h.2.2.1, KZ h.2.2.2 rfl⟩
 refine wc hS (aN _ hI) ?_;rintro b s1 hI d1 hS p1 q1 ⟨a1, b1, -⟩;cases b;rotate_left
 · simp only [↓reduceIte];have a1 := a1 rfl;exact fW
 simp only [ξh, ↓reduceIte];refine wc hS (aN _ hI) ?_;rintro b s2 hI d2 hS p2 q2 ⟨a2, b2, -⟩;cases b;rotate_left
 · simp only [↓reduceIte];have a2 := a2 rfl;refine wc hS (ku hI) ?_;rintro tx s3 hI d3 hS p3 q3 ⟨a3, b3, -⟩;refine we hS (aF (Gk 0) _ 12 _ _ hI lt0 (by simp [cT, aJ]) rfl) ?_;rintro iz sz hI dz hS pz qz ⟨a9, b9, k9, -⟩;exact ⟨hS, by omega, by omega, k9⟩
 simp only [ξh, ↓reduceIte];refine wc hS (aN _ hI) ?_;rintro b s3 hI d3 hS p3 q3 ⟨a3, b3, -⟩;cases b;rotate_left
 · simp only [↓reduceIte];have a3 := a3 rfl;refine wc hS (uY (by decide) (HL.exp k) hI) ?_;rintro l s4 hI d4 hS p4 q4 ⟨a4, kl, n4⟩;refine we hS (aF (Gk 0) _ 11 _ _ hI kl.lt (uW (.inl ⟨rfl, rfl⟩) kl) rfl) ?_;rintro iz sz hI dz hS pz qz ⟨a9, b9, k9, -⟩;exact ⟨hS, by omega, by omega, k9⟩
 simp only [ξh, ↓reduceIte];refine wc hS (aN _ hI) ?_;rintro b s4 hI d4 hS p4 q4 ⟨a4, b4, -⟩;cases b;rotate_left
 · simp only [↓reduceIte];have a4 := a4 rfl;refine we hS (Ey HL _ _ hI) ?_;rintro iz sz hI dz hS pz qz ⟨a9, b9, k9⟩;exact ⟨hS, by omega, by omega, k9⟩
 simp only [ξh, ↓reduceIte];refine wc hS (aN _ hI) ?_;rintro b s5 hI d5 hS p5 q5 ⟨a5, b5, -⟩;cases b;rotate_left
 · simp only [↓reduceIte];have a5 := a5 rfl;refine wc hS (AZ (HL.exp k) hI) ?_;rintro l s6 hI d6 hS p6 q6 ⟨a6, kl, n6⟩;refine we hS (aF (Gk 0) _ 14 _ _ hI kl.lt (lN (.inl ⟨rfl, rfl, rfl⟩) kl (ξM _)) rfl) ?_;rintro iz sz hI dz hS pz qz ⟨a9, b9, k9, -⟩;exact ⟨hS, by omega, by omega, k9⟩
 simp only [ξh, ↓reduceIte];refine wc hS (aN _ hI) ?_;rintro b s6 hI d6 hS p6 q6 ⟨a6, b6, -⟩;cases b;rotate_left
 · simp only [↓reduceIte];have a6 := a6 rfl;refine we hS (J5 HL _ _ hI) ?_;rintro iz sz hI dz hS pz qz ⟨a9, b9, k9⟩;exact ⟨hS, by omega, by omega, k9⟩
 simp only [ξh, ↓reduceIte];exact fW
theorem M4 {l : List Nd} {a e : Nat} {kd : Int} {t : Bytes} {x y : Int} (h : kd = 17 ∨ kd = 19 ∨ kd = 20) (ke : KN l (Gk 0) e) (ka : KN l (Gk 0) a) : cT l ⟨kd, t, [], [e, a].map Int.ofNat, x, y⟩ = true := by
 rcases h with rfl | rfl | rfl <;> simp [cT, aJ, jC, seqB, ka.g, ke.g]
theorem BN (HL : fQ ts o L) : ∀ (f e : Nat) (st : PS), Inv ts o k st → KN st.nodes (Gk 0) e → ts.length < f + st.pos → wpM (Gf ts L f e) (fun i s => St1 ts o k st s ∧ KN s.nodes (Gk 0) i) st
 | 0, e, st, hI, ke, hf => by have := hI.pos; omega
 | f + 1, e, st, hI, ke, hf => by
  have hS := Stp.refl st;unfold Gf;refine aP (g := iG ts) ?_;split
  · refine wc hS (jh hI ke) ?_;rintro sp s1 hI d1 hS p1 q1 e1;subst e1;refine wc hS (y8 HL _ hI) ?_;rintro a s2 hI d2 hS p2 q2 ⟨a2, b2, ka⟩;have ke := ke.up ⟨d2, hI.good⟩;refine wc hS (aF (Gk 0) _ 17 _ _ hI (lt2 ke ka) (M4 (.inl rfl) ke ka) rfl) ?_;rintro i s3 hI d3 hS p3 q3 ⟨a3, b3, ki, -⟩;refine bB (BN HL f i _ hI ki (by omega)) fun i s h => ?_;exact ⟨⟨h.1.1, hS.trans h.1.2⟩, h.2⟩
  · exact aR ⟨⟨hI, hS⟩, ke⟩
theorem KQ (HL : fQ ts o L) : Ph ts o k (Gk 0) (Dl ts L) := by
 intro st hI;have hS := Stp.refl st;unfold Dl;refine wc hS (y8 HL _ hI) ?_;rintro e s1 hI d1 hS p1 q1 ⟨a1, b1, ke⟩;refine we hS (BN HL (ts.length + 1) e _ hI ke (by omega)) ?_;rintro iz sz hI dz hS pz qz k9;exact ⟨hS, by omega, by omega, k9⟩
def gx (ex : Bool) : Nat := if ex then 0 else 1
theorem KL.at {l : List Nd} {P : Knd} {is : List Nat} (h : KL l P is) {i : Nat} (hi : i < is.length) : KN l P (is.getD i 0) := by
 rw [ξr, ξw hi];exact h _ (List.getElem_mem _)
theorem KL.take {l : List Nd} {P : Knd} {is : List Nat} (h : KL l P is) (n : Nat) : KL l P (is.take n) := fun i hi => h i (List.mem_of_mem_take hi)
theorem Bj {ex : Bool} {args : List Nat} {x : Link} (hI : Inv ts o k st) (ha : KL st.nodes (Gk (gx ex)) args) (hl : 2 ≤ args.length) :
 wpM (nu args x ex) (fun l s => St1 ts o k st s ∧ s.pos = st.pos ∧ st.nodes.length < s.nodes.length ∧ KL s.nodes (Gk (gx ex)) l ∧ l.length + 1 = args.length) st := by
 have hS := Stp.refl st;unfold nu;rw [ψh (by omega)];cases ex
 · simp only [ξh, ↓reduceIte];refine wc hS (aF (Kd 31) _ 31 _ _ hI lt0 (by simp [cT, aJ]) rfl) ?_;rintro f s1 hI d1 hS p1 q1 ⟨a1, b1, kf, -⟩;have ha := ha.up ⟨d1, hI.good⟩;have k1 := ha.at (i := args.length - 2) (by omega);have k2 := ha.at (i := args.length - 1) (by omega);have hz := iI (m := 0) (KL.cons k1 (KL.one k2)).g (by simp);refine wc hS (aF (Gk 1) _ 33 _ _ hI (lt2 k1 k2) (by simp [cT, aJ, je] ; simpa [gx] using hz) rfl) ?_;rintro g s2 hI d2 hS p2 q2 ⟨a2, b2, kg, -⟩;have ha := ha.up ⟨d2, hI.good⟩;have kf := kf.up ⟨d2, hI.good⟩;refine wc hS (aF (Gk (gx false)) _ 32 _ _ hI (lt2 kf kg) (by simp [cT, aJ, je, seqB, kf.d, kg.g]) rfl) ?_;rintro i s3 hI d3 hS p3 q3 ⟨a3, b3, ki, -⟩;have ha := ha.up ⟨d3, hI.good⟩;exact aR ⟨⟨hI, hS⟩, by omega, by omega, KL.app (ha.take _) (KL.one ki), by simp; omega⟩
 · simp only [↓reduceIte];refine wc hS (aF (Gk 0) _ 10 _ _ hI lt0 (by simp [cT, aJ]) rfl) ?_;rintro f s1 hI d1 hS p1 q1 ⟨a1, b1, kf, -⟩;have ha := ha.up ⟨d1, hI.good⟩;have k1 := ha.at (i := args.length - 2) (by omega);have k2 := ha.at (i := args.length - 1) (by omega);have hz := iI (m := 0) (KL.cons k1 (KL.one k2)).g (by simp);refine wc hS (aF (Gk 0) _ 13 _ _ hI (lt2 k1 k2) (by simp [cT, aJ, jC] ; simpa [gx] using hz) rfl) ?_;rintro g s2 hI d2 hS p2 q2 ⟨a2, b2, kg, -⟩;have ha := ha.up ⟨d2, hI.good⟩;have kf := kf.up ⟨d2, hI.good⟩;refine wc hS (aF (Gk (gx true)) _ 17 _ _ hI (lt2 kf kg) (M4 (.inl rfl) kf kg) rfl) ?_;rintro i s3 hI d3 hS p3 q3 ⟨a3, b3, ki, -⟩;have ha := ha.up ⟨d3, hI.good⟩;exact aR ⟨⟨hI, hS⟩, by omega, by omega, KL.app (ha.take _) (KL.one ki), by simp; omega⟩
theorem FV {a b : Link} (hI : Inv ts o k st) : wpM (kU a b) (fun _ s => St1 ts o k st s ∧ s = st) st := by
 unfold wpM kU;by_cases h1 : (a.fx.level != b.fx.level) = true
 · rw [ψi h1]; exact ⟨hI.same, rfl⟩
 · rw [ψh h1];by_cases h2 : (a.fx.right != b.fx.right) = true
   · rw [ψi h2]; exact ξQ
   · rw [ψh h2]; exact ⟨hI.same, rfl⟩
theorem A9 {α : Type} {l : List α} {x : α} (h : l.getLast? = some x) : l.dropLast.length + 1 = l.length := by
 cases l with
 | nil => simp at h
 | cons a r => simp
theorem En {ex : Bool} {x : Link} : ∀ (f : Nat) (args : List Nat) (ops : List Link) (st : PS), Inv ts o k st → KL st.nodes (Gk (gx ex)) args → args.length = ops.length + 1 → ops.length < f →
 wpM (zi x ex f args ops) (fun p s => St1 ts o k st s ∧ s.pos = st.pos ∧ KL s.nodes (Gk (gx ex)) p.1 ∧ p.1.length = p.2.length + 1 ∧ p.1.length ≤ args.length) st
 | 0, args, ops, st, hI, ka, hl, hf => by omega
 | f + 1, args, ops, st, hI, ka, hl, hf => by
  have hS := Stp.refl st;unfold zi;cases ho : ops.getLast? with
  | none => exact aR ⟨⟨hI, hS⟩, rfl, ka, hl, ξF _⟩
  | some y =>
   dsimp only;have hd := A9 ho;refine wc hS (FV hI) ?_;rintro b s1 hI d1 hS p1 q1 e1;subst e1;cases b
   · simp only [ξh, ↓reduceIte];exact aR ⟨⟨hI, hS⟩, rfl, ka, hl, ξF _⟩
   · simp only [↓reduceIte];refine wc hS (Bj hI ka (by omega)) ?_;rintro l s2 hI d2 hS p2 q2 ⟨a2, b2, kl, hl2⟩;refine bB (En f l ops.dropLast _ hI kl (by omega) (by omega)) fun p s h => ?_;exact ⟨⟨h.1.1, hS.trans h.1.2⟩, by have := h.2.1; omega, h.2.2.1, h.2.2.2.1, by have := h.2.2.2.2; omega⟩
theorem Bp {ex : Bool} : ∀ (f : Nat) (args : List Nat) (ops : List Link) (st : PS), Inv ts o k st → KL st.nodes (Gk (gx ex)) args → args.length = ops.length + 1 → ops.length < f →
 wpM (foldM ex f args ops) (fun l s => St1 ts o k st s ∧ s.pos = st.pos ∧ KL s.nodes (Gk (gx ex)) l ∧ 1 ≤ l.length) st
 | 0, args, ops, st, hI, ka, hl, hf => by omega
 | f + 1, args, ops, st, hI, ka, hl, hf => by
  have hS := Stp.refl st;unfold foldM;cases ho : ops.getLast? with
  | none => exact aR ⟨⟨hI, hS⟩, rfl, ka, by omega⟩
  | some y =>
   dsimp only;have hd := A9 ho;refine wc hS (Bj hI ka (by omega)) ?_;rintro l s2 hI d2 hS p2 q2 ⟨a2, b2, kl, hl2⟩;refine bB (Bp f l ops.dropLast _ hI kl (by omega) (by omega)) fun p s h => ?_;exact ⟨⟨h.1.1, hS.trans h.1.2⟩, by have := h.2.1; omega, h.2.2.1, h.2.2.2⟩
theorem Hs (h : cO (aB ts 0 st) st = true) : st.pos + 0 < ts.length := lG (st := st) (by
 unfold cO at h;simp only [ξg] at h;exact h.1)
theorem Az {operand : M Nat} {ex : Bool} (h1 : Ph ts o k (Gk (gx ex)) operand) : ∀ (f : Nat) (args : List Nat) (ops : List Link) (st : PS), Inv ts o k st → KL st.nodes (Gk (gx ex)) args → args.length = ops.length + 1 → args.length ≤ st.nodes.length → ts.length < f + st.pos →
 wpM (xD ts operand ex f args ops) (fun p s => St1 ts o k st s ∧ KL s.nodes (Gk (gx ex)) p.1 ∧ p.1.length = p.2.length + 1) st
 | 0, args, ops, st, hI, ka, hl, hn, hf => by have := hI.pos; omega
 | f + 1, args, ops, st, hI, ka, hl, hn, hf => by
  have hS := Stp.refl st;unfold xD;refine aP (g := aB ts 0) (aP (g := isP ts 0 [61]) (aP (g := cO (aB ts 0 st)) ?_));split
  · rename_i hc;have hlt : st.pos + 0 < ts.length := by
     simp only [ξj, ξg] at hc;rcases hc with hc | hc
     · exact gu hc.2
     · exact Hs hc
    refine aP (g := fun s => (⟨fP (aB ts 0 st).text s.sc, (aB ts 0 st).text, ak ts s⟩ : Link)) ?_;refine wc hS (bV 1 hI (by omega)) ?_;rintro u s1 hI d1 hS p1 q1 ⟨a1, b1, -⟩;have ka := ka.up ⟨d1, hI.good⟩;refine wc hS (En (ops.length + 1) args ops _ hI ka hl (by omega)) ?_;rintro p s2 hI d2 hS p2 q2 ⟨a2, kp, hp, hp2⟩;refine wc hS (h1 _ hI) ?_;rintro i s3 hI d3 hS p3 q3 ⟨a3, b3, ki⟩;have kp := kp.up ⟨d3, hI.good⟩;have hm := hI.many;refine wc hS (dH hI (by omega)) ?_;rintro u s4 hI d4 hS p4 q4 e4;subst e4;refine wc hS (dH hI (by omega)) ?_;rintro u s5 hI d5 hS p5 q5 e5;subst e5;have hb : s1.nodes.length = st.nodes.length := by rw [b1]
    refine bB (Az h1 f (p.1 ++ [i]) _ _ hI (KL.app kp (KL.one ki)) (by simp; omega) (by simp; omega) (by omega)) fun q s h => ?_;exact ⟨⟨h.1.1, hS.trans h.1.2⟩, h.2⟩
  · exact aR ⟨⟨hI, hS⟩, ka, hl⟩
theorem Ed {operand : M Nat} {ex : Bool} (h1 : Ph ts o k (Gk (gx ex)) operand) : Ph ts o k (Gk (gx ex)) (zh ts operand ex) := by
 intro st hI;have hS := Stp.refl st;unfold zh;refine wc hS (h1 _ hI) ?_;rintro i s1 hI d1 hS p1 q1 ⟨a1, b1, ki⟩;refine wc hS (Az h1 (ts.length + 1) [i] [] _ hI (KL.one ki) rfl (by simp; omega) (by omega)) ?_;rintro p s2 hI d2 hS p2 q2 ⟨kp, hp⟩;refine wc hS (Bp (p.2.length + 1) p.1 p.2 _ hI kp hp (by omega)) ?_;rintro l s3 hI d3 hS p3 q3 ⟨a3, kl, hl⟩;exact aR ⟨⟨hI, hS⟩, by omega, by omega, kl.first hl⟩
theorem nH (HL : fQ ts o L) {kd : Int} {g : Nat} (hg : kd = 18 ∧ g = 0 ∨ kd = 37 ∧ g = 1) : ∀ (f e : Nat) (st : PS), Inv ts o k st → KN st.nodes (Gk g) e → ts.length < f + st.pos → wpM (eD ts L kd f e) (fun i s => St1 ts o k st s ∧ KN s.nodes (Gk g) i) st
 | 0, e, st, hI, ke, hf => by have := hI.pos; omega
 | f + 1, e, st, hI, ke, hf => by
  have hS := Stp.refl st;unfold eD;refine wc hS (aN _ hI) ?_;rintro b s1 hI d1 hS p1 q1 ⟨a1, b1, -⟩;have ke := ke.up ⟨d1, hI.good⟩;cases b
  · simp only [ξh, ↓reduceIte];exact aR ⟨⟨hI, hS⟩, ke⟩
  · simp only [↓reduceIte];have a1 := a1 rfl;refine wc hS (jh hI ke) ?_;rintro sp s2 hI d2 hS p2 q2 e2;subst e2;refine wc hS (HL.ty k _ hI) ?_;rintro t s3 hI d3 hS p3 q3 ⟨a3, b3, kt⟩;have ke := ke.up ⟨d3, hI.good⟩;have hfit : ∀ x y : Int, cT s3.nodes ⟨kd, [], [], [e, t].map Int.ofNat, x, y⟩ = true := fun x y => by
     rcases hg with ⟨rfl, rfl⟩ | ⟨rfl, rfl⟩ <;> simp [cT, aJ, jC, je, seqB, ke.g, kt.g]
    have hmem : bw g kd = true := by rcases hg with ⟨rfl, rfl⟩ | ⟨rfl, rfl⟩ <;> rfl
    refine wc hS (aF (Gk g) _ kd _ _ hI (lt2 ke kt) (hfit _ _) hmem) ?_;rintro i s4 hI d4 hS p4 q4 ⟨a4, b4, ki, -⟩;refine bB (nH HL hg f i _ hI ki (by omega)) fun i s h => ?_;exact ⟨⟨h.1.1, hS.trans h.1.2⟩, h.2⟩
theorem rK (HL : fQ ts o L) : Ph ts o k (Gk 0) (eG ts L) := by
 intro st hI;have hS := Stp.refl st;unfold eG;refine aP (g := ak ts) ?_;refine wc hS (aN _ hI) ?_;rintro b s1 hI d1 hS p1 q1 ⟨a1, b1, -⟩;cases b;rotate_left
 · simp only [↓reduceIte];have a1 := a1 rfl;refine wc hS (HL.exp k _ hI) ?_;rintro a s2 hI d2 hS p2 q2 ⟨a2, b2, ka⟩;refine wc hS (bA _ hI) ?_;rintro u s3 hI d3 hS p3 q3 ⟨a3, b3, -⟩;have ka := ka.up ⟨d3, hI.good⟩;refine wc hS (HL.exp k _ hI) ?_;rintro b s4 hI d4 hS p4 q4 ⟨a4, b4, kb⟩;have ka := ka.up ⟨d4, hI.good⟩;refine wc hS (bA _ hI) ?_;rintro u s5 hI d5 hS p5 q5 ⟨a5, b5, -⟩;have ka := ka.up ⟨d5, hI.good⟩;have kb := kb.up ⟨d5, hI.good⟩;refine wc hS (HL.exp k _ hI) ?_;rintro c s6 hI d6 hS p6 q6 ⟨a6, b6, kc⟩;have ka := ka.up ⟨d6, hI.good⟩;have kb := kb.up ⟨d6, hI.good⟩;refine we hS (aF (Gk 0) _ 23 _ _ hI (lt3 ka kb kc) (by simp [cT, aJ, jC, seqB, ka.g, kb.g, kc.g]) rfl) ?_;rintro iz sz hI dz hS pz qz ⟨a9, b9, k9, -⟩;exact ⟨hS, by omega, by omega, k9⟩
 simp only [ξh, ↓reduceIte];refine wc hS (aN _ hI) ?_;rintro b s2 hI d2 hS p2 q2 ⟨a2, b2, -⟩;cases b;rotate_left
 · simp only [↓reduceIte];have a2 := a2 rfl;refine wc hS (HL.exp k _ hI) ?_;rintro a s3 hI d3 hS p3 q3 ⟨a3, b3, ka⟩;refine wc hS (bA _ hI) ?_;rintro u s4 hI d4 hS p4 q4 ⟨a4, b4, -⟩;have ka := ka.up ⟨d4, hI.good⟩;refine wc hS (HL.exp k _ hI) ?_;rintro b s5 hI d5 hS p5 q5 ⟨a5, b5, kb⟩;have ka := ka.up ⟨d5, hI.good⟩;refine we hS (aF (Gk 0) _ 24 _ _ hI (lt2 ka kb) (by simp [cT, aJ, jC, seqB, ka.g, kb.g]) rfl) ?_;rintro iz sz hI dz hS pz qz ⟨a9, b9, k9, -⟩;exact ⟨hS, by omega, by omega, k9⟩
 simp only [ξh, ↓reduceIte];refine wc hS (aN _ hI) ?_;rintro b s3 hI d3 hS p3 q3 ⟨a3, b3, -⟩;cases b;rotate_left
 · simp only [↓reduceIte];have a3 := a3 rfl;refine wc hS (HL.exp k _ hI) ?_;rintro a s4 hI d4 hS p4 q4 ⟨a4, b4, ka⟩;refine wc hS (bA _ hI) ?_;rintro u s5 hI d5 hS p5 q5 ⟨a5, b5, -⟩;have ka := ka.up ⟨d5, hI.good⟩;refine wc hS (rR HL _ hI) ?_;rintro l s6 hI d6 hS p6 q6 ⟨a6, b6, kl, hl, c6⟩;have ka := ka.up ⟨d6, hI.good⟩;have hz := lZ (m := 1) kl.d (by simp; omega);refine we hS (aF (Gk 0) _ 25 _ (a :: l) hI (KL.lt (P := ⟨fun _ _ => true, fun _ _ _ _ h => h⟩) (KL.cons (ka.mono fun _ _ => rfl) (kl.mono fun _ h => h.mono fun _ _ => rfl))) (by simp [cT, aJ, jC, oH, ka.g, hz]) rfl) ?_;rintro iz sz hI dz hS pz qz ⟨a9, b9, k9, -⟩;exact ⟨hS, by omega, by omega, k9⟩
 simp only [ξh, ↓reduceIte];refine wc hS (aN _ hI) ?_;rintro b s4 hI d4 hS p4 q4 ⟨a4, b4, -⟩;cases b;rotate_left
 · simp only [↓reduceIte];have a4 := a4 rfl;refine wc hS (rR HL _ hI) ?_;rintro l s5 hI d5 hS p5 q5 ⟨a5, b5, kl, hl, c5⟩;refine we hS (aF (Gk 0) _ 26 _ _ hI kl.lt (dY (.inl ⟨rfl, rfl⟩) kl hl) rfl) ?_;rintro iz sz hI dz hS pz qz ⟨a9, b9, k9, -⟩;exact ⟨hS, by omega, by omega, k9⟩
 simp only [ξh, ↓reduceIte];refine wc hS (aN _ hI) ?_;rintro b s5 hI d5 hS p5 q5 ⟨a5, b5, -⟩;cases b;rotate_left
 · simp only [↓reduceIte];have a5 := a5 rfl;refine wc hS (HL.exp k _ hI) ?_;rintro a s6 hI d6 hS p6 q6 ⟨a6, b6, ka⟩;refine we hS (aF (Gk 0) _ 22 _ _ hI (lt1 ka) (by simp [cT, aJ, jC, seqB, ka.g]) rfl) ?_;rintro iz sz hI dz hS pz qz ⟨a9, b9, k9, -⟩;exact ⟨hS, by omega, by omega, k9⟩
 simp only [ξh, ↓reduceIte];refine wc hS (Ed (ex := true) (KQ HL) _ hI) ?_;rintro e s6 hI d6 hS p6 q6 ⟨a6, b6, ke⟩;refine we hS (nH HL (.inl ⟨rfl, rfl⟩) (ts.length + 1) e _ hI ke (by omega)) ?_;rintro iz sz hI dz hS pz qz k9;exact ⟨hS, by omega, by omega, k9⟩
theorem sP {word : Bytes} {kd : Int} {one : M Nat} (hk : kd = 19 ∨ kd = 20) (h1 : Ph ts o k (Gk 0) one) : ∀ (f e : Nat) (st : PS), Inv ts o k st → KN st.nodes (Gk 0) e → ts.length < f + st.pos → wpM (jY ts word kd one f e) (fun i s => St1 ts o k st s ∧ KN s.nodes (Gk 0) i) st
 | 0, e, st, hI, ke, hf => by have := hI.pos; omega
 | f + 1, e, st, hI, ke, hf => by
  have hS := Stp.refl st;unfold jY;refine wc hS (aN _ hI) ?_;rintro b s1 hI d1 hS p1 q1 ⟨a1, b1, -⟩;have ke := ke.up ⟨d1, hI.good⟩;cases b
  · simp only [ξh, ↓reduceIte];exact aR ⟨⟨hI, hS⟩, ke⟩
  · simp only [↓reduceIte];have a1 := a1 rfl;refine wc hS (jh hI ke) ?_;rintro sp s2 hI d2 hS p2 q2 e2;subst e2;refine wc hS (h1 _ hI) ?_;rintro t s3 hI d3 hS p3 q3 ⟨a3, b3, kt⟩;have ke := ke.up ⟨d3, hI.good⟩;have hmem : bw 0 kd = true := by rcases hk with rfl | rfl <;> rfl
    refine wc hS (aF (Gk 0) _ kd _ _ hI (lt2 ke kt) (M4 (.inr hk) ke kt) hmem) ?_;rintro i s4 hI d4 hS p4 q4 ⟨a4, b4, ki, -⟩;refine bB (sP hk h1 f i _ hI ki (by omega)) fun i s h => ?_;exact ⟨⟨h.1.1, hS.trans h.1.2⟩, h.2⟩
theorem Bz (HL : fQ ts o L) : Ph ts o k (Gk 0) (nY ts L) := by
 intro st hI;have hS := Stp.refl st;unfold nY;refine wc hS (rK HL _ hI) ?_;rintro e s1 hI d1 hS p1 q1 ⟨a1, b1, ke⟩;refine we hS (sP (.inl rfl) (rK HL) (ts.length + 1) e _ hI ke (by omega)) ?_;rintro iz sz hI dz hS pz qz k9;exact ⟨hS, by omega, by omega, k9⟩
theorem Mf (HL : fQ ts o L) : Ph ts o k (Gk 0) (Kiln.orM ts L) := by
 intro st hI;have hS := Stp.refl st;unfold Kiln.orM;refine wc hS (Bz HL _ hI) ?_;rintro e s1 hI d1 hS p1 q1 ⟨a1, b1, ke⟩;refine we hS (sP (.inr rfl) (Bz HL) (ts.length + 1) e _ hI ke (by omega)) ?_;rintro iz sz hI dz hS pz qz k9;exact ⟨hS, by omega, by omega, k9⟩
theorem uS (HL : fQ ts o L) : ∀ (f e : Nat) (st : PS), Inv ts o k st → KN st.nodes (Gk 0) e → ts.length < f + st.pos → wpM (gy ts L f e) (fun i s => St1 ts o k st s ∧ KN s.nodes (Gk 0) i) st
 | 0, e, st, hI, ke, hf => by have := hI.pos; omega
 | f + 1, e, st, hI, ke, hf => by
  have hS := Stp.refl st;unfold gy;refine wc hS (aN _ hI) ?_;rintro b s1 hI d1 hS p1 q1 ⟨a1, b1, -⟩;have ke := ke.up ⟨d1, hI.good⟩;cases b
  · simp only [ξh, ↓reduceIte];exact aR ⟨⟨hI, hS⟩, ke⟩
  · simp only [↓reduceIte];have a1 := a1 rfl;refine wc hS (jh hI ke) ?_;rintro sp s2 hI d2 hS p2 q2 e2;subst e2;refine wc hS (rR HL _ hI) ?_;rintro l s3 hI d3 hS p3 q3 ⟨a3, b3, kl, hl, c3⟩;have ke := ke.up ⟨d3, hI.good⟩;have hz := lZ (m := 1) kl.d (by simp; omega);refine wc hS (aF (Gk 0) _ 21 _ (e :: l) hI (KL.lt (P := ⟨fun _ _ => true, fun _ _ _ _ h => h⟩) (KL.cons (ke.mono fun _ _ => rfl) (kl.mono fun _ h => h.mono fun _ _ => rfl))) (by simp [cT, aJ, jC, oH, ke.g, hz]) rfl) ?_;rintro i s4 hI d4 hS p4 q4 ⟨a4, b4, ki, -⟩;refine bB (uS HL f i _ hI ki (by omega)) fun i s h => ?_;exact ⟨⟨h.1.1, hS.trans h.1.2⟩, h.2⟩
theorem Kv (HL : o + 1 ≤ 1000 → fQ ts (o + 1) L) : Ph ts o k (Gk 0) (Fa ts L) := by
 intro st hI;unfold Fa;refine wb (ju hI) fun u s1 h1 => ?_;obtain ⟨⟨hI, d1⟩, ho, e1, e2, -⟩ := h1;have HL := HL ho;have hS := d1;have hp : s1.nodes.length = st.nodes.length := by rw [e2]
 refine wc hS (Mf HL _ hI) ?_;rintro e s2 hI d2 hS p2 q2 ⟨a2, b2, ke⟩;refine wc hS (uS HL (ts.length + 1) e _ hI ke (by omega)) ?_;rintro e s3 hI d3 hS p3 q3 ke;refine wc hS (jl hI) ?_;rintro u s4 hI d4 hS p4 q4 ⟨a4, b4, -⟩;have ke := ke.up ⟨d4, hI.good⟩;exact aR ⟨⟨hI, hS⟩, by omega, by omega, ke⟩
end
end Kiln
namespace Kiln
section
variable {ts : List Tok} {o k : Nat} {st : PS} {L : Low}
theorem NU {p : Prop} (h : p := by
 refine we hS (aF (Kw 28 1 1 (bw 1)) _ 28 _ _ hI (lt1 ki) (Kr (by decide) ki) (by simp [Kw, ki.g])) ?_;rintro iz sz hI dz hS pz qz ⟨a9, b9, k9, -⟩;exact ⟨hS, by omega, by omega, k9⟩
 ) : p := h
theorem xR (HL : fQ ts o L) (sp : Int × Int) : Ph ts o k (Kw 28 1 1 (bw 1)) (eT ts L sp) := by
 intro st hI;have hS := Stp.refl st;unfold eT;refine EU hI (aP (g := isP ts 1 [61]) ?_);split
 · rename_i hc;simp only [ξg] at hc;have hlt := gu hc.2;refine wc hS (ku hI) ?_;rintro tx s1 hI d1 hS p1 q1 ⟨a1, b1, -⟩;refine wc hS (bV 1 hI (by omega)) ?_;rintro u s2 hI d2 hS p2 q2 ⟨a2, b2, -⟩;refine wc hS (HL.pat k _ hI) ?_;rintro i s3 hI d3 hS p3 q3 ⟨a3, b3, ki⟩;exact NU
 refine aP (g := aB ts 0) ?_;split
 · split
   · rename_i hl;have hlt := Ba (ts := ts) (st := st) (by simpa using hl);refine wc hS (bV 1 hI (by omega)) ?_;rintro u s2 hI d2 hS p2 q2 ⟨a2, b2, -⟩;exact fW
   · exact fW
 refine wc hS (dJ hI) ?_;rintro tx s1 hI d1 hS p1 q1 ⟨a1, b1, -⟩;refine wc hS (aN _ hI) ?_;rintro b s2 hI d2 hS p2 q2 ⟨a2, b2, -⟩;cases b
 · simp only [ξh, ↓reduceIte];refine pb ?_;refine wc hS (aN _ hI) ?_;rintro b s3 hI d3 hS p3 q3 ⟨a3, b3, -⟩;cases b;rotate_left
   · simp only [↓reduceIte];have a3 := a3 rfl;refine wc hS (HL.pat k _ hI) ?_;rintro q s4 hI d4 hS p4 q4 ⟨a4, b4, kq⟩;refine pb ?_;refine wc hS (aF (Gk 1) _ 38 _ _ hI (lt1 kq) (by simp [cT, aJ, je, seqB, kq.g]) rfl) ?_;rintro i s5 hI d5 hS p5 q5 ⟨a5, b5, ki, -⟩;exact NU
   simp only [ξh, ↓reduceIte];refine wc hS (aF (Gk 1) _ 31 _ _ hI lt0 (by simp [cT, aJ]) rfl) ?_;rintro i s5 hI d5 hS p5 q5 ⟨a5, b5, ki, -⟩;refine pb ?_;exact NU
 · simp only [↓reduceIte];have a2 := a2 rfl;refine wc hS (HL.ty k _ hI) ?_;rintro t s3 hI d3 hS p3 q3 ⟨a3, b3, kt⟩;refine wc hS (aN _ hI) ?_;rintro b s4 hI d4 hS p4 q4 ⟨a4, b4, -⟩;have kt := kt.up ⟨d4, hI.good⟩;cases b;rotate_left
   · simp only [↓reduceIte];have a4 := a4 rfl;refine wc hS (HL.pat k _ hI) ?_;rintro q s5 hI d5 hS p5 q5 ⟨a5, b5, kq⟩;have kt := kt.up ⟨d5, hI.good⟩;refine wb (P := fun j s => St1 ts o k s5 s ∧ KN s.nodes (Gk 1) j) ?_ fun j s6 h6 => ?_
     · have hS := Stp.refl s5;refine wc hS (jh hI kq) ?_;rintro sp2 s6 hI d6 hS p6 q6 e6;subst e6;refine we hS (aF (Gk 1) _ 37 _ _ hI (lt2 kq kt) (by simp [cT, aJ, je, seqB, kq.g, kt.g]) rfl) ?_;rintro iz sz hI dz hS pz qz ⟨a9, b9, k9, -⟩;exact ⟨hS, k9⟩
     · obtain ⟨⟨hI, d6⟩, kj⟩ := h6;have hS := hS.trans d6;have p6 := d6.pos;have q6 := d6.len;refine wc hS (aF (Gk 1) _ 38 _ _ hI (lt1 kj) (by simp [cT, aJ, je, seqB, kj.g]) rfl) ?_;rintro i s7 hI d7 hS p7 q7 ⟨a7, b7, ki, -⟩;exact NU
   simp only [ξh, ↓reduceIte];refine wc hS (aF (Gk 1) _ 31 _ _ hI lt0 (by simp [cT, aJ]) rfl) ?_;rintro i s5 hI d5 hS p5 q5 ⟨a5, b5, ki, -⟩;have kt := kt.up ⟨d5, hI.good⟩;refine wc hS (aF (Gk 1) _ 37 _ _ hI (lt2 ki kt) (by simp [cT, aJ, je, seqB, ki.g, kt.g]) rfl) ?_;rintro j s6 hI d6 hS p6 q6 ⟨a6, b6, kj, -⟩;refine we hS (aF (Kw 28 1 1 (bw 1)) _ 28 _ _ hI (lt1 kj) (Kr (by decide) kj) (by simp [Kw, kj.g])) ?_;rintro iz sz hI dz hS pz qz ⟨a9, b9, k9, -⟩;exact ⟨hS, by omega, by omega, k9⟩
def PFs (l : List Nd) (is : List Nat) : Prop := ∃ fs ds, is = fs ++ ds ∧ KL l (Kw 28 1 1 (bw 1)) fs ∧ (ds = [] ∨ ∃ d, ds = [d] ∧ KN l (Kd 35) d)
theorem mU (HL : fQ ts o L) : ∀ (f : Nat) (l : List Nat) (st : PS), Inv ts o k st → ts.length < f + st.pos → l.length ≤ st.nodes.length →
 wpM (dN ts L f l) (fun l' s => St1 ts o k st s ∧ ∃ m, l' = l ++ m ∧ PFs s.nodes m ∧ st.pos < s.pos ∧ l'.length ≤ s.nodes.length) st
 | 0, l, st, hI, hf, hl => by have := hI.pos; omega
 | f + 1, l, st, hI, hf, hl => by
  have hS := Stp.refl st;unfold dN;refine aP (g := ak ts) ?_;refine wc hS (aN _ hI) ?_;rintro b s1 hI d1 hS p1 q1 ⟨a1, b1, -⟩;cases b;rotate_left
  · simp only [↓reduceIte];have a1 := a1 rfl;refine wc hS (aF (Kd 35) _ 35 _ _ hI lt0 (by simp [cT, aJ]) rfl) ?_;rintro i s2 hI d2 hS p2 q2 ⟨a2, b2, ki, -⟩;have hm := hI.many;refine wc hS (dH hI (by omega)) ?_;rintro u s3 hI d3 hS p3 q3 e3;subst e3;refine wc hS (bA _ hI) ?_;rintro u s4 hI d4 hS p4 q4 ⟨a4, b4, -⟩;have ki := ki.up ⟨d4, hI.good⟩;exact aR ⟨⟨hI, hS⟩, [i], rfl, ⟨[], [i], rfl, KL.nil, .inr ⟨i, rfl, ki⟩⟩, by omega, by simp; omega⟩
  simp only [ξh, ↓reduceIte];refine wc hS (xR HL _ _ hI) ?_;rintro i s2 hI d2 hS p2 q2 ⟨a2, b2, ki⟩;have hm := hI.many;refine wc hS (dH hI (by omega)) ?_;rintro u s3 hI d3 hS p3 q3 e3;subst e3;refine wc hS (aN _ hI) ?_;rintro b s4 hI d4 hS p4 q4 ⟨a4, b4, -⟩;have ki := ki.up ⟨d4, hI.good⟩;cases b;rotate_left
  · simp only [↓reduceIte];have a4 := a4 rfl;refine bB (mU HL f (l ++ [i]) _ hI (by omega) (by simp; omega)) fun l' s h => ?_;obtain ⟨⟨hI4, d4⟩, m, rfl, ⟨fs, ds, rfl, h5, h6⟩, hp4, hn4⟩ := h;exact ⟨⟨hI4, hS.trans d4⟩, i :: (fs ++ ds), by simp, ⟨i :: fs, ds, rfl, KL.cons (ki.up ⟨d4, hI4.good⟩) h5, h6⟩, by omega, hn4⟩
  simp only [ξh, ↓reduceIte];refine wc hS (bA _ hI) ?_;rintro u s5 hI d5 hS p5 q5 ⟨a5, b5, -⟩;have ki := ki.up ⟨d5, hI.good⟩;exact aR ⟨⟨hI, hS⟩, [i], rfl, ⟨[i], [], rfl, KL.one ki, .inl rfl⟩, by omega, by simp; omega⟩
theorem vX (HL : fQ ts o L) (hI : Inv ts o k st) : wpM (dZ ts L) (fun l s => St1 ts o k st s ∧ PFs s.nodes l ∧ st.pos < s.pos ∧ l.length ≤ s.nodes.length) st := by
 have hS := Stp.refl st;unfold dZ;refine wc hS (aN _ hI) ?_;rintro b s1 hI d1 hS p1 q1 ⟨a1, b1, -⟩;cases b;rotate_left
 · simp only [↓reduceIte];have a1 := a1 rfl;exact aR ⟨⟨hI, hS⟩, ⟨[], [], rfl, KL.nil, .inl rfl⟩, by omega, by simp⟩
 simp only [ξh, ↓reduceIte];refine bB (mU HL (ts.length + 1) [] _ hI (by omega) (by simp)) fun l' s h => ?_;obtain ⟨⟨hI4, d4⟩, m, rfl, h5, hp4, hn4⟩ := h;exact ⟨⟨hI4, hS.trans d4⟩, h5, by omega, hn4⟩
theorem yw {f : Int → Bool} {r : List Int} : ∀ {vs : List Int}, (∀ c ∈ vs, f c = true) → (cH f (vs ++ r)).2 = (cH f r).2
 | [], _ => rfl
 | c :: t, h => by
  simp only [List.cons_append, cH];rw [h c List.mem_cons_self];simp only [if_true];exact yw fun k hk => h k (ξA _ hk)
theorem uQ {l : List Nd} {k : Int} {lo hi : Nat} {g : Int → Bool} {a b : List Int} : inB l k lo hi g (a ++ b) = (inB l k lo hi g a && inB l k lo hi g b) := by
 unfold inB;rw [List.all_append]
theorem KL.inn0 {l : List Nd} {k k' : Int} {lo hi : Nat} {g : Int → Bool} {is : List Nat} (h : KL l (Kd k') is) (hk : k' ≠ k) : inB l k lo hi g (is.map Int.ofNat) = true := EY fun c hc n hn he => by
 obtain ⟨i, hi', rfl⟩ := List.mem_map.1 hc;obtain ⟨hg, m, hm, hp⟩ := h i hi';rw [show ((Int.ofNat i)).toNat = i from rfl, hm] at hn;obtain rfl := Option.some.inj hn;simp only [Kd, ξZ] at hp;exact absurd (hp.symm.trans he) hk
theorem PFs.lt {l : List Nd} {is : List Nat} (h : PFs l is) : ∀ i ∈ is, i < l.length := fun i hi => by
 obtain ⟨fs, ds, rfl, h1, h2⟩ := h;rcases ξ9.1 hi with h3 | h3
 · exact h1.lt i h3
 · rcases h2 with rfl | ⟨d, rfl, h4⟩
   · simp at h3
   · exact lt1 h4 i h3
theorem Kn {l : List Nd} {ks : List Nat} {t : Bytes} {x y : Int} (h : PFs l ks) : cT l ⟨34, t, [], ks.map Int.ofNat, x, y⟩ = true := by
 obtain ⟨fs, ds, rfl, h1, h2⟩ := h;have e1 : inB l 28 1 1 (bw 1) ((fs ++ ds).map Int.ofNat) = true := by
  rw [ξ8, uQ, h1.inn];rcases h2 with rfl | ⟨d, rfl, h4⟩
  · rfl
  · exact (KL.one h4).inn0 (by decide)
 have e2 : (cH (fun c => kindOf l c == 28) ((fs ++ ds).map Int.ofNat)).2 = (cH (fun c => kindOf l c == 28) (ds.map Int.ofNat)).2 := by
  rw [ξ8, yw fun c hc => by rw [h1.w.d c hc]; rfl]
 have e3 : je l 34 ((fs ++ ds).map Int.ofNat) = true := by
  unfold je;simp only [Int.reduceEq, or_self, ↓reduceIte];rw [e2];rcases h2 with rfl | ⟨d, rfl, h4⟩
  · rfl
  · have : kindOf l (Int.ofNat d) = 35 := h4.d;simp only [List.map_cons, List.map_nil, cH, this];simp [seqB, h4.d]
 unfold cT aJ;simp only [Int.reduceEq, or_self, ↓reduceIte, e1, e3, Bool.and_self, Int.reduceLT]
theorem j3 (HL : fQ ts o L) : Ph ts o k (Gk 1) (dD ts L) := by
 intro st hI;have hS := Stp.refl st;unfold dD;refine aP (g := ak ts) (aP (g := aB ts 0) ?_);split
 · rename_i hc;simp only [ξg] at hc;have hlt := Bv hc.1;have h4 := vk hc.1;have h2 : bZ (aB ts 0 st) ≠ 2 := by simpa using hc.2
   have hm : bw 1 (bZ (aB ts 0 st)) = true := by
    rcases h4 with e | e | e | e
    · rw [e]; rfl
    · exact absurd e h2
    · rw [e]; rfl
    · rw [e]; rfl
   refine wc hS (bV 1 hI (by omega)) ?_;rintro u s1 hI d1 hS p1 q1 ⟨a1, b1, -⟩;refine we hS (aF (Gk 1) _ _ _ _ hI lt0 (yK h4) hm) ?_;rintro iz sz hI dz hS pz qz ⟨a9, b9, k9, -⟩;exact ⟨hS, by omega, by omega, k9⟩
 refine aP (g := bM ts 0) ?_;split
 · rename_i hp;have hlt := l9 hp;refine wc hS (bV _ hI (by omega)) ?_;rintro u s1 hI d1 hS p1 q1 ⟨a1, b1, -⟩;refine we hS (aF (Gk 1) _ 31 _ _ hI lt0 (by simp [cT, aJ]) rfl) ?_;rintro iz sz hI dz hS pz qz ⟨a9, b9, k9, -⟩;exact ⟨hS, by omega, by omega, k9⟩
 split
 · exact bB (jH (.inr (.inl rfl)) st hI) fun i s h => ⟨h.1, h.2.1, h.2.2.1, KZ h.2.2.2 rfl⟩
 refine wc hS (aN _ hI) ?_;rintro b s1 hI d1 hS p1 q1 ⟨a1, b1, -⟩;cases b;rotate_left
 · simp only [↓reduceIte];have a1 := a1 rfl;exact fW
 simp only [ξh, ↓reduceIte];refine wc hS (aN _ hI) ?_;rintro b s2 hI d2 hS p2 q2 ⟨a2, b2, -⟩;cases b;rotate_left
 · simp only [↓reduceIte];have a2 := a2 rfl;refine we hS (aF (Gk 1) _ 30 _ _ hI lt0 (by simp [cT, aJ]) rfl) ?_;rintro iz sz hI dz hS pz qz ⟨a9, b9, k9, -⟩;exact ⟨hS, by omega, by omega, k9⟩
 simp only [ξh, ↓reduceIte];refine wc hS (aN _ hI) ?_;rintro b s3 hI d3 hS p3 q3 ⟨a3, b3, -⟩;cases b;rotate_left
 · simp only [↓reduceIte];have a3 := a3 rfl;refine wb (P := fun l s => St1 ts o k s3 s ∧ s3.pos < s.pos ∧ KL s.nodes (Gk 1) l ∧ (l.length = 1 → s3.nodes.length < s.nodes.length) ∧ l.length ≤ s.nodes.length) ?_ fun l s4 h4 => ?_
   · have hS := Stp.refl s3;unfold oF;refine wc hS (aN _ hI) ?_;rintro b s4 hI d4 hS p4 q4 ⟨a4, b4, -⟩;cases b;rotate_left
     · simp only [↓reduceIte];have a4 := a4 rfl;exact aR ⟨⟨hI, hS⟩, by omega, KL.nil, fun e => by simp at e, by simp⟩
     simp only [ξh, ↓reduceIte];refine wc hS (HL.pat k _ hI) ?_;rintro i s5 hI d5 hS p5 q5 ⟨a5, b5, ki⟩;refine wc hS (iO (HL.pat k) (ts.length + 1) [i] _ hI (by omega) (by simp; omega)) ?_;rintro l s6 hI d6 hS p6 q6 ⟨m, e6, km, l6, -⟩;have ki := ki.up ⟨d6, hI.good⟩;subst e6;have kl := KL.cons ki km;refine wc hS (bA _ hI) ?_;rintro u s7 hI d7 hS p7 q7 ⟨a7, b7, -⟩;have kl := kl.up ⟨d7, hI.good⟩;exact aR ⟨⟨hI, hS⟩, by omega, kl, fun _ => by omega, by simp at l6 ⊢; omega⟩
   · obtain ⟨⟨hI, d4⟩, a4, kl, hnl, hn4⟩ := h4;have hS := hS.trans d4;have p4 := d4.pos;have q4 := d4.len;split
     · rename_i hn;have h1 : l.length = 1 := by simpa using hn
       exact aR ⟨⟨hI, hS⟩, by omega, by have := hnl h1; omega, kl.first (by omega)⟩
     · rename_i hn;have h2 : l.length ≠ 1 := by simpa using hn
       have hz0 := iI (m := 0) kl.g (by simp);refine we hS (aF (Gk 1) _ 33 _ _ hI kl.lt (by simp [cT, aJ, je, hz0, h2]) rfl) ?_;rintro iz sz hI dz hS pz qz ⟨a9, b9, k9, -⟩;exact ⟨hS, by omega, by omega, k9⟩
 simp only [ξh, ↓reduceIte];refine wc hS (aN _ hI) ?_;rintro b s4 hI d4 hS p4 q4 ⟨a4, b4, -⟩;cases b;rotate_left
 · simp only [↓reduceIte];have a4 := a4 rfl;refine wc hS (AZ (HL.pat k) hI) ?_;rintro l s6 hI d6 hS p6 q6 ⟨a6, kl, n6⟩;refine we hS (aF (Gk 1) _ 36 _ _ hI kl.lt (lN (.inr (.inl ⟨rfl, rfl, rfl⟩)) kl (ξM _)) rfl) ?_;rintro iz sz hI dz hS pz qz ⟨a9, b9, k9, -⟩;exact ⟨hS, by omega, by omega, k9⟩
 simp only [ξh, ↓reduceIte];refine wc hS (aN _ hI) ?_;rintro b s5 hI d5 hS p5 q5 ⟨a5, b5, -⟩;cases b;rotate_left
 · simp only [↓reduceIte];have a5 := a5 rfl;refine wc hS (vX HL hI) ?_;rintro l s6 hI d6 hS p6 q6 ⟨kl, a6, n6⟩;refine we hS (aF (Gk 1) _ 34 _ _ hI kl.lt (Kn kl) rfl) ?_;rintro iz sz hI dz hS pz qz ⟨a9, b9, k9, -⟩;exact ⟨hS, by omega, by omega, k9⟩
 simp only [ξh, ↓reduceIte];exact fW
theorem Ac (hI : Inv ts o k st) (hc : 0 < (bM ts 0 st).2 ∨ ((aB ts 0 st).kind == 2 && !(aB ts 0 st).path.isEmpty) = true) :
 wpM (dD ts L) (fun i s => St1 ts o k st s ∧ st.pos < s.pos ∧ st.nodes.length < s.nodes.length ∧ KN s.nodes (Kd 31) i) st := by
 have hS := Stp.refl st;have hck : bZ (aB ts 0 st) = 0 := by
  have : (aB ts 0 st).kind = 2 ∨ (aB ts 0 st).kind = 1 := by
   rcases hc with hc | hc
   · unfold bM at hc;split at hc
     · rename_i h1;unfold cJ at h1;simp only [ξg, ξZ] at h1;exact .inl h1.1.1
     · split at hc
       · rename_i h1 h2;unfold isP at h2;simp only [ξg, ξZ] at h2;exact .inr h2.1
       · exact absurd hc (by decide)
   · simp only [ξg, ξZ] at hc;exact .inl hc.1
  unfold bZ;rcases this with e | e <;> rw [e] <;> rfl
 unfold dD;refine aP (g := ak ts) (aP (g := aB ts 0) ?_);rw [ψh (by rw [hck]; decide)];refine aP (g := bM ts 0) ?_;split
 · rename_i hp;have hlt := l9 hp;refine wc hS (bV _ hI (by omega)) ?_;rintro u s1 hI d1 hS p1 q1 ⟨a1, b1, -⟩;refine we hS (aF (Kd 31) _ 31 _ _ hI lt0 (by simp [cT, aJ]) rfl) ?_;rintro iz sz hI dz hS pz qz ⟨a9, b9, k9, -⟩;exact ⟨hS, by omega, by omega, k9⟩
 · rename_i hp;rw [ψi (hc.elim (fun h => absurd h hp) id)];exact bB (jH (.inr (.inl rfl)) st hI) fun i s h => ⟨h.1, h.2.1, h.2.2.1, h.2.2.2.w⟩
theorem Di (HL : fQ ts o L) : Ph ts o k (Gk 1) (eC ts L) := by
 intro st hI;have hS := Stp.refl st;unfold eC;refine aP (g := ak ts) (aP (g := aB ts 0) (aP (g := bM ts 0) ?_));split
 · exact j3 HL st hI
 · rename_i hn;have hc : 0 < (bM ts 0 st).2 ∨ ((aB ts 0 st).kind == 2 && !(aB ts 0 st).path.isEmpty) = true := by
    rcases Nat.eq_zero_or_pos (bM ts 0 st).2 with h0 | h0
    · refine .inr ?_;rw [h0] at hn;simpa using hn
    · exact .inl h0
   refine wc hS (Ac hI hc) ?_;rintro c s1 hI d1 hS p1 q1 ⟨a1, b1, kc⟩;refine aP (g := cN ts) ?_;split
   · exact aR ⟨⟨hI, hS⟩, by omega, by omega, MB kc rfl⟩
   · refine wc hS (j3 HL _ hI) ?_;rintro a s2 hI d2 hS p2 q2 ⟨a2, b2, ka⟩;have kc := kc.up ⟨d2, hI.good⟩;refine we hS (aF (Gk 1) _ 32 _ _ hI (lt2 kc ka) (by simp [cT, aJ, je, seqB, kc.d, ka.g]) rfl) ?_;rintro iz sz hI dz hS pz qz ⟨a9, b9, k9, -⟩;exact ⟨hS, by omega, by omega, k9⟩
theorem pJ (HL : fQ ts o L) : Ph ts o k (Gk 1) (do
 let i ← zh ts (eC ts L) false
 eD ts L 37 (ts.length + 1) i) := by
 intro st hI;have hS := Stp.refl st;refine wc hS (Ed (ex := false) (Di HL) _ hI) ?_;rintro e s1 hI d1 hS p1 q1 ⟨a1, b1, ke⟩;refine we hS (nH HL (.inr ⟨rfl, rfl⟩) (ts.length + 1) e _ hI ke (by omega)) ?_;rintro iz sz hI dz hS pz qz k9;exact ⟨hS, by omega, by omega, k9⟩
theorem zQ (HL : fQ ts o L) : Ph ts o k (Gk 1) (fE ts L) := by
 intro st hI;have hS := Stp.refl st;unfold fE;refine aP (g := ak ts) (aP (g := bM ts 0) ?_);by_cases h0 : 0 < (bM ts 0 st).2
 · simp only [h0, ↓reduceIte];refine aP (g := isP ts _ [97, 115]) ?_;split
   · rename_i hc;have hlt := gu hc;refine wc hS (bV _ hI (by omega)) ?_;rintro u s1 hI d1 hS p1 q1 ⟨a1, b1, -⟩;refine wc hS (HL.pat k _ hI) ?_;rintro i s2 hI d2 hS p2 q2 ⟨a2, b2, ki⟩;refine we hS (aF (Gk 1) _ 38 _ _ hI (lt1 ki) (by simp [cT, aJ, je, seqB, ki.g]) rfl) ?_;rintro iz sz hI dz hS pz qz ⟨a9, b9, k9, -⟩;exact ⟨hS, by omega, by omega, k9⟩
   refine aP (g := isP ts _ [58]) ?_;split
   · rename_i hc;have hlt := gu hc;refine wc hS (bV _ hI (by omega)) ?_;rintro u s1 hI d1 hS p1 q1 ⟨a1, b1, -⟩;refine wc hS (HL.ty k _ hI) ?_;rintro t s2 hI d2 hS p2 q2 ⟨a2, b2, kt⟩;refine wc hS (aN _ hI) ?_;rintro b s3 hI d3 hS p3 q3 ⟨a3, b3, -⟩;have kt := kt.up ⟨d3, hI.good⟩;cases b;rotate_left
     · simp only [↓reduceIte];have a3 := a3 rfl;refine wc hS (HL.pat k _ hI) ?_;rintro q s4 hI d4 hS p4 q4 ⟨a4, b4, kq⟩;have kt := kt.up ⟨d4, hI.good⟩;refine wc hS (jh hI kq) ?_;rintro sp2 s6 hI d6 hS p6 q6 e6;subst e6;refine wc hS (aF (Gk 1) _ 37 _ _ hI (lt2 kq kt) (by simp [cT, aJ, je, seqB, kq.g, kt.g]) rfl) ?_;rintro j s7 hI d7 hS p7 q7 ⟨a7, b7, kj, -⟩;refine we hS (aF (Gk 1) _ 38 _ _ hI (lt1 kj) (by simp [cT, aJ, je, seqB, kj.g]) rfl) ?_;rintro iz sz hI dz hS pz qz ⟨a9, b9, k9, -⟩;exact ⟨hS, by omega, by omega, k9⟩
     simp only [ξh, ↓reduceIte];refine wc hS (aF (Gk 1) _ 31 _ _ hI lt0 (by simp [cT, aJ]) rfl) ?_;rintro i s5 hI d5 hS p5 q5 ⟨a5, b5, ki, -⟩;have kt := kt.up ⟨d5, hI.good⟩;refine wc hS (aF (Gk 1) _ 37 _ _ hI (lt2 ki kt) (by simp [cT, aJ, je, seqB, ki.g, kt.g]) rfl) ?_;rintro j s6 hI d6 hS p6 q6 ⟨a6, b6, kj, -⟩;refine we hS (nH HL (.inr ⟨rfl, rfl⟩) (ts.length + 1) j _ hI kj (by omega)) ?_;rintro iz sz hI dz hS pz qz k9;exact ⟨hS, by omega, by omega, k9⟩
   · exact pJ HL st hI
 · simp only [h0, ↓reduceIte];refine pb ?_;simp only [ξh, ↓reduceIte];refine pb ?_;simp only [ξh, ↓reduceIte];exact pJ HL st hI
theorem JI (HL : o + 1 ≤ 1000 → fQ ts (o + 1) L) : Ph ts o k (Gk 1) (Et ts L) := by
 intro st hI;unfold Et;refine wb (ju hI) fun u s1 h1 => ?_;obtain ⟨⟨hI, d1⟩, ho, e1, e2, -⟩ := h1;have HL := HL ho;have hS := d1;have hp : s1.nodes.length = st.nodes.length := by rw [e2]
 refine wc hS (zQ HL _ hI) ?_;rintro e s2 hI d2 hS p2 q2 ⟨a2, b2, ke⟩;refine wc hS (jl hI) ?_;rintro u s4 hI d4 hS p4 q4 ⟨a4, b4, -⟩;have ke := ke.up ⟨d4, hI.good⟩;exact aR ⟨⟨hI, hS⟩, by omega, by omega, ke⟩
theorem qP : Ph ts o k (Kd 40) (iY ts) := by
 intro st hI;have hS := Stp.refl st;unfold iY;refine aP (g := ak ts) (aP (g := aB ts 0) ?_);split
 · rename_i hc;have hlt := kZ (ts := ts) (st := st) (j := 0) (by have h3 : (aB ts 0 st).kind = 3 := (by simpa using hc); rw [h3]; decide);refine wc hS (bV 1 hI (by omega)) ?_;rintro u s1 hI d1 hS p1 q1 ⟨a1, b1, -⟩;refine we hS (aF (Kd 40) _ 40 _ _ hI lt0 (by simp [cT, aJ]) rfl) ?_;rintro iz sz hI dz hS pz qz ⟨a9, b9, k9, -⟩;exact ⟨hS, by omega, by omega, k9⟩
 · exact fW
theorem qR {args : List Nat} (hI : Inv ts o k st) (ka : KL st.nodes (Gk 2) args) (hal : args.length ≤ st.nodes.length) : wpM (iZ ts args) (fun i s => St1 ts o k st s ∧ st.pos < s.pos ∧ st.nodes.length < s.nodes.length ∧ KN s.nodes (Gk 2) i) st := by
 have hS := Stp.refl st;unfold iZ;refine aP (g := ak ts) (aP (g := aB ts 0) (aP (g := iC ts) ?_));split
 · exact fW
 · rename_i hc;have hlt := kZ (ts := ts) (st := st) (j := 0) (by
    simp only [ξj, not_or, ψa, ne_eq, Decidable.not_not] at hc;rw [hc.1]; decide)
   refine wb (P := fun _ s => s = st) ?_ fun sp s1 e1 => ?_
   · cases args with
     | nil => exact aR rfl
     | cons a r => exact bB (jh hI (ka a List.mem_cons_self)) fun _ _ h => h.2
   · subst e1;refine wc hS (bV 1 hI (by omega)) ?_;rintro u s1 hI d1 hS p1 q1 ⟨a1, b1, -⟩;have ka := ka.up ⟨d1, hI.good⟩;refine we hS (vV (Gk 2) _ 41 _ _ _ hI ka.lt (lN (by simp) ka (ξM _)) rfl (vG hI.tp)) ?_;rintro iz sz hI dz hS pz qz ⟨a9, b9, k9⟩;exact ⟨hS, by omega, by omega, k9⟩
theorem Iq (HL : fQ ts o L) : Ph ts o k (Gk 2) (qg ts L) := by
 intro st hI;have hS := Stp.refl st;unfold qg;refine aP (g := ak ts) (aP (g := aB ts 0) ?_);split
 · exact bB (qP st hI) fun i s h => ⟨h.1, h.2.1, h.2.2.1, MB h.2.2.2 rfl⟩
 split
 · exact qR hI KL.nil (by simp)
 refine wc hS (aN _ hI) ?_;rintro b s1 hI d1 hS p1 q1 ⟨a1, b1, -⟩;cases b;rotate_left
 · simp only [↓reduceIte];have a1 := a1 rfl;refine wc hS (uY (by decide) (HL.ty k) hI) ?_;rintro l s4 hI d4 hS p4 q4 ⟨a4, kl, n4⟩;refine we hS (aF (Gk 2) _ 43 _ _ hI kl.lt (uW (.inr ⟨rfl, rfl⟩) kl) rfl) ?_;rintro iz sz hI dz hS pz qz ⟨a9, b9, k9, -⟩;exact ⟨hS, by omega, by omega, k9⟩
 simp only [ξh, ↓reduceIte];refine wc hS (aN _ hI) ?_;rintro b s2 hI d2 hS p2 q2 ⟨a2, b2, -⟩;cases b;rotate_left
 · simp only [↓reduceIte];have a2 := a2 rfl;refine wc hS (cZ (HL.ty k) _ hI) ?_;rintro l s3 hI d3 hS p3 q3 ⟨a3, b3, kl, hl, c3⟩;refine wc hS (bA _ hI) ?_;rintro u s4 hI d4 hS p4 q4 ⟨a4, b4, -⟩;have kl := kl.up ⟨d4, hI.good⟩;split
   · exact aR ⟨⟨hI, hS⟩, by omega, by omega, kl.first hl⟩
   · refine we hS (qR hI kl (by omega)) ?_;rintro iz sz hI dz hS pz qz ⟨a9, b9, k9⟩;exact ⟨hS, by omega, by omega, k9⟩
 simp only [ξh, ↓reduceIte];exact fW
theorem pW : ∀ (f e : Nat) (st : PS), Inv ts o k st → KN st.nodes (Gk 2) e → ts.length < f + st.pos → wpM (gV ts f e) (fun i s => St1 ts o k st s ∧ KN s.nodes (Gk 2) i) st
 | 0, e, st, hI, ke, hf => by have := hI.pos; omega
 | f + 1, e, st, hI, ke, hf => by
  have hS := Stp.refl st;unfold gV;refine aP (g := aB ts 0) (aP (g := iC ts) ?_);split
  · refine wc hS (qR hI (KL.one ke) (by have := ke.lt; simp; omega)) ?_;rintro i s1 hI d1 hS p1 q1 ⟨a1, b1, ki⟩;refine bB (pW f i _ hI ki (by omega)) fun i s h => ?_;exact ⟨⟨h.1.1, hS.trans h.1.2⟩, h.2⟩
  · exact aR ⟨⟨hI, hS⟩, ke⟩
theorem tG (HL : fQ ts o L) : Ph ts o k (Gk 2) (dL ts L) := by
 intro st hI;have hS := Stp.refl st;unfold dL;refine wc hS (Iq HL _ hI) ?_;rintro e s1 hI d1 hS p1 q1 ⟨a1, b1, ke⟩;refine we hS (pW (ts.length + 1) e _ hI ke (by omega)) ?_;rintro iz sz hI dz hS pz qz k9;exact ⟨hS, by omega, by omega, k9⟩
theorem pF (HL : fQ ts o L) : ∀ (f : Nat) (l : List Nat) (st : PS), Inv ts o k st → KL st.nodes (Gk 2) l → ts.length < f + st.pos → l.length ≤ st.nodes.length →
 wpM (eF ts L f l) (fun l' s => St1 ts o k st s ∧ KL s.nodes (Gk 2) l' ∧ l.length ≤ l'.length ∧ l'.length ≤ s.nodes.length) st
 | 0, l, st, hI, kl, hf, hl => by have := hI.pos; omega
 | f + 1, l, st, hI, kl, hf, hl => by
  have hS := Stp.refl st;unfold eF;refine aP (g := iC ts) ?_;split
  · rename_i hc;have hlt : st.pos + 0 < ts.length := lG (st := st) (by
     unfold iC at hc;simp only [ξg] at hc;exact hc.1)
    refine wc hS (bV 1 hI (by omega)) ?_;rintro u s1 hI d1 hS p1 q1 ⟨a1, b1, -⟩;have kl := kl.up ⟨d1, hI.good⟩;refine wc hS (tG HL _ hI) ?_;rintro i s2 hI d2 hS p2 q2 ⟨a2, b2, ki⟩;have kl := kl.up ⟨d2, hI.good⟩;have hm := hI.many;refine wc hS (dH hI (by omega)) ?_;rintro u s3 hI d3 hS p3 q3 e3;subst e3;refine bB (pF HL f (l ++ [i]) _ hI (KL.app kl (KL.one ki)) (by omega) (by simp; omega)) fun i s h => ?_;exact ⟨⟨h.1.1, hS.trans h.1.2⟩, h.2.1, by have := h.2.2.1; simp at this; omega, h.2.2.2⟩
  · exact aR ⟨⟨hI, hS⟩, kl, ξF _, hl⟩
theorem zI (HL : fQ ts o L) : Ph ts o k (Gk 2) (fC ts L) := by
 intro st hI;have hS := Stp.refl st;unfold fC;refine wc hS (tG HL _ hI) ?_;rintro i s1 hI d1 hS p1 q1 ⟨a1, b1, ki⟩;refine wc hS (pF HL (ts.length + 1) [i] _ hI (KL.one ki) (by omega) (by simp; omega)) ?_;rintro l s2 hI d2 hS p2 q2 ⟨kl, hl, hl2⟩;simp only [ξ2, ξ5] at hl;split
 · exact aR ⟨⟨hI, hS⟩, by omega, by omega, kl.first (by omega)⟩
 · rename_i hn;have h2 : l.length ≠ 1 := by simpa using hn
   refine wc hS (jh hI (kl.first (by omega))) ?_;rintro sp s3 hI d3 hS p3 q3 e3;subst e3;refine we hS (aF (Gk 2) _ 42 _ _ hI kl.lt (lN (m := 2) (by simp) kl (by omega)) rfl) ?_;rintro iz sz hI dz hS pz qz ⟨a9, b9, k9, -⟩;exact ⟨hS, by omega, by omega, k9⟩
theorem K7 (HL : o + 1 ≤ 1000 → fQ ts (o + 1) L) : Ph ts o k (Gk 2) (tyM ts L) := by
 intro st hI;unfold tyM;refine wb (ju hI) fun u s1 h1 => ?_;obtain ⟨⟨hI, d1⟩, ho, e1, e2, -⟩ := h1;have HL := HL ho;have hS := d1;have hp : s1.nodes.length = st.nodes.length := by rw [e2]
 refine wc hS (zI HL _ hI) ?_;rintro e s2 hI d2 hS p2 q2 ⟨a2, b2, ke⟩;refine wb (P := fun j s => St1 ts (o + 1) k s2 s ∧ KN s.nodes (Gk 2) j) ?_ fun j s3 h3 => ?_
 · have hS := Stp.refl s2;refine wc hS (aN _ hI) ?_;rintro b s3 hI d3 hS p3 q3 ⟨a3, b3, -⟩;have ke := ke.up ⟨d3, hI.good⟩;cases b;rotate_left
   · simp only [↓reduceIte];have a3 := a3 rfl;refine wc hS (jh hI ke) ?_;rintro sp s4 hI d4 hS p4 q4 e4;subst e4;refine wc hS (HL.ty k _ hI) ?_;rintro t s5 hI d5 hS p5 q5 ⟨a5, b5, kt⟩;have ke := ke.up ⟨d5, hI.good⟩;refine we hS (aF (Gk 2) _ 44 _ _ hI (lt2 ke kt) (by simp [cT, aJ, F6, seqB, ke.g, kt.g]) rfl) ?_;rintro iz sz hI dz hS pz qz ⟨a9, b9, k9, -⟩;exact ⟨hS, k9⟩
   simp only [ξh, ↓reduceIte];exact aR ⟨⟨hI, hS⟩, ke⟩
 · obtain ⟨⟨hI, d3⟩, kj⟩ := h3;have hS := hS.trans d3;have p3 := d3.pos;have q3 := d3.len;refine wc hS (jl hI) ?_;rintro u s4 hI d4 hS p4 q4 ⟨a4, b4, -⟩;have kj := kj.up ⟨d4, hI.good⟩;exact aR ⟨⟨hI, hS⟩, by omega, by omega, kj⟩
end
end Kiln
