/- Part of the proof. Conditions: those of each theorem. -/
import Derived.Test.YtbchkldhnjahaaaGreatDoorPoa
import Derived.Test.YtbchkldhnjahaaaGreatDoorPob
import Derived.Test.YtbchkldhnjahaaaGreatDoorPoc
set_option maxRecDepth 100000
set_option maxHeartbeats 40000000
namespace Kiln
section
variable {ts : List Tok} {o k : Nat} {st : PS} {L : Low}
theorem BI (HL : fQ ts o L) : Ph ts o k (Kd 53) (bindM ts L) := by
 intro st hI;have hS := Stp.refl st;unfold bindM;refine wc hS (HL.pat k _ hI) ?_;rintro a s1 hI d1 hS p1 q1 ⟨a1, b1, ka⟩;refine wc hS (bA _ hI) ?_;rintro u s2 hI d2 hS p2 q2 ⟨a2, b2, -⟩;have ka := ka.up ⟨d2, hI.good⟩;refine wc hS (HL.exp k _ hI) ?_;rintro e s3 hI d3 hS p3 q3 ⟨a3, b3, ke⟩;have ka := ka.up ⟨d3, hI.good⟩;refine wc hS (jh hI ka) ?_;rintro sp s4 hI d4 hS p4 q4 e4;subst e4;refine we hS (aF (Kd 53) _ _ _ _ hI (lt2 ka ke) (by simp [cT, aJ, iR, seqB, ka.g, ke.g]) rfl) ?_;rintro iz sz hI dz hS pz qz ⟨a9, b9, k9, -⟩;exact ⟨hS, by omega, by omega, k9⟩
theorem jQ (hI : Inv ts o k st) : wpM (fU ts) (fun l s => St1 ts o k st s ∧ KL s.nodes (Kd 40) l ∧ l.length ≤ s.nodes.length) st := by
 have hS := Stp.refl st;unfold fU;refine aP (g := aB ts 0) ?_;split
 · refine wc hS (qP _ hI) ?_;rintro i s1 hI d1 hS p1 q1 ⟨a1, b1, ki⟩;exact aR ⟨⟨hI, hS⟩, KL.one ki, by simp; omega⟩
 refine aP (g := isP ts 0 [40]) ?_;split
 · exact aR ⟨⟨hI, hS⟩, KL.nil, by simp⟩
 · rename_i hc;have hlt := gu (ts := ts) (st := st) (j := 0) (s := [40]) (by simpa using hc);refine wc hS (bV 1 hI (by omega)) ?_;rintro u s1 hI d1 hS p1 q1 ⟨a1, b1, -⟩;refine wc hS (cZ qP _ hI) ?_;rintro l s2 hI d2 hS p2 q2 ⟨a2, b2, kl, hl, c2⟩;refine wc hS (bA _ hI) ?_;rintro u s3 hI d3 hS p3 q3 ⟨a3, b3, -⟩;have kl := kl.up ⟨d3, hI.good⟩;exact aR ⟨⟨hI, hS⟩, kl, by omega⟩
theorem KL.snoc_lt {l : List Nd} {P Q : Knd} {a : List Nat} {t : Nat} (h : KL l P a) (ht : KN l Q t) : ∀ i ∈ a ++ [t], i < l.length := fun i hi => by
 rcases ξ9.1 hi with h1 | h1
 · exact h.lt i h1
 · exact lt1 ht i h1
theorem zW {l : List Nd} {kd : Int} {vs : List Nat} {n : Nat} {t : Bytes} {x y : Int} (hk : kd = 59 ∨ kd = 93) (h : KL l (Kd 40) vs) (ht : KN l (Gk 2) n) : cT l ⟨kd, t, [], (vs ++ [n]).map Int.ofNat, x, y⟩ = true := by
 have e : seqB l [bw 2] (Aj l ((vs ++ [n]).map Int.ofNat)) = true := by
  rw [ξ8, show List.map Int.ofNat [n] = [Int.ofNat n] from rfl, DJ h.d];simp [seqB, ht.g]
 rcases hk with rfl | rfl
 · unfold cT aJ iR;simp only [Int.reduceEq, or_self, ↓reduceIte, Int.reduceLT, e, Bool.and_self]
 · unfold cT aJ mK;simp only [Int.reduceEq, or_self, ↓reduceIte, Int.reduceLT, e, Bool.and_self]
theorem tQ (HL : fQ ts o L) : Ph ts o k (Kd 59) (gM ts L) := by
 intro st hI;have hS := Stp.refl st;unfold gM;refine aP (g := ak ts) ?_;refine wc hS (jQ hI) ?_;rintro l s1 hI d1 hS p1 q1 ⟨kl, hl⟩;refine wc hS (dJ hI) ?_;rintro n s2 hI d2 hS p2 q2 ⟨a2, b2, -⟩;have kl := kl.up ⟨d2, hI.good⟩;refine wc hS (bA _ hI) ?_;rintro u s3 hI d3 hS p3 q3 ⟨a3, b3, -⟩;have kl := kl.up ⟨d3, hI.good⟩;refine wc hS (HL.ty k _ hI) ?_;rintro t s4 hI d4 hS p4 q4 ⟨a4, b4, kt⟩;have kl := kl.up ⟨d4, hI.good⟩;have hm := hI.many;refine wc hS (dH hI (by omega)) ?_;rintro u s5 hI d5 hS p5 q5 e5;subst e5;refine we hS (aF (Kd 59) _ _ _ _ hI (kl.snoc_lt kt) (zW (.inl rfl) kl kt) rfl) ?_;rintro iz sz hI dz hS pz qz ⟨a9, b9, k9, -⟩;exact ⟨hS, by omega, by omega, k9⟩
theorem sS (HL : fQ ts o L) (sp : Int × Int) (n : Bytes) (hI : Inv ts o k st) : wpM (kT ts L sp n) (fun i s => St1 ts o k st s ∧ st.nodes.length < s.nodes.length ∧ KN s.nodes (Kw 62 0 1 (bw 2)) i) st := by
 have hS := Stp.refl st;unfold kT;refine wc hS (aN _ hI) ?_;rintro b s1 hI d1 hS p1 q1 ⟨a1, b1, -⟩;cases b;rotate_left
 · simp only [↓reduceIte];have a1 := a1 rfl;refine wc hS (HL.ty k _ hI) ?_;rintro t s2 hI d2 hS p2 q2 ⟨a2, b2, kt⟩;have hz := iI (m := 0) (KL.one kt).g (by simp);refine we hS (aF (Kw 62 0 1 (bw 2)) _ 62 _ [t] hI (lt1 kt) (by simp only [List.map_cons, List.map_nil] at hz ; simp [cT, aJ, iR, lH] ; simpa using hz) (by simp [Kw, kt.g])) ?_;rintro iz sz hI dz hS pz qz ⟨a9, b9, k9, -⟩;exact ⟨hS, by omega, k9⟩
 simp only [ξh, ↓reduceIte];refine we hS (aF (Kw 62 0 1 (bw 2)) _ 62 _ [] hI lt0 (by simp [cT, aJ, iR, lH, mI, cH]) (by simp [Kw])) ?_;rintro iz sz hI dz hS pz qz ⟨a9, b9, k9, -⟩;exact ⟨hS, by omega, k9⟩
theorem Fu (HL : fQ ts o L) : Ph ts o k (Kw 62 0 1 (bw 2)) (Dr ts L) := by
 intro st hI;have hS := Stp.refl st;unfold Dr;refine aP (g := ak ts) ?_;refine wc hS (aN _ hI) ?_;rintro b s1 hI d1 hS p1 q1 ⟨a1, b1, -⟩;refine wc hS (dJ hI) ?_;rintro n s2 hI d2 hS p2 q2 ⟨a2, b2, -⟩;refine we hS (sS HL _ _ hI) ?_;rintro iz sz hI dz hS pz qz ⟨b9, k9⟩;exact ⟨hS, by omega, by omega, k9⟩
theorem KL.any {l : List Nd} {P : Knd} {is : List Nat} (h : KL l P is) : KL l ⟨fun _ _ => true, fun _ _ _ _ h => h⟩ is := h.mono fun _ hi => hi.mono fun _ _ => rfl
theorem KN.any {l : List Nd} {P : Knd} {i : Nat} (h : KN l P i) : KN l ⟨fun _ _ => true, fun _ _ _ _ h => h⟩ i := h.mono fun _ _ => rfl
theorem Kq {l : List Nd} {vs cs : List Nat} {t : Bytes} {x y : Int} (h : KL l (Kd 40) vs) (hc : KL l (Kw 62 0 1 (bw 2)) cs) (hn : 1 ≤ cs.length) : cT l ⟨61, t, [], (vs ++ cs).map Int.ofNat, x, y⟩ = true := by
 have e1 : inB l 62 0 1 (bw 2) ((vs ++ cs).map Int.ofNat) = true := by
  rw [ξ8, uQ, hc.inn, h.inn0 (by decide)]; rfl
 have e2 : (cH (fun c => kindOf l c == 40) ((vs ++ cs).map Int.ofNat)).2 = cs.map Int.ofNat := by
  rw [ξ8];refine rT (fun c hc' => ?_) fun c hc' => by rw [h.d c hc']; rfl
  cases cs with
  | nil => simp at hn
  | cons a r =>
   simp only [List.map_cons, List.head?_cons, Option.mem_def, ξO] at hc';subst hc';have := (hc.w a List.mem_cons_self).d;rw [show kindOf l (Int.ofNat a) = 62 from this]; rfl
 have e3 := lZ (m := 1) hc.w.d (by simp; omega);unfold cT aJ iR lH;simp only [Int.reduceEq, or_self, or_true, true_or, ↓reduceIte, Int.reduceLT, e1, e2, e3, Bool.and_self]
theorem sK (HL : fQ ts o L) : Ph ts o k (Kd 61) (eM ts L) := by
 intro st hI;have hS := Stp.refl st;unfold eM;refine aP (g := ak ts) ?_;refine wc hS (jQ hI) ?_;rintro l s1 hI d1 hS p1 q1 ⟨kl, hl⟩;refine wc hS (dJ hI) ?_;rintro n s2 hI d2 hS p2 q2 ⟨a2, b2, -⟩;have kl := kl.up ⟨d2, hI.good⟩;refine wc hS (bA _ hI) ?_;rintro u s3 hI d3 hS p3 q3 ⟨a3, b3, -⟩;have kl := kl.up ⟨d3, hI.good⟩;refine wc hS (Fu HL _ hI) ?_;rintro c s4 hI d4 hS p4 q4 ⟨a4, b4, kc⟩;have kl := kl.up ⟨d4, hI.good⟩;have hm := hI.many;refine wc hS (dH hI (by omega)) ?_;rintro u s5 hI d5 hS p5 q5 e5;subst e5;refine wc hS (iO (Fu HL) (ts.length + 1) (l ++ [c]) _ hI (by omega) (by simp; omega)) ?_;rintro l2 s6 hI d6 hS p6 q6 ⟨m, e6, km, l6, -⟩;have kl := kl.up ⟨d6, hI.good⟩;have kc := kc.up ⟨d6, hI.good⟩;subst e6;have kcs := KL.cons kc km;refine we hS (aF (Kd 61) _ 61 _ _ hI (by rw [ξo] ; exact (KL.app kl.any kcs.any).lt) (by rw [ξo] ; exact Kq kl kcs (by simp)) rfl) ?_;rintro iz sz hI dz hS pz qz ⟨a9, b9, k9, -⟩;exact ⟨hS, by omega, by omega, k9⟩
theorem yR (HL : fQ ts o L) (sp : Int × Int) : Ph ts o k (Gk 3) (fB ts L sp) := by
 intro st hI;have hS := Stp.refl st;unfold fB;refine aP (g := aB ts 0) (aP (g := isP ts 1 [61]) (aP (g := isP ts 2 [100, 97, 116, 97, 116, 121, 112, 101]) ?_));split
 · rename_i hc;simp only [ξg] at hc;have hlt := gu hc.2;refine wc hS (dJ hI) ?_;rintro n s1 hI d1 hS p1 q1 ⟨a1, b1, -⟩;refine wc hS (bV 2 hI (by omega)) ?_;rintro u s2 hI d2 hS p2 q2 ⟨a2, b2, -⟩;refine wc hS (jH (.inr (.inr (.inl rfl))) _ hI) ?_;rintro i s3 hI d3 hS p3 q3 ⟨a3, b3, ki⟩;have hz : inB s3.nodes 41 0 0 (bw 2) ([i].map Int.ofNat) = true := (KL.one ki).inn;refine we hS (aF (Gk 3) _ 63 _ [i] hI (lt1 ki) (by simp only [List.map_cons, List.map_nil] at hz ; simp [cT, aJ, iR, lH, seqB, ki.w.d] ; simpa using hz) rfl) ?_;rintro iz sz hI dz hS pz qz ⟨a9, b9, k9, -⟩;exact ⟨hS, by omega, by omega, k9⟩
 · refine wc hS (cZ (sK HL) _ hI) ?_;rintro l s1 hI d1 hS p1 q1 ⟨a1, b1, kl, hl, c1⟩;refine we hS (aF (Gk 3) _ 60 _ _ hI kl.lt (dY (by simp) kl hl) rfl) ?_;rintro iz sz hI dz hS pz qz ⟨a9, b9, k9, -⟩;exact ⟨hS, by omega, by omega, k9⟩
theorem CR (HL : fQ ts o L) : Ph ts o k Kex (jr ts L) := by
 intro st hI;have hS := Stp.refl st;unfold jr;refine aP (g := ak ts) ?_;refine wc hS (aN _ hI) ?_;rintro b s1 hI d1 hS p1 q1 ⟨a1, b1, -⟩;refine wc hS (dJ hI) ?_;rintro n s2 hI d2 hS p2 q2 ⟨a2, b2, -⟩;refine wc hS (aN _ hI) ?_;rintro b s3 hI d3 hS p3 q3 ⟨a3, b3, -⟩;cases b;rotate_left
 · simp only [↓reduceIte];have a3 := a3 rfl;refine wc hS (aN _ hI) ?_;rintro b s4 hI d4 hS p4 q4 ⟨a4, b4, -⟩;refine wc hS (jH (.inl rfl) _ hI) ?_;rintro i s5 hI d5 hS p5 q5 ⟨a5, b5, ki⟩;refine we hS (aF Kex _ 65 _ [i] hI (lt1 ki) (by simp [cT, aJ, iR, lH, seqB, ki.w.d]) (by simp [Kex])) ?_;rintro iz sz hI dz hS pz qz ⟨a9, b9, k9, -⟩;exact ⟨hS, by omega, by omega, k9⟩
 simp only [ξh, ↓reduceIte];refine bB (sS HL _ _ hI) fun i s h => ?_;obtain ⟨⟨hI, d9⟩, b9, k9⟩ := h;have p9 := d9.pos;exact ⟨⟨hI, hS.trans d9⟩, by omega, by omega, k9.mono fun n hn => by
  simp only [Kw, ξg, ψc, ξZ] at hn;simp only [Kex, ξj, ξg, ψc, ξZ];exact .inr ⟨hn.1, hn.2.1.2, hn.2.2⟩⟩
theorem tE (HL : fQ ts o L) : ∀ (f : Nat) (l : List Nat) (st : PS), Inv ts o k st → KL st.nodes (Gk 1) l → ts.length < f + st.pos → l.length ≤ st.nodes.length →
 wpM (fA ts L f l) (fun l' s => St1 ts o k st s ∧ KL s.nodes (Gk 1) l' ∧ l.length ≤ l'.length ∧ l'.length ≤ s.nodes.length) st
 | 0, l, st, hI, kl, hf, hl => by have := hI.pos; omega
 | f + 1, l, st, hI, kl, hf, hl => by
  have hS := Stp.refl st;unfold fA;refine aP (g := cN ts) ?_;split
  · refine wc hS (j3 HL _ hI) ?_;rintro i s2 hI d2 hS p2 q2 ⟨a2, b2, ki⟩;have kl := kl.up ⟨d2, hI.good⟩;have hm := hI.many;refine wc hS (dH hI (by omega)) ?_;rintro u s3 hI d3 hS p3 q3 e3;subst e3;refine bB (tE HL f (l ++ [i]) _ hI (KL.app kl (KL.one ki)) (by omega) (by simp; omega)) fun i s h => ?_;exact ⟨⟨h.1.1, hS.trans h.1.2⟩, h.2.1, by have := h.2.2.1; simp at this; omega, h.2.2.2⟩
  · exact aR ⟨⟨hI, hS⟩, kl, ξF _, hl⟩
theorem C8 (HL : fQ ts o L) : Ph ts o k (Kd 56) (gN ts L) := by
 intro st hI;have hS := Stp.refl st;unfold gN;refine aP (g := ak ts) (aP (g := bM ts 0) (aP (g := aB ts 1) (aP (g := cO (aB ts 1 st)) ?_)));refine wb (P := fun q s => St1 ts o k st s ∧ st.pos < s.pos ∧ st.nodes.length < s.nodes.length ∧ KN s.nodes (Kd 57) q.2) ?_ fun q s1 h1 => ?_
 · split
   · rename_i hc;have hp : 0 < (bM ts 0 st).2 := by
      simp only [ξj, ξg, ξZ] at hc;omega
     have hlt := l9 hp;refine wc hS (bV _ hI (by omega)) ?_;rintro u s1 hI d1 hS p1 q1 ⟨a1, b1, -⟩;refine wc hS (j3 HL _ hI) ?_;rintro a s2 hI d2 hS p2 q2 ⟨a2, b2, ka⟩;refine wc hS (tE HL (ts.length + 1) [a] _ hI (KL.one ka) (by omega) (by simp; omega)) ?_;rintro l s3 hI d3 hS p3 q3 ⟨kl, hl, nl⟩;simp only [ξ2, ξ5] at hl;refine wc hS (jh hI (kl.first (by omega))) ?_;rintro sp s4 hI d4 hS p4 q4 e4;subst e4;refine wc hS (aF (Kd 57) _ 57 _ _ hI kl.lt (lN (m := 1) (by simp) kl (by omega)) rfl) ?_;rintro i s5 hI d5 hS p5 q5 ⟨a5, b5, ki, -⟩;exact aR ⟨⟨hI, hS⟩, by omega, by omega, ki⟩
   · refine aP (g := isP ts 0 [111, 112]) ?_;split
     · rename_i hc;simp only [ξg] at hc;have hlt := gu hc.2;refine wc hS (bV 1 hI (by omega)) ?_;rintro u s1 hI d1 hS p1 q1 ⟨a1, b1, -⟩;exact fW
     · refine wc hS (j3 HL _ hI) ?_;rintro a s1 hI d1 hS p1 q1 ⟨a1, b1, ka⟩;refine aP (g := ak ts) (aP (g := aB ts 0) (aP (g := cO (aB ts 0 s1)) ?_));split
       · exact fW
       · refine wc hS (dJ hI) ?_;rintro tx s2 hI d2 hS p2 q2 ⟨a2, b2, -⟩;have ka := ka.up ⟨d2, hI.good⟩;refine wc hS (j3 HL _ hI) ?_;rintro b s3 hI d3 hS p3 q3 ⟨a3, b3, kb⟩;have ka := ka.up ⟨d3, hI.good⟩;have hz := iI (m := 0) (KL.cons ka (KL.one kb)).g (by simp);refine wc hS (aF (Gk 1) _ 33 _ [a, b] hI (lt2 ka kb) (by simp only [List.map_cons, List.map_nil] at hz ; simp [cT, aJ, je] ; simpa using hz) rfl) ?_;rintro i s4 hI d4 hS p4 q4 ⟨a4, b4, ki, -⟩;refine wc hS (aF (Kd 57) _ 57 _ [i] hI (lt1 ki) (lN (m := 1) (by simp) (KL.one ki) (by simp)) rfl) ?_;rintro j s5 hI d5 hS p5 q5 ⟨a5, b5, kj, -⟩;exact aR ⟨⟨hI, hS⟩, by omega, by omega, kj⟩
 · obtain ⟨⟨hI, d1⟩, a1, b1, kq⟩ := h1;have hS := hS.trans d1;refine wc hS (aN _ hI) ?_;rintro b s2 hI d2 hS p2 q2 ⟨a2, b2, -⟩;have kq := kq.up ⟨d2, hI.good⟩;cases b;rotate_left
   · simp only [↓reduceIte];have a2 := a2 rfl;refine wc hS (HL.ty k _ hI) ?_;rintro t s3 hI d3 hS p3 q3 ⟨a3, b3, kt⟩;have kq := kq.up ⟨d3, hI.good⟩;refine wc hS (bA _ hI) ?_;rintro u s4 hI d4 hS p4 q4 ⟨a4, b4, -⟩;have kq := kq.up ⟨d4, hI.good⟩;have kt := kt.up ⟨d4, hI.good⟩;refine wc hS (HL.exp k _ hI) ?_;rintro e s5 hI d5 hS p5 q5 ⟨a5, b5, ke⟩;have kq := kq.up ⟨d5, hI.good⟩;have kt := kt.up ⟨d5, hI.good⟩;refine we hS (aF (Kd 56) _ 56 _ _ hI (lt3 kq ke kt) (by simp [cT, aJ, iR, oH, seqB, kq.d, ke.g, kt.g]) rfl) ?_;rintro iz sz hI dz hS pz qz ⟨a9, b9, k9, -⟩;exact ⟨hS, by omega, by omega, k9⟩
   simp only [ξh, ↓reduceIte];refine wc hS (bA _ hI) ?_;rintro u s4 hI d4 hS p4 q4 ⟨a4, b4, -⟩;have kq := kq.up ⟨d4, hI.good⟩;refine wc hS (HL.exp k _ hI) ?_;rintro e s5 hI d5 hS p5 q5 ⟨a5, b5, ke⟩;have kq := kq.up ⟨d5, hI.good⟩;refine we hS (aF (Kd 56) _ 56 _ _ hI (lt2 kq ke) (by simp [cT, aJ, iR, oH, kq.d, ke.g]) rfl) ?_;rintro iz sz hI dz hS pz qz ⟨a9, b9, k9, -⟩;exact ⟨hS, by omega, by omega, k9⟩
theorem Kc (HL : fQ ts o L) : Ph ts o k (Kd 55) (EZ ts L) := by
 intro st hI;have hS := Stp.refl st;unfold EZ;refine aP (g := ak ts) ?_;refine wc hS (cZ (C8 HL) _ hI) ?_;rintro l s1 hI d1 hS p1 q1 ⟨a1, b1, kl, hl, c1⟩;refine we hS (aF (Kd 55) _ 55 _ _ hI kl.lt (dY (by simp) kl hl) rfl) ?_;rintro iz sz hI dz hS pz qz ⟨a9, b9, k9, -⟩;exact ⟨hS, by omega, by omega, k9⟩
theorem uK {own : Names} : ∀ sc : List Names, (cG own sc).length = sc.length
 | [] => rfl
 | _ :: _ => rfl
theorem uJ {own : Names} {sc : List Names} (h : sc ≠ []) : zf (cG own sc) = zf sc + own.length := by
 cases sc with
 | nil => exact absurd rfl h
 | cons a r => simp [cG, zf]; omega
theorem Hu (sc : List Names) : (sc.headD []).length ≤ zf sc := by
 cases sc with
 | nil => simp
 | cons a r => simp [zf]
theorem AR {own : Names} (hI : Inv ts o k st) (ho : zf st.sc + own.length ≤ 20 + st.nodes.length) {β : Type} {f : Unit → M β} {Q : β → PS → Prop} (hf : wpM (f ()) Q { st with sc := cG own st.sc }) : wpM (kQ own >>= f) Q st := by
 refine wb (P := fun _ s => s = { st with sc := cG own st.sc }) ?_ fun _ s e => by subst e; exact hf
 have h1 := Hu st.sc;have h2 := hI.many;unfold wpM kQ;rw [ψi (by omega)]
theorem La (hI : Inv ts o k st) : st.sc ≠ [] := by
 have := hI.sc;intro e;rw [e] at this;simp at this
theorem EO (HL : fQ ts o L) (sp : Int × Int) : Ph ts o k (Gk 3) (localM ts L sp) := by
 intro st hI;have hS := Stp.refl st;unfold localM;refine wb (lM (V := fun x s => st.pos < s.pos ∧ KN s.nodes (Kd 50) x.1 ∧ KN s.nodes (Kd 50) x.2.1 ∧ zf s.sc.tail + x.2.2.length ≤ 18 + s.nodes.length) hI ?_) fun x s1 h1 => ?_
 · have hI := hI.push;have hS := Stp.refl { st with sc := [] :: st.sc };refine wc hS (HL.decs _ _ hI) ?_;rintro a s1 hI d1 hS p1 q1 ⟨b1, ka⟩;refine wc hS (bA _ hI) ?_;rintro u s2 hI d2 hS p2 q2 ⟨a2, b2, -⟩;have ka := ka.up ⟨d2, hI.good⟩;refine wb (lM (V := fun y s => KN s.nodes (Kd 50) y.1 ∧ y.2 = s.sc.headD []) hI ?_) fun y s3 h3 => ?_
   · have hI := hI.push;have hS := Stp.refl { s2 with sc := [] :: s2.sc };refine wc hS (HL.decs _ _ hI) ?_;rintro b s3 hI d3 hS p3 q3 ⟨b3, kb⟩;refine aP (g := fun s => s.sc.headD []) ?_;exact aR ⟨⟨hI, hS⟩, kb, rfl⟩
   · obtain ⟨⟨hI, d3⟩, s0, ⟨ky, ey⟩, hI0, e1, e2, e3⟩ := h3;have hS := hS.trans d3;have p3 := d3.pos;have q3 := d3.len;have ka := ka.up ⟨d3, hI.good⟩;rw [← e2] at ky;have ht := hI0.tot;have hsl := hI0.sc;refine wc hS (bA _ hI) ?_;rintro u s4 hI d4 hS p4 q4 ⟨a4, b4, c4⟩;have ka := ka.up ⟨d4, hI.good⟩;have ky := ky.up ⟨d4, hI.good⟩;have p1 : st.pos ≤ s1.pos := p1;refine aR ⟨⟨hI, hS⟩, by omega, ka, ky, ?_⟩;rw [c4, e3, ey];have hn4 : s4.nodes.length = s0.nodes.length := by rw [b4, e2]
     rw [hn4];cases h5 : s0.sc with
     | nil => rw [h5] at hsl; simp at hsl
     | cons z r =>
      rw [h5] at ht;simp only [zf, List.map_cons, List.sum_cons] at ht;have h6 := xu r;simp only [zf] at h6;simp only [List.tail_cons, List.headD_cons, zf];omega
 · obtain ⟨⟨hI, d1⟩, s0, ⟨hp, ka, kb, ht⟩, hI0, e1, e2, e3⟩ := h1;have hS := hS.trans d1;have p1 := d1.pos;have q1 := d1.len;rw [← e2] at ka kb ht;rw [← e3] at ht;refine AR hI (by omega) ?_;have hne := La hI;refine bB (vQ (Gk 3) _ 66 _ [x.1, x.2.1] hI (cG x.2.2 s1.sc) (by rw [uK]; exact hI.sc) (by rw [uJ hne]; omega) (lt2 ka kb) (by simp [cT, aJ, iR, lH, seqB, ka.d, kb.d]) rfl) fun i s h => ?_;obtain ⟨⟨hI, d9⟩, a9, b9, k9, -⟩ := h;have p9 := d9.pos;have q9 := d9.len;exact ⟨⟨hI, hS.trans d9⟩, by omega, by omega, k9⟩
theorem qD {sp : Int × Int} {text : Bytes} {fx : Fx} : ∀ (f : Nat) (l : List Nat) (st : PS), Inv ts o k st → KL st.nodes (Kd 31) l → ts.length < f + st.pos → l.length ≤ st.nodes.length →
 wpM (uU ts sp text fx f l) (fun i s => St1 ts o k st s ∧ st.pos < s.pos ∧ st.nodes.length < s.nodes.length ∧ KN s.nodes (Gk 3) i) st
 | 0, l, st, hI, kl, hf, hl => by have := hI.pos; omega
 | f + 1, l, st, hI, kl, hf, hl => by
  have hS := Stp.refl st;unfold uU;refine aP (g := ak ts) ?_;refine wc hS (dJ hI) ?_;rintro n s1 hI d1 hS p1 q1 ⟨a1, b1, -⟩;have kl := kl.up ⟨d1, hI.good⟩;have ht := hI.tot;refine AR hI (by simp; omega) ?_;have hne := La hI;refine wb (vQ (Kd 31) _ 31 _ [] hI (cG [(n, fx)] s1.sc) (by rw [uK]; exact hI.sc) (by rw [uJ hne]; simp; omega) lt0 (by simp [cT, aJ]) rfl) fun i s2 h2 => ?_;obtain ⟨⟨hI, d2⟩, a2, b2, ki, -⟩ := h2;have hS := hS.trans d2;have kl := kl.up ⟨d2, hI.good⟩;have p2 := d2.pos;have q2 := d2.len;have hm := hI.many;have q0 : s1.nodes.length = st.nodes.length := by rw [b1]
  refine wc hS (dH hI (by omega)) ?_;rintro u s3 hI d3 hS p3 q3 e3;subst e3;have kl := KL.app kl (KL.one ki);refine aP (g := aB ts 0) ?_;split
  · refine we hS (aF (Gk 3) _ 68 _ _ hI kl.lt (dY (by simp) kl (by simp)) rfl) ?_;rintro iz sz hI dz hS pz qz ⟨a9, b9, k9, -⟩;exact ⟨hS, by omega, by omega, k9⟩
  · refine bB (qD f (l ++ [i]) _ hI kl (by omega) (by simp; omega)) fun i s h => ?_;have h1 := h.2.1;have h2 := h.2.2.1;exact ⟨⟨h.1.1, hS.trans h.1.2⟩, by omega, by omega, h.2.2.2⟩
theorem wN (sp : Int × Int) (word : Bytes) : Ph ts o k (Gk 3) (eu ts sp word) := by
 intro st hI;have hS := Stp.refl st;unfold eu;split
 · refine aP (g := aB ts 0) ?_;split
   · rename_i hc;have hlt := kZ (ts := ts) (st := st) (j := 0) (by
      simp only [ξg, ξZ] at hc;rw [hc.1]; decide)
     refine wc hS (bV 1 hI (by omega)) ?_;rintro u s1 hI d1 hS p1 q1 ⟨a1, b1, -⟩;refine we hS (qD (ts.length + 1) [] _ hI KL.nil (by omega) (by simp)) ?_;rintro iz sz hI dz hS pz qz ⟨a9, b9, k9⟩;exact ⟨hS, by omega, by omega, k9⟩
   · exact qD (ts.length + 1) [] _ hI KL.nil (by omega) (by simp)
 · exact qD (ts.length + 1) [] _ hI KL.nil (by omega) (by simp)
theorem uz : ∀ (f : Nat) (l : List Nat) (st : PS), Inv ts o k st → KL st.nodes (Kd 81) l → ts.length < f + st.pos → l.length ≤ st.nodes.length →
 wpM (jF ts f l) (fun l' s => St1 ts o k st s ∧ KL s.nodes (Kd 81) l' ∧ l.length ≤ l'.length ∧ l'.length ≤ s.nodes.length) st
 | 0, l, st, hI, kl, hf, hl => by have := hI.pos; omega
 | f + 1, l, st, hI, kl, hf, hl => by
  have hS := Stp.refl st;unfold jF;refine aP (g := aB ts 0) ?_;split
  · refine wc hS (jH (.inr (.inr (.inr rfl))) _ hI) ?_;rintro i s2 hI d2 hS p2 q2 ⟨a2, b2, ki⟩;have kl := kl.up ⟨d2, hI.good⟩;have hm := hI.many;refine wc hS (dH hI (by omega)) ?_;rintro u s3 hI d3 hS p3 q3 e3;subst e3;refine bB (uz f (l ++ [i]) _ hI (KL.app kl (KL.one ki.w)) (by omega) (by simp; omega)) fun i s h => ?_;exact ⟨⟨h.1.1, hS.trans h.1.2⟩, h.2.1, by have := h.2.2.1; simp at this; omega, h.2.2.2⟩
  · exact aR ⟨⟨hI, hS⟩, kl, ξF _, hl⟩
theorem rO (HL : fQ ts o L) (sign : Bytes) : Ph ts o k (Kd 72) (fO ts L sign) := by
 intro st hI;have hS := Stp.refl st;unfold fO;refine aP (g := ak ts) ?_;refine wc hS (dJ hI) ?_;rintro n s1 hI d1 hS p1 q1 ⟨a1, b1, -⟩;refine wc hS (bA _ hI) ?_;rintro u s2 hI d2 hS p2 q2 ⟨a2, b2, -⟩;refine wc hS (HL.sig k _ hI) ?_;rintro g s3 hI d3 hS p3 q3 ⟨a3, b3, kg⟩;refine we hS (aF (Kd 72) _ 72 _ _ hI (lt1 kg) (by simp [cT, aJ, iR, lH, seqB, kg.g]) rfl) ?_;rintro iz sz hI dz hS pz qz ⟨a9, b9, k9, -⟩;exact ⟨hS, by omega, by omega, k9⟩
theorem Bq {l : List Nd} {kd : Int} {a b : Nat} {t : Bytes} {x y : Int} (hk : kd = 83 ∨ kd = 84) (ka : KN l (Gk 4) a) (kb : KN l (Gk 5) b) : cT l ⟨kd, t, [], [a, b].map Int.ofNat, x, y⟩ = true := by
 rcases hk with rfl | rfl <;> simp [cT, aJ, mK, seqB, ka.g, kb.g]
theorem BD (HL : fQ ts o L) : Ph ts o k (Gk 4) (sW ts L) := by
 intro st hI;have hS := Stp.refl st;unfold sW;refine wb (P := fun kd s => St1 ts o k st s ∧ (kd = 0 ∨ kd = 83 ∨ kd = 84)) ?_ fun kd s1 h1 => ?_
 · refine wc hS (aN _ hI) ?_;rintro b s1 hI d1 hS p1 q1 ⟨a1, b1, -⟩;cases b;rotate_left
   · simp only [↓reduceIte];have a1 := a1 rfl;exact aR ⟨⟨hI, hS⟩, .inr (.inl rfl)⟩
   simp only [ξh, ↓reduceIte];refine wc hS (aN _ hI) ?_;rintro b s2 hI d2 hS p2 q2 ⟨a2, b2, -⟩;cases b;rotate_left
   · simp only [↓reduceIte];have a2 := a2 rfl;exact aR ⟨⟨hI, hS⟩, .inr (.inr rfl)⟩
   simp only [ξh, ↓reduceIte];exact aR ⟨⟨hI, hS⟩, .inl rfl⟩
 · obtain ⟨⟨hI, d1⟩, hk⟩ := h1;have hS := hS.trans d1;have p1 := d1.pos;have q1 := d1.len;rcases hk with rfl | hk
   · simp only [bne_self_eq_false, ξh, ↓reduceIte];refine pb ?_;refine wc hS (bA _ hI) ?_;rintro u s2 hI d2 hS p2 q2 ⟨a2, b2, -⟩;refine wc hS (HL.str k _ hI) ?_;rintro i s3 hI d3 hS p3 q3 ⟨a3, b3, ki⟩;exact aR ⟨⟨hI, hS⟩, by omega, by omega, ki⟩
   · have hne : (kd != 0) = true := by rcases hk with rfl | rfl <;> rfl
     have hmem : bw 4 kd = true := by rcases hk with rfl | rfl <;> rfl
     simp only [hne, ↓reduceIte];refine wc hS (HL.sig k _ hI) ?_;rintro g s2 hI d2 hS p2 q2 ⟨a2, b2, kg⟩;refine wc hS (bA _ hI) ?_;rintro u s3 hI d3 hS p3 q3 ⟨a3, b3, -⟩;have kg := kg.up ⟨d3, hI.good⟩;refine wc hS (HL.str k _ hI) ?_;rintro i s4 hI d4 hS p4 q4 ⟨a4, b4, ki⟩;have kg := kg.up ⟨d4, hI.good⟩;refine wc hS (jh hI ki) ?_;rintro sp s5 hI d5 hS p5 q5 e5;subst e5;refine we hS (aF (Gk 4) _ kd _ _ hI (lt2 ki kg) (Bq hk ki kg) hmem) ?_;rintro iz sz hI dz hS pz qz ⟨a9, b9, k9, -⟩;exact ⟨hS, by omega, by omega, k9⟩
theorem zu (HL : fQ ts o L) : Ph ts o k (Kd 70) (fZ ts L) := by
 intro st hI;have hS := Stp.refl st;unfold fZ;refine aP (g := ak ts) ?_;refine wc hS (dJ hI) ?_;rintro n s1 hI d1 hS p1 q1 ⟨a1, b1, -⟩;refine wc hS (BD HL _ hI) ?_;rintro g s3 hI d3 hS p3 q3 ⟨a3, b3, kg⟩;refine we hS (aF (Kd 70) _ 70 _ _ hI (lt1 kg) (by simp [cT, aJ, iR, lH, seqB, kg.g]) rfl) ?_;rintro iz sz hI dz hS pz qz ⟨a9, b9, k9, -⟩;exact ⟨hS, by omega, by omega, k9⟩
theorem zT (HL : fQ ts o L) : Ph ts o k (Kd 74) (gA ts L) := by
 intro st hI;have hS := Stp.refl st;unfold gA;refine aP (g := ak ts) ?_;refine wc hS (dJ hI) ?_;rintro n s1 hI d1 hS p1 q1 ⟨a1, b1, -⟩;refine wc hS (bA _ hI) ?_;rintro u s2 hI d2 hS p2 q2 ⟨a2, b2, -⟩;refine wc hS (rO HL _ _ hI) ?_;rintro x s3 hI d3 hS p3 q3 ⟨a3, b3, kx⟩;refine wc hS (bA _ hI) ?_;rintro u s4 hI d4 hS p4 q4 ⟨a4, b4, -⟩;have kx := kx.up ⟨d4, hI.good⟩;refine wc hS (BD HL _ hI) ?_;rintro g s5 hI d5 hS p5 q5 ⟨a5, b5, kg⟩;have kx := kx.up ⟨d5, hI.good⟩;refine we hS (aF (Kd 74) _ 74 _ _ hI (lt2 kx kg) (by simp [cT, aJ, iR, lH, seqB, kx.d, kg.g]) rfl) ?_;rintro iz sz hI dz hS pz qz ⟨a9, b9, k9, -⟩;exact ⟨hS, by omega, by omega, k9⟩
theorem Ko {l : List Nd} {ks : List Nat} {t : Bytes} {x y : Int} (h : KL l Kex ks) (hn : 1 ≤ ks.length) : cT l ⟨64, t, [], ks.map Int.ofNat, x, y⟩ = true := by
 have h1 := h.ex;have h2 := iI (m := 1) h1.2 (by simp; omega);simp [cT, aJ, iR, lH, h1.1, h2]
theorem KD (HL : fQ ts o L) (hI : Inv ts o k st) (hb : eB (aB ts 0 st) = true) : wpM (Fq ts L) (fun i s => St1 ts o k st s ∧ st.pos < s.pos ∧ st.nodes.length < s.nodes.length ∧ KN s.nodes (Gk 3) i) st := by
 have hS := Stp.refl st;have hlt := kZ (ts := ts) (st := st) (j := 0) (by
  unfold eB at hb;simp only [ξg, ξZ] at hb;rw [hb.1]; decide)
 clear hb;unfold Fq;refine aP (g := ak ts) (aP (g := aB ts 0) ?_);refine wc hS (bV 1 hI (by omega)) ?_;rintro u s1 hI d1 hS p1 q1 ⟨a1, b1, -⟩;split
 · refine wc hS (aN _ hI) ?_;rintro b s2 hI d2 hS p2 q2 ⟨a2, b2, -⟩;cases b;rotate_left
   · simp only [↓reduceIte];have a2 := a2 rfl;refine wc hS (cZ (BI HL) _ hI) ?_;rintro l s3 hI d3 hS p3 q3 ⟨a3, b3, kl, hl, c3⟩;refine we hS (aF (Gk 3) _ 52 _ _ hI kl.lt (dY (by simp) kl hl) rfl) ?_;rintro iz sz hI dz hS pz qz ⟨a9, b9, k9, -⟩;exact ⟨hS, by omega, by omega, k9⟩
   simp only [ξh, ↓reduceIte];refine wc hS (cZ (BI HL) _ hI) ?_;rintro l s3 hI d3 hS p3 q3 ⟨a3, b3, kl, hl, c3⟩;refine we hS (aF (Gk 3) _ 51 _ _ hI kl.lt (dY (by simp) kl hl) rfl) ?_;rintro iz sz hI dz hS pz qz ⟨a9, b9, k9, -⟩;exact ⟨hS, by omega, by omega, k9⟩
 split
 · refine wc hS (cZ (Kc HL) _ hI) ?_;rintro l s3 hI d3 hS p3 q3 ⟨a3, b3, kl, hl, c3⟩;refine we hS (aF (Gk 3) _ 54 _ _ hI kl.lt (dY (by simp) kl hl) rfl) ?_;rintro iz sz hI dz hS pz qz ⟨a9, b9, k9, -⟩;exact ⟨hS, by omega, by omega, k9⟩
 split
 · refine wc hS (cZ (tQ HL) _ hI) ?_;rintro l s3 hI d3 hS p3 q3 ⟨a3, b3, kl, hl, c3⟩;refine we hS (aF (Gk 3) _ 58 _ _ hI kl.lt (dY (by simp) kl hl) rfl) ?_;rintro iz sz hI dz hS pz qz ⟨a9, b9, k9, -⟩;exact ⟨hS, by omega, by omega, k9⟩
 split
 · refine we hS (yR HL _ _ hI) ?_;rintro iz sz hI dz hS pz qz ⟨a9, b9, k9⟩;exact ⟨hS, by omega, by omega, k9⟩
 split
 · refine wc hS (cZ (CR HL) _ hI) ?_;rintro l s3 hI d3 hS p3 q3 ⟨a3, b3, kl, hl, c3⟩;refine we hS (aF (Gk 3) _ 64 _ _ hI kl.lt (Ko kl hl) rfl) ?_;rintro iz sz hI dz hS pz qz ⟨a9, b9, k9, -⟩;exact ⟨hS, by omega, by omega, k9⟩
 split
 · refine we hS (EO HL _ _ hI) ?_;rintro iz sz hI dz hS pz qz ⟨a9, b9, k9⟩;exact ⟨hS, by omega, by omega, k9⟩
 split
 · refine wc hS (jH (.inr (.inr (.inr rfl))) _ hI) ?_;rintro i s2 hI d2 hS p2 q2 ⟨a2, b2, ki⟩;refine wc hS (uz (ts.length + 1) [i] _ hI (KL.one ki.w) (by omega) (by simp; omega)) ?_;rintro l s3 hI d3 hS p3 q3 ⟨kl, hl, nl⟩;simp only [ξ2, ξ5] at hl;refine we hS (aF (Gk 3) _ 67 _ _ hI kl.lt (dY (by simp) kl (by omega)) rfl) ?_;rintro iz sz hI dz hS pz qz ⟨a9, b9, k9, -⟩;exact ⟨hS, by omega, by omega, k9⟩
 split
 · refine wc hS (cZ (zu HL) _ hI) ?_;rintro l s3 hI d3 hS p3 q3 ⟨a3, b3, kl, hl, c3⟩;refine we hS (aF (Gk 3) _ 69 _ _ hI kl.lt (dY (by simp) kl hl) rfl) ?_;rintro iz sz hI dz hS pz qz ⟨a9, b9, k9, -⟩;exact ⟨hS, by omega, by omega, k9⟩
 split
 · refine wc hS (cZ (rO HL _) _ hI) ?_;rintro l s3 hI d3 hS p3 q3 ⟨a3, b3, kl, hl, c3⟩;refine we hS (aF (Gk 3) _ 71 _ _ hI kl.lt (dY (by simp) kl hl) rfl) ?_;rintro iz sz hI dz hS pz qz ⟨a9, b9, k9, -⟩;exact ⟨hS, by omega, by omega, k9⟩
 split
 · refine wc hS (cZ (zT HL) _ hI) ?_;rintro l s3 hI d3 hS p3 q3 ⟨a3, b3, kl, hl, c3⟩;refine we hS (aF (Gk 3) _ 73 _ _ hI kl.lt (dY (by simp) kl hl) rfl) ?_;rintro iz sz hI dz hS pz qz ⟨a9, b9, k9, -⟩;exact ⟨hS, by omega, by omega, k9⟩
 refine we hS (wN _ _ _ hI) ?_;rintro iz sz hI dz hS pz qz ⟨a9, b9, k9⟩;exact ⟨hS, by omega, by omega, k9⟩
theorem sI (HL : o + 1 ≤ 1000 → fQ ts (o + 1) L) (sp : Int × Int) : ∀ (f : Nat) (l : List Nat) (st : PS), Inv ts o k st → KL st.nodes (Gk 3) l → ts.length < f + st.pos → l.length ≤ st.nodes.length →
 wpM (kW ts L sp f l) (fun i s => St1 ts o k st s ∧ st.nodes.length < s.nodes.length ∧ KN s.nodes (Kd 50) i) st
 | 0, l, st, hI, kl, hf, hl => by have := hI.pos; omega
 | f + 1, l, st, hI, kl, hf, hl => by
  have hS := Stp.refl st;unfold kW;refine wc hS (aN _ hI) ?_;rintro b s1 hI d1 hS p1 q1 ⟨a1, b1, -⟩;have kl := kl.up ⟨d1, hI.good⟩;cases b;rotate_left
  · simp only [↓reduceIte];have a1 := a1 rfl;refine bB (sI HL sp f l _ hI kl (by omega) (by omega)) fun i s h => ?_;have h2 := h.2.1;exact ⟨⟨h.1.1, hS.trans h.1.2⟩, by omega, h.2.2⟩
  simp only [ξh, ↓reduceIte];refine aP (g := aB ts 0) ?_;split
  · rename_i hb;refine wb (ju hI) fun u s2 h2 => ?_;obtain ⟨⟨hI, d2⟩, ho, e1, e2, -⟩ := h2;have HL1 := HL ho;have hS := hS.trans d2;have kl := kl.up ⟨d2, hI.good⟩;have q2 := d2.len;have p2 := d2.pos;have hb : eB (aB ts 0 s2) = true := by
     rw [show aB ts 0 s2 = aB ts 0 s1 from by unfold aB; rw [e1]]; exact hb
    refine wc hS (KD HL1 hI hb) ?_;rintro i s3 hI d3 hS p3 q3 ⟨a3, b3, ki⟩;have kl := kl.up ⟨d3, hI.good⟩;have hm := hI.many;refine wc hS (dH hI (by omega)) ?_;rintro u s4 hI d4 hS p4 q4 e4;subst e4;refine wc hS (jl hI) ?_;rintro u s5 hI d5 hS p5 q5 ⟨a5, b5, -⟩;have kl := kl.up ⟨d5, hI.good⟩;have ki := ki.up ⟨d5, hI.good⟩;refine bB (sI HL sp f (l ++ [i]) _ hI (KL.app kl (KL.one ki)) (by omega) (by simp; omega)) fun i s h => ?_;have h2 := h.2.1;exact ⟨⟨h.1.1, hS.trans h.1.2⟩, by omega, h.2.2⟩
  · refine we hS (aF (Kd 50) _ 50 _ _ hI kl.lt (lN (by simp) kl (ξM _)) rfl) ?_;rintro iz sz hI dz hS pz qz ⟨a9, b9, k9, -⟩;exact ⟨hS, by omega, k9⟩
theorem Bt (HL : o + 1 ≤ 1000 → fQ ts (o + 1) L) : Ph0 ts o k (Kd 50) (mO ts L) := by
 intro st hI;unfold mO;refine aP (g := ak ts) ?_;exact sI HL _ (ts.length + 1) [] st hI KL.nil (by omega) (by simp)
theorem tZ (HL : fQ ts o L) : Ph0 ts o k (Kd 50) (iD L) := by
 intro st hI;unfold iD;refine bB (lM (V := fun i s => st.nodes.length < s.nodes.length ∧ KN s.nodes (Kd 50) i) hI ?_) fun i s h => ?_
 · exact HL.decs _ _ hI.push
 · obtain ⟨h1, s0, ⟨h2, h3⟩, hI0, e1, e2, e3⟩ := h;rw [← e2] at h2 h3;exact ⟨h1, h2, h3⟩
theorem FH (HL : fQ ts o L) : Ph ts o k (Gk 4) (lS ts L) := by
 intro st hI;have hS := Stp.refl st;unfold lS;refine aP (g := ak ts) (aP (g := aB ts 0) ?_);refine wc hS (aN _ hI) ?_;rintro b s1 hI d1 hS p1 q1 ⟨a1, b1, -⟩;cases b;rotate_left
 · simp only [↓reduceIte];have a1 := a1 rfl;refine wc hS (tZ HL _ hI) ?_;rintro d s2 hI d2 hS p2 q2 ⟨b2, kd⟩;refine wc hS (bA _ hI) ?_;rintro u s3 hI d3 hS p3 q3 ⟨a3, b3, -⟩;have kd := kd.up ⟨d3, hI.good⟩;refine we hS (aF (Gk 4) _ 80 _ _ hI (lt1 kd) (by simp [cT, aJ, mK, seqB, kd.d]) rfl) ?_;rintro iz sz hI dz hS pz qz ⟨a9, b9, k9, -⟩;exact ⟨hS, by omega, by omega, k9⟩
 simp only [ξh, ↓reduceIte];refine wc hS (aN _ hI) ?_;rintro b s2 hI d2 hS p2 q2 ⟨a2, b2, -⟩;cases b;rotate_left
 · simp only [↓reduceIte];have a2 := a2 rfl;refine wb (lM (V := fun x s => s2.nodes.length < s.nodes.length ∧ KN s.nodes (Kd 50) x.1 ∧ KN s.nodes (Gk 4) x.2) hI ?_) fun x s3 h3 => ?_
   · have hI := hI.push;have hS := Stp.refl { s2 with sc := [] :: s2.sc };refine wc hS (HL.decs _ _ hI) ?_;rintro d s3 hI d3 hS p3 q3 ⟨b3, kd⟩;refine wc hS (bA _ hI) ?_;rintro u s4 hI d4 hS p4 q4 ⟨a4, b4, -⟩;have kd := kd.up ⟨d4, hI.good⟩;refine wc hS (HL.str _ _ hI) ?_;rintro i s5 hI d5 hS p5 q5 ⟨a5, b5, ki⟩;have kd := kd.up ⟨d5, hI.good⟩;refine wc hS (bA _ hI) ?_;rintro u s6 hI d6 hS p6 q6 ⟨a6, b6, -⟩;have kd := kd.up ⟨d6, hI.good⟩;have ki := ki.up ⟨d6, hI.good⟩;have b3 : s2.nodes.length < s3.nodes.length := b3;exact aR ⟨⟨hI, hS⟩, by omega, kd, ki⟩
   · obtain ⟨⟨hI, d3⟩, s0, ⟨h2, kd, ki⟩, hI0, e1, e2, e3⟩ := h3;rw [← e2] at h2 kd ki;have hS := hS.trans d3;have p3 := d3.pos;refine we hS (aF (Gk 4) _ 85 _ _ hI (lt2 kd ki) (by simp [cT, aJ, mK, seqB, kd.d, ki.g]) rfl) ?_;rintro iz sz hI dz hS pz qz ⟨a9, b9, k9, -⟩;exact ⟨hS, by omega, by omega, k9⟩
 simp only [ξh, ↓reduceIte];refine aP (g := isP ts 1 [40]) ?_;split
 · rename_i hc;simp only [ξg] at hc;have hlt := gu hc.2;refine wc hS (bV 2 hI (by omega)) ?_;rintro u s3 hI d3 hS p3 q3 ⟨a3, b3, -⟩;refine aP (g := aB ts 0) (aP (g := isP ts 0 [41]) (aP (g := isP ts 0 [59]) ?_));refine wb (P := fun i s => St1 ts o k s3 s ∧ KN s.nodes (Gk 4) i ∧ s3.nodes.length < s.nodes.length) ?_ fun i s4 h4 => ?_
   · have hS := Stp.refl s3;split
     · refine aP (g := ak ts) ?_;refine wc hS (tZ HL _ hI) ?_;rintro d s4 hI d4 hS p4 q4 ⟨b4, kd⟩;refine we hS (aF (Gk 4) _ 80 _ _ hI (lt1 kd) (by simp [cT, aJ, mK, seqB, kd.d]) rfl) ?_;rintro iz sz hI dz hS pz qz ⟨a9, b9, k9, -⟩;exact ⟨hS, k9, by omega⟩
     · exact bB (HL.str k _ hI) fun i s h => ⟨h.1, h.2.2.2, h.2.2.1⟩
   · obtain ⟨⟨hI, d4⟩, ki, hn4⟩ := h4;have hS := hS.trans d4;have p4 := d4.pos;refine wc hS (bA _ hI) ?_;rintro u s5 hI d5 hS p5 q5 ⟨a5, b5, -⟩;have ki := ki.up ⟨d5, hI.good⟩;refine we hS (aF (Gk 4) _ 82 _ _ hI (lt1 ki) (by simp [cT, aJ, mK, seqB, ki.g]) rfl) ?_;rintro iz sz hI dz hS pz qz ⟨a9, b9, k9, -⟩;exact ⟨hS, by omega, by omega, k9⟩
 · refine bB (jH (.inr (.inr (.inr rfl))) _ hI) fun i s h => ?_;obtain ⟨h1, h2, h3, h4⟩ := h;exact ⟨⟨h1.1, hS.trans h1.2⟩, by omega, by omega, KZ h4 rfl⟩
theorem Av (HL : fQ ts (o + 1) L) (ho : o ≤ 1000) : ∀ (f i : Nat) (st : PS), Inv ts (o + 1) k st → KN st.nodes (Gk 4) i → ts.length < f + st.pos → wpM (Ga ts L f i) (fun i s => St1 ts o k st s ∧ KN s.nodes (Gk 4) i) st
 | 0, e, st, hI, ke, hf => by have := hI.pos; omega
 | f + 1, e, st, hI, ke, hf => by
  have hS := Stp.refl st;unfold Ga;refine aP (g := isP ts 0 [58, 62]) (aP (g := isP ts 0 [58]) ?_);split
  · rename_i hc;have hlt : st.pos + 0 < ts.length := by
     simp only [ξj] at hc;rcases hc with hc | hc
     · exact gu hc
     · exact gu hc
    refine wc hS (bV 1 hI (by omega)) ?_;rintro u s1 hI d1 hS p1 q1 ⟨a1, b1, -⟩;have ke := ke.up ⟨d1, hI.good⟩;refine wc hS (jh hI ke) ?_;rintro sp s2 hI d2 hS p2 q2 e2;subst e2;refine wc hS (HL.sig k _ hI) ?_;rintro g s3 hI d3 hS p3 q3 ⟨a3, b3, kg⟩;have ke := ke.up ⟨d3, hI.good⟩;have hk : (if isP ts 0 [58, 62] st = true then (84 : Int) else 83) = 83 ∨ (if isP ts 0 [58, 62] st = true then (84 : Int) else 83) = 84 := by
     split
     · exact .inr rfl
     · exact .inl rfl
    have hmem : bw 4 (if isP ts 0 [58, 62] st = true then (84 : Int) else 83) = true := by rcases hk with h | h <;> rw [h] <;> rfl
    refine wc hS (aF (Gk 4) _ _ _ _ hI (lt2 ke kg) (Bq hk ke kg) hmem) ?_;rintro i s4 hI d4 hS p4 q4 ⟨a4, b4, ki, -⟩;refine bB (Av HL ho f i _ hI ki (by omega)) fun i s h => ?_;exact ⟨⟨h.1.1, hS.trans h.1.2⟩, h.2⟩
  · refine wc hS (jl hI) ?_;rintro u s1 hI d1 hS p1 q1 ⟨a1, b1, -⟩;have ke := ke.up ⟨d1, hI.good⟩;exact aR ⟨⟨hI, hS⟩, ke⟩
theorem Jb (HL : o + 1 ≤ 1000 → fQ ts (o + 1) L) : Ph ts o k (Gk 4) (F9 ts L) := by
 intro st hI;unfold F9;refine wb (ju hI) fun u s1 h1 => ?_;obtain ⟨⟨hI, d1⟩, ho, e1, e2, -⟩ := h1;have HL := HL ho;have hS := d1;have hp : s1.nodes.length = st.nodes.length := by rw [e2]
 refine wc hS (FH HL _ hI) ?_;rintro e s2 hI d2 hS p2 q2 ⟨a2, b2, ke⟩;refine we hS (Av HL (by omega) (ts.length + 1) e _ hI ke (by omega)) ?_;rintro iz sz hI dz hS pz qz k9;exact ⟨hS, by omega, by omega, k9⟩
theorem KL.kw {l : List Nd} {is : List Nat} (h : KL l (Kd 40) is) : (is.map Int.ofNat).all (fun j => kindOf l j == 40) = true := by
 rw [List.all_eq_true];intro c hc;rw [h.d c hc]; rfl
theorem yJ {l : List Nd} {vs : List Nat} {t : Bytes} {x y : Int} (h : KL l (Kd 40) vs) : cT l ⟨62, t, [], vs.map Int.ofNat, x, y⟩ = true := by
 have e := iI (l := l) (g := 2) (m := 0) (ks := vs.map Int.ofNat) (fun c hc => by rw [h.d c hc]; rfl) (by simp);simp [cT, aJ, iR, lH, e]
theorem Bc {l : List Nd} {vs : List Nat} {t : Bytes} {x y : Int} (h : KL l (Kd 40) vs) (hl : vs.length ≤ 262144) : (Kw 62 0 1099511627776 (fun k => k == 40)).f l ⟨62, t, [], vs.map Int.ofNat, x, y⟩ = true := by
 have e := h.kw;simp only [Kw, ξg, beq_self_eq_true, ψc, ξ4, true_and];exact ⟨⟨ξM _, by omega⟩, e⟩
theorem oZ : Ph ts o k (Kw 62 0 1099511627776 (fun k => k == 40)) (dM ts) := by
 intro st hI;have hS := Stp.refl st;unfold dM;refine aP (g := ak ts) ?_;refine wc hS (jQ hI) ?_;rintro l s1 hI d1 hS p1 q1 ⟨kl, hl⟩;refine wc hS (dJ hI) ?_;rintro n s2 hI d2 hS p2 q2 ⟨a2, b2, -⟩;have kl := kl.up ⟨d2, hI.good⟩;have hm := hI.many;refine we hS (aF (Kw 62 0 1099511627776 (fun k => k == 40)) _ 62 _ _ hI kl.lt (yJ kl) (Bc kl (by omega))) ?_;rintro iz sz hI dz hS pz qz ⟨a9, b9, k9, -⟩;exact ⟨hS, by omega, by omega, k9⟩
theorem zl (HL : fQ ts o L) : Ph ts o k (Kw 62 1 1 (bw 2)) (fS ts L) := by
 intro st hI;have hS := Stp.refl st;unfold fS;refine aP (g := ak ts) ?_;refine wc hS (dJ hI) ?_;rintro n s1 hI d1 hS p1 q1 ⟨a1, b1, -⟩;refine wc hS (bA _ hI) ?_;rintro u s2 hI d2 hS p2 q2 ⟨a2, b2, -⟩;refine wc hS (HL.ty k _ hI) ?_;rintro t s3 hI d3 hS p3 q3 ⟨a3, b3, kt⟩;have hz := iI (m := 0) (KL.one kt).g (by simp);refine we hS (aF (Kw 62 1 1 (bw 2)) _ 62 _ [t] hI (lt1 kt) (by simp only [List.map_cons, List.map_nil] at hz ; simp [cT, aJ, iR, lH] ; simpa using hz) (by simp [Kw, kt.g])) ?_;rintro iz sz hI dz hS pz qz ⟨a9, b9, k9, -⟩;exact ⟨hS, by omega, by omega, k9⟩
theorem CP (HL : fQ ts o L) : Ph ts o k (Kw 62 0 1 (bw 2)) (jM ts L) := by
 intro st hI;have hS := Stp.refl st;unfold jM;refine aP (g := ak ts) ?_;refine wc hS (dJ hI) ?_;rintro n s2 hI d2 hS p2 q2 ⟨a2, b2, -⟩;refine we hS (sS HL _ _ hI) ?_;rintro iz sz hI dz hS pz qz ⟨b9, k9⟩;exact ⟨hS, by omega, by omega, k9⟩
theorem qE {l : List Nd} {kd : Int} {lo hi : Nat} {g : Int → Bool} {ks : List Nat} {t : Bytes} {x y : Int} (h : kd = 94 ∧ lo = 1 ∧ hi = 1 ∧ g = bw 2 ∨ kd = 99 ∧ lo = 0 ∧ hi = 1 ∧ g = bw 2 ∨ (kd = 95 ∨ kd = 96) ∧ lo = 0 ∧ hi = 1099511627776 ∧ g = (fun k => k == 40))
 (hk : KL l (Kw 62 lo hi g) ks) (hn : 1 ≤ ks.length) : cT l ⟨kd, t, [], ks.map Int.ofNat, x, y⟩ = true := by
 have h1 := hk.inn;have h2 := lZ (m := 1) hk.w.d (by simp; omega);rcases h with ⟨rfl, rfl, rfl, rfl⟩ | ⟨rfl, rfl, rfl, rfl⟩ | ⟨rfl | rfl, rfl, rfl, rfl⟩;all_goals
  unfold cT aJ mK;simp only [Int.reduceEq, or_self, or_true, true_or, or_false, false_or, ↓reduceIte, Int.reduceLT, h1, h2, Bool.and_self]
theorem DL (HL : fQ ts o L) (sp : Int × Int) : Ph ts o k (Gk 6) (mQ ts L sp) := by
 intro st hI;have hS := Stp.refl st;unfold mQ;refine aP (g := ak ts) ?_;refine wc hS (jQ hI) ?_;rintro l s1 hI d1 hS p1 q1 ⟨kl, hl⟩;refine wc hS (dJ hI) ?_;rintro n s2 hI d2 hS p2 q2 ⟨a2, b2, -⟩;have kl := kl.up ⟨d2, hI.good⟩;refine wc hS (aN _ hI) ?_;rintro b s3 hI d3 hS p3 q3 ⟨a3, b3, -⟩;have kl := kl.up ⟨d3, hI.good⟩;cases b;rotate_left
 · simp only [↓reduceIte];have a3 := a3 rfl;refine wc hS (HL.ty k _ hI) ?_;rintro t s4 hI d4 hS p4 q4 ⟨a4, b4, kt⟩;have kl := kl.up ⟨d4, hI.good⟩;have hm := hI.many;refine wc hS (dH hI (by omega)) ?_;rintro u s5 hI d5 hS p5 q5 e5;subst e5;refine wc hS (aF (Kd 59) _ 59 _ _ hI (kl.snoc_lt kt) (zW (.inl rfl) kl kt) rfl) ?_;rintro i s6 hI d6 hS p6 q6 ⟨a6, b6, ki, -⟩;refine wc hS (iO (tQ HL) (ts.length + 1) [i] _ hI (by omega) (by simp; omega)) ?_;rintro l2 s7 hI d7 hS p7 q7 ⟨m, e7, km, l7, -⟩;have ki := ki.up ⟨d7, hI.good⟩;subst e7;have kl := KL.cons ki km;refine we hS (aF (Gk 6) _ 97 _ _ hI kl.lt (dY (by simp) kl (by simp)) rfl) ?_;rintro iz sz hI dz hS pz qz ⟨a9, b9, k9, -⟩;exact ⟨hS, by omega, by omega, k9⟩
 simp only [ξh, ↓reduceIte];have hm := hI.many;refine wc hS (aF (Kw 62 0 1099511627776 (fun k => k == 40)) _ 62 _ _ hI kl.lt (yJ kl) (Bc kl (by omega))) ?_;rintro i s6 hI d6 hS p6 q6 ⟨a6, b6, ki, -⟩;refine wc hS (iO oZ (ts.length + 1) [i] _ hI (by omega) (by simp; omega)) ?_;rintro l2 s7 hI d7 hS p7 q7 ⟨m, e7, km, l7, -⟩;have ki := ki.up ⟨d7, hI.good⟩;subst e7;have kl := KL.cons ki km;refine we hS (aF (Gk 6) _ 95 _ _ hI kl.lt (qE (.inr (.inr ⟨.inl rfl, rfl, rfl, rfl⟩)) kl (by simp)) rfl) ?_;rintro iz sz hI dz hS pz qz ⟨a9, b9, k9, -⟩;exact ⟨hS, by omega, by omega, k9⟩
theorem Gz (HL : fQ ts o L) : Ph ts o k (Gk 6) (om ts L) := by
 intro st hI;have hS := Stp.refl st;unfold om;refine aP (g := ak ts) ?_;refine wc hS (aN _ hI) ?_;rintro b s1 hI d1 hS p1 q1 ⟨a1, b1, -⟩;cases b;rotate_left
 · simp only [↓reduceIte];have a1 := a1 rfl;refine wc hS (cZ (zl HL) _ hI) ?_;rintro l s2 hI d2 hS p2 q2 ⟨a2, b2, kl, hl, c2⟩;refine we hS (aF (Gk 6) _ 94 _ _ hI kl.lt (qE (.inl ⟨rfl, rfl, rfl, rfl⟩) kl hl) rfl) ?_;rintro iz sz hI dz hS pz qz ⟨a9, b9, k9, -⟩;exact ⟨hS, by omega, by omega, k9⟩
 simp only [ξh, ↓reduceIte];refine wc hS (aN _ hI) ?_;rintro b s2 hI d2 hS p2 q2 ⟨a2, b2, -⟩;cases b;rotate_left
 · simp only [↓reduceIte];have a2 := a2 rfl;refine we hS (DL HL _ _ hI) ?_;rintro iz sz hI dz hS pz qz ⟨a9, b9, k9⟩;exact ⟨hS, by omega, by omega, k9⟩
 simp only [ξh, ↓reduceIte];refine wc hS (aN _ hI) ?_;rintro b s3 hI d3 hS p3 q3 ⟨a3, b3, -⟩;cases b;rotate_left
 · simp only [↓reduceIte];have a3 := a3 rfl;refine wc hS (cZ oZ _ hI) ?_;rintro l s4 hI d4 hS p4 q4 ⟨a4, b4, kl, hl, c4⟩;refine we hS (aF (Gk 6) _ 96 _ _ hI kl.lt (qE (.inr (.inr ⟨.inr rfl, rfl, rfl, rfl⟩)) kl hl) rfl) ?_;rintro iz sz hI dz hS pz qz ⟨a9, b9, k9, -⟩;exact ⟨hS, by omega, by omega, k9⟩
 simp only [ξh, ↓reduceIte];refine wc hS (aN _ hI) ?_;rintro b s4 hI d4 hS p4 q4 ⟨a4, b4, -⟩;cases b;rotate_left
 · simp only [↓reduceIte];have a4 := a4 rfl;refine wc hS (cZ (sK HL) _ hI) ?_;rintro l s5 hI d5 hS p5 q5 ⟨a5, b5, kl, hl, c5⟩;refine we hS (aF (Gk 6) _ 98 _ _ hI kl.lt (dY (by simp) kl hl) rfl) ?_;rintro iz sz hI dz hS pz qz ⟨a9, b9, k9, -⟩;exact ⟨hS, by omega, by omega, k9⟩
 simp only [ξh, ↓reduceIte];refine wc hS (aN _ hI) ?_;rintro b s5 hI d5 hS p5 q5 ⟨a5, b5, -⟩;cases b;rotate_left
 · simp only [↓reduceIte];have a5 := a5 rfl;refine wc hS (cZ (CP HL) _ hI) ?_;rintro l s6 hI d6 hS p6 q6 ⟨a6, b6, kl, hl, c6⟩;refine we hS (aF (Gk 6) _ 99 _ _ hI kl.lt (qE (.inr (.inl ⟨rfl, rfl, rfl, rfl⟩)) kl hl) rfl) ?_;rintro iz sz hI dz hS pz qz ⟨a9, b9, k9, -⟩;exact ⟨hS, by omega, by omega, k9⟩
 simp only [ξh, ↓reduceIte];refine wc hS (aN _ hI) ?_;rintro b s6 hI d6 hS p6 q6 ⟨a6, b6, -⟩;cases b;rotate_left
 · simp only [↓reduceIte];have a6 := a6 rfl;refine wc hS (cZ (rO HL _) _ hI) ?_;rintro l s7 hI d7 hS p7 q7 ⟨a7, b7, kl, hl, c7⟩;refine we hS (aF (Gk 6) _ 100 _ _ hI kl.lt (dY (by simp) kl hl) rfl) ?_;rintro iz sz hI dz hS pz qz ⟨a9, b9, k9, -⟩;exact ⟨hS, by omega, by omega, k9⟩
 simp only [ξh, ↓reduceIte];exact fW
theorem DC (HL : fQ ts o L) (hI : Inv ts o k st) (hb : isP ts 0 [119, 104, 101, 114, 101] st = true) : wpM (jO ts L) (fun i s => St1 ts o k st s ∧ st.pos < s.pos ∧ st.nodes.length < s.nodes.length ∧ KN s.nodes (Kd 93) i) st := by
 have hS := Stp.refl st;have hlt := gu hb;unfold jO;refine wc hS (bV 1 hI (by omega)) ?_;rintro u s1 hI d1 hS p1 q1 ⟨a1, b1, -⟩;refine aP (g := ak ts) ?_;refine wc hS (bA _ hI) ?_;rintro u s2 hI d2 hS p2 q2 ⟨a2, b2, -⟩;refine wc hS (jQ hI) ?_;rintro l s3 hI d3 hS p3 q3 ⟨kl, hl⟩;refine aP (g := aB ts 0) ?_;split
 · exact fW
 · rename_i hc;have hlt3 := kZ (ts := ts) (st := s3) (j := 0) (by
    simp only [ψa, ne_eq, Decidable.not_not] at hc;rw [hc]; decide)
   refine wc hS (bV 1 hI (by omega)) ?_;rintro u s4 hI d4 hS p4 q4 ⟨a4, b4, -⟩;have kl := kl.up ⟨d4, hI.good⟩;refine wc hS (bA _ hI) ?_;rintro u s5 hI d5 hS p5 q5 ⟨a5, b5, -⟩;have kl := kl.up ⟨d5, hI.good⟩;refine wc hS (HL.ty k _ hI) ?_;rintro t s6 hI d6 hS p6 q6 ⟨a6, b6, kt⟩;have kl := kl.up ⟨d6, hI.good⟩;have hm := hI.many;have q0 : s3.nodes.length ≤ s6.nodes.length := by omega
   refine wc hS (dH hI (by omega)) ?_;rintro u s7 hI d7 hS p7 q7 e7;subst e7;refine we hS (vV (Kd 93) _ 93 _ _ _ hI (kl.snoc_lt kt) (zW (.inr rfl) kl kt) rfl (vG hI.tp)) ?_;rintro iz sz hI dz hS pz qz ⟨a9, b9, k9⟩;exact ⟨hS, by omega, by omega, k9⟩
theorem oh (HL : fQ ts o L) (HL2 : o + 1 ≤ 1000 → fQ ts (o + 1) L) : ∀ (f : Nat) (l : List Nat) (st : PS), Inv ts o k st → KL st.nodes (Gk 6) l → ts.length < f + st.pos → l.length ≤ st.nodes.length →
 wpM (fM ts L f l) (fun l' s => St1 ts o k st s ∧ KL s.nodes (Gk 6) l' ∧ l'.length ≤ s.nodes.length) st
 | 0, l, st, hI, kl, hf, hl => by have := hI.pos; omega
 | f + 1, l, st, hI, kl, hf, hl => by
  have hS := Stp.refl st;unfold fM;refine aP (g := isP ts 0 [101, 110, 100]) ?_;split
  · exact aR ⟨⟨hI, hS⟩, kl, hl⟩
  refine wc hS (aN _ hI) ?_;rintro b s1 hI d1 hS p1 q1 ⟨a1, b1, -⟩;have kl := kl.up ⟨d1, hI.good⟩;cases b;rotate_left
  · simp only [↓reduceIte];have a1 := a1 rfl;refine bB (oh HL HL2 f l _ hI kl (by omega) (by omega)) fun i s h => ?_;exact ⟨⟨h.1.1, hS.trans h.1.2⟩, h.2⟩
  simp only [ξh, ↓reduceIte];refine wb (ju hI) fun u s2 h2 => ?_;obtain ⟨⟨hI, d2⟩, ho, e1, e2, -⟩ := h2;have HL1 := HL2 ho;have hS := hS.trans d2;have kl := kl.up ⟨d2, hI.good⟩;have q2 := d2.len;have p2 := d2.pos;refine wc hS (Gz HL1 _ hI) ?_;rintro i s3 hI d3 hS p3 q3 ⟨a3, b3, ki⟩;have kl := kl.up ⟨d3, hI.good⟩;have hm := hI.many;refine wc hS (dH hI (by omega)) ?_;rintro u s4 hI d4 hS p4 q4 e4;subst e4;refine wc hS (jl hI) ?_;rintro u s5 hI d5 hS p5 q5 ⟨a5, b5, -⟩;have kl := kl.up ⟨d5, hI.good⟩;have ki := ki.up ⟨d5, hI.good⟩;refine bB (oh HL HL2 f (l ++ [i]) _ hI (KL.app kl (KL.one ki)) (by omega) (by simp; omega)) fun i s h => ?_;exact ⟨⟨h.1.1, hS.trans h.1.2⟩, h.2⟩
theorem qN (HL : fQ ts o L) : ∀ (f i : Nat) (st : PS), Inv ts o k st → KN st.nodes (Gk 5) i → ts.length < f + st.pos → wpM (ez ts L f i) (fun i s => St1 ts o k st s ∧ KN s.nodes (Gk 5) i) st
 | 0, e, st, hI, ke, hf => by have := hI.pos; omega
 | f + 1, e, st, hI, ke, hf => by
  have hS := Stp.refl st;unfold ez;refine aP (g := isP ts 0 [119, 104, 101, 114, 101]) ?_;split
  · rename_i hc;refine wc hS (jh hI ke) ?_;rintro sp s2 hI d2 hS p2 q2 e2;subst e2;refine wc hS (DC HL hI hc) ?_;rintro v s3 hI d3 hS p3 q3 ⟨a3, b3, kv⟩;have ke := ke.up ⟨d3, hI.good⟩;refine wc hS (aF (Gk 5) _ 92 _ _ hI (lt2 ke kv) (by simp [cT, aJ, mK, seqB, ke.g, kv.d]) rfl) ?_;rintro i s4 hI d4 hS p4 q4 ⟨a4, b4, ki, -⟩;refine bB (qN HL f i _ hI ki (by omega)) fun i s h => ?_;exact ⟨⟨h.1.1, hS.trans h.1.2⟩, h.2⟩
  · exact aR ⟨⟨hI, hS⟩, ke⟩
theorem Jc (HL : o + 1 ≤ 1000 → fQ ts (o + 1) L) (HL2 : o + 1 + 1 ≤ 1000 → fQ ts (o + 1 + 1) L) : Ph ts o k (Gk 5) (Gb ts L) := by
 intro st hI;unfold Gb;refine wb (ju hI) fun u s1 h1 => ?_;obtain ⟨⟨hI, d1⟩, ho, e1, e2, -⟩ := h1;have HL := HL ho;have hS := d1;have hp : s1.nodes.length = st.nodes.length := by rw [e2]
 refine aP (g := ak ts) ?_;refine wb (P := fun i s => St1 ts (o + 1) k s1 s ∧ s1.pos < s.pos ∧ s1.nodes.length < s.nodes.length ∧ KN s.nodes (Gk 5) i) ?_ fun i s2 h2 => ?_
 · have hS := Stp.refl s1;refine wc hS (aN _ hI) ?_;rintro b s2 hI d2 hS p2 q2 ⟨a2, b2, -⟩;cases b;rotate_left
   · simp only [↓reduceIte];have a2 := a2 rfl;refine wc hS (oh HL HL2 (ts.length + 1) [] _ hI KL.nil (by omega) (by simp)) ?_;rintro l s3 hI d3 hS p3 q3 ⟨kl, nl⟩;refine wc hS (bA _ hI) ?_;rintro u s4 hI d4 hS p4 q4 ⟨a4, b4, -⟩;have kl := kl.up ⟨d4, hI.good⟩;refine we hS (aF (Gk 5) _ 90 _ _ hI kl.lt (lN (by simp) kl (ξM _)) rfl) ?_;rintro iz sz hI dz hS pz qz ⟨a9, b9, k9, -⟩;exact ⟨hS, by omega, by omega, k9⟩
   simp only [ξh, ↓reduceIte];refine wc hS (dJ hI) ?_;rintro n s3 hI d3 hS p3 q3 ⟨a3, b3, -⟩;refine we hS (aF (Gk 5) _ 91 _ _ hI lt0 (by simp [cT, aJ]) rfl) ?_;rintro iz sz hI dz hS pz qz ⟨a9, b9, k9, -⟩;exact ⟨hS, by omega, by omega, k9⟩
 · obtain ⟨⟨hI, d2⟩, a2, b2, ki⟩ := h2;have hS := hS.trans d2;have p2 := d2.pos;have q2 := d2.len;refine wc hS (qN HL (ts.length + 1) i _ hI ki (by omega)) ?_;rintro i s3 hI d3 hS p3 q3 ki;refine wc hS (jl hI) ?_;rintro u s4 hI d4 hS p4 q4 ⟨a4, b4, -⟩;have ki := ki.up ⟨d4, hI.good⟩;exact aR ⟨⟨hI, hS⟩, by omega, by omega, ki⟩
theorem zN : ∀ (n o : Nat), o ≤ 1000 → 1001 ≤ o + n → fQ ts o (iV ts n)
 | 0, o, h1, h2 => by omega
 | n + 1, o, h1, h2 =>
  have HL : o + 1 ≤ 1000 → fQ ts (o + 1) (iV ts n) := fun h => zN n (o + 1) h (by omega);have HL2 : o + 1 + 1 ≤ 1000 → fQ ts (o + 1 + 1) (iV ts n) := fun h => zN n (o + 1 + 1) h (by omega)
  ⟨fun k => Kv HL, fun k => JI HL, fun k => K7 HL, fun k => Bt HL, fun k => Jb HL, fun k => Jc HL HL2⟩
end
end Kiln
namespace Kiln
structure Cf where
 ts : List Tok
 ts' : List Tok
 d : Nat
 o : Nat
 pre : List Nd
 dpre : List Nat
 t0 : List Names
 t0' : List Names
 ex : Prop
def TE (t t' : Tok) : Prop := t'.kind = t.kind ∧ t'.text = t.text ∧ t'.path = t.path
def M5 (c : Cf) (n : Nat) (t t' : Tok) : Prop := TE t t' ∨ (¬ c.ex ∧ n = c.ts.length ∧ t = qq ∧ t'.kind = 1 ∧ t'.text = [105, 110] ∧ t'.path = []) ∨ (¬ c.ex ∧ c.ts.length < n)
structure Cf.OK (c : Cf) : Prop where
 tok : ∀ n, M5 c n (c.ts.getD n qq) (c.ts'.getD (n + c.d) qq)
 dp : c.dpre.length = c.pre.length
 look : ∀ own nm, fP nm (cG own c.t0) = fP nm (cG own c.t0')
 n0 : c.t0 ≠ []
 n0' : c.t0' ≠ []
 exact : c.ex → c.d = 0 ∧ c.o = 0 ∧ c.pre = [] ∧ c.t0' = c.t0 ∧ c.ts'.length = c.ts.length
def NR (N : Nat) (n n' : Nd) : Prop := n'.kind = n.kind ∧ n'.text = n.text ∧ n'.path = n.path ∧ n'.kids = n.kids.map (· + (N : Int))
inductive NRs (N : Nat) : List Nd → List Nd → Prop where
 | nil : NRs N [] []
 | cons {n n' : Nd} {l l' : List Nd} : NR N n n' → NRs N l l' → NRs N (n :: l) (n' :: l')
theorem NRs.len {N : Nat} {l l' : List Nd} (h : NRs N l l') : l'.length = l.length := by
 induction h with
 | nil => rfl
 | cons _ _ ih => simp [ih]
theorem NRs.snoc {N : Nat} {n n' : Nd} {l l' : List Nd} (h : NRs N l l') (hn : NR N n n') : NRs N (l ++ [n]) (l' ++ [n']) := by
 induction h with
 | nil => exact .cons hn .nil
 | cons h1 _ ih => exact .cons h1 ih
theorem NRs.at {N : Nat} {l l' : List Nd} (h : NRs N l l') : ∀ {i : Nat} {n : Nd}, l[i]? = some n → ∃ n', l'[i]? = some n' ∧ NR N n n' := by
 induction h with
 | nil => intro i n hi; simp at hi
 | cons h1 _ ih =>
  intro i n hi;cases i with
  | zero => simp only [ξv, ξO] at hi; subst hi; exact ⟨_, rfl, h1⟩
  | succ i => exact ih (by simpa using hi)
theorem NRs.path {N : Nat} {l l' : List Nd} (h : NRs N l l') (pa : List Bytes) : ∀ i : Nat, NRs N (l.modify i fun n => { n with path := pa }) (l'.modify i fun n => { n with path := pa }) := by
 induction h with
 | nil => intro i; cases i <;> exact .nil
 | cons h1 h2 ih =>
  intro i;cases i with
  | zero => exact .cons ⟨h1.1, h1.2.1, rfl, h1.2.2.2⟩ h2
  | succ i => exact .cons h1 (ih i)
structure SR (c : Cf) (k : Nat) (st st' : PS) : Prop where
 pos : st'.pos = st.pos + c.d
 le : st.pos ≤ c.ts.length
 opn : st'.opn = st.opn + c.o
 nds : ∃ l', st'.nodes = c.pre ++ l' ∧ NRs c.pre.length st.nodes l'
 deep : st'.deep = c.dpre ++ st.deep
 sc : ∃ xs own, xs.length = k ∧ st.sc = xs ++ cG own c.t0 ∧ st'.sc = xs ++ cG own c.t0'
def Nl : Flt → Flt → Prop
 | .stop _ _ e, .stop _ _ e' => e' = e ∧ e ≠ 0
 | .out, .out => True
 | _, _ => False
def RR {α β : Type} (c : Cf) (k : Nat) (A : α → β → Prop) : Except Flt (α × PS) → Except Flt (β × PS) → Prop
 | .ok x, .ok y => A x.1 y.1 ∧ SR c k x.2 y.2
 | .error e, .error e' => c.ex → Nl e e'
 | _, _ => ¬ c.ex
def Rel {α β : Type} (c : Cf) (k : Nat) (A : α → β → Prop) (m : M α) (m' : M β) : Prop := ∀ st st', SR c k st st' → RR c k A (m st) (m' st')
section
variable {c : Cf} {k : Nat} {st st' : PS}
theorem aj {α β γ δ : Type} {A : α → γ → Prop} {B : β → δ → Prop} {m : M α} {f : α → M β} {m' : M γ} {f' : γ → M δ} {k k2 : Nat} (h : RR c k A (m st) (m' st'))
 (hf : ∀ a a' s s', A a a' → SR c k s s' → RR c k2 B (f a s) (f' a' s')) : RR c k2 B ((m >>= f) st) ((m' >>= f') st') := by
 cases hm : m st with
 | ok x =>
  rw [show (m >>= f) st = f x.1 x.2 from bind_ok hm];cases hm' : m' st' with
  | ok y =>
   rw [show (m' >>= f') st' = f' y.1 y.2 from bind_ok hm'];rw [hm, hm'] at h;exact hf _ _ _ _ h.1 h.2
  | error e =>
   rw [show (m' >>= f') st' = .error e from dB hm'];rw [hm, hm'] at h;have h : ¬ c.ex := h;cases f x.1 x.2 with
   | ok z => exact h
   | error g => exact fun e => absurd e h
 | error e =>
  rw [show (m >>= f) st = .error e from dB hm];cases hm' : m' st' with
  | ok y =>
   rw [show (m' >>= f') st' = f' y.1 y.2 from bind_ok hm'];rw [hm, hm'] at h;have h : ¬ c.ex := h;cases f' y.1 y.2 with
   | ok z => exact h
   | error g => exact fun e => absurd e h
  | error e' =>
   rw [show (m' >>= f') st' = .error e' from dB hm'];rw [hm, hm'] at h;exact h
theorem aZ {α β : Type} {A : α → β → Prop} {a : α} {b : β} (hs : SR c k st st') (h : A a b) : RR c k A ((pure a : M α) st) ((pure b : M β) st') := ⟨h, hs⟩
theorem bG {α β γ δ : Type} {B : β → δ → Prop} (g : PS → α) (g' : PS → γ) {f : α → M β} {f' : γ → M δ} (h : RR c k B (f (g st) st) (f' (g' st') st')) :
 RR c k B (((fun s => .ok (g s, s) : M α) >>= f) st) (((fun s => .ok (g' s, s) : M γ) >>= f') st') := h
theorem Cj {α β γ δ : Type} {B : β → δ → Prop} {a : α} {a' : γ} {f : α → M β} {f' : γ → M δ} (h : RR c k B (f a st) (f' a' st')) : RR c k B (((pure a : M α) >>= f) st) (((pure a' : M γ) >>= f') st') := h
theorem aL {α β : Type} {B : α → β → Prop} {p q : Prop} [Decidable p] [Decidable q] {m1 m2 : M α} {m1' m2' : M β} (h : p ↔ q) (h1 : p → RR c k B (m1 st) (m1' st')) (h2 : ¬ p → RR c k B (m2 st) (m2' st')) :
 RR c k B ((if p then m1 else m2) st) ((if q then m1' else m2') st') := by
 by_cases hp : p
 · rw [ψi hp, ψi (h.1 hp)]; exact h1 hp
 · rw [ψh hp, ψh fun hq => hp (h.2 hq)]; exact h2 hp
theorem gW {α β : Type} {B : α → β → Prop} {e : Flt} {r : Except Flt (β × PS)} (h : ¬ c.ex) : RR c k B (.error e : Except Flt (α × PS)) r := by
 cases r with
 | ok y => exact h
 | error g => exact fun e => absurd e h
theorem gb {α β : Type} {B : α → β → Prop} {e : Flt} {r : Except Flt (α × PS)} (h : ¬ c.ex) : RR c k B r (.error e : Except Flt (β × PS)) := by
 cases r with
 | ok y => exact h
 | error g => exact fun e => absurd e h
def EqR {α : Type} (a b : α) : Prop := a = b
def Ng {α β : Type} (_ : α) (_ : β) : Prop := True
def IdR (c : Cf) (i i' : Nat) : Prop := i' = i + c.pre.length
def LsR (c : Cf) (l l' : List Nat) : Prop := l' = l.map (· + c.pre.length)
theorem SR.len (HC : c.OK) (hs : SR c k st st') : st'.nodes.length = c.pre.length + st.nodes.length := by
 obtain ⟨l', h1, h2⟩ := hs.nds;rw [h1, ξ1, h2.len]
theorem SR.dlen (HC : c.OK) (hs : SR c k st st') : st'.deep.length = c.pre.length + st.deep.length := by
 rw [hs.deep, ξ1, HC.dp]
theorem SR.tok (HC : c.OK) (hs : SR c k st st') (j : Nat) : M5 c (st.pos + j) (aB c.ts j st) (aB c.ts' j st') := by
 unfold aB;rw [hs.pos, show st.pos + c.d + j = st.pos + j + c.d by omega];exact HC.tok _
theorem SR.tok0 (HC : c.OK) (hs : SR c k st st') : TE (aB c.ts 0 st) (aB c.ts' 0 st') ∨ (¬ c.ex ∧ st.pos = c.ts.length ∧ aB c.ts 0 st = Kiln.qq ∧ (aB c.ts' 0 st').kind = 1 ∧ (aB c.ts' 0 st').text = [105, 110] ∧ (aB c.ts' 0 st').path = []) := by
 rcases hs.tok HC 0 with h | h | h
 · exact .inl h
 · exact .inr ⟨h.1, by have := h.2.1; omega, h.2.2⟩
 · have := hs.le; have := h.2; omega
theorem wE {j : Nat} {s : Bytes} (HC : c.OK) (hs : SR c k st st') (hj : st.pos + j ≤ c.ts.length) (hin : s ≠ [105, 110]) : isP c.ts' j s st' = isP c.ts j s st := by
 unfold isP;rcases hs.tok HC j with h | h | h
 · rw [h.1, h.2.1]
 · obtain ⟨-, -, e0, e1, e2, -⟩ := h;rw [e0, e1, e2];have : ([105, 110] == s) = false := by rw [ξY]; exact fun e => hin e.symm
   rw [this]; rfl
 · have := h.2; omega
theorem jI {s : Bytes} (HC : c.OK) (hs : SR c k st st') (hin : s ≠ [105, 110]) : isP c.ts' 0 s st' = isP c.ts 0 s st := wE HC hs hs.le hin
theorem jk {j : Nat} (HC : c.OK) (hs : SR c k st st') (hj : st.pos + j ≤ c.ts.length) : cJ (aB c.ts' j st') = cJ (aB c.ts j st) := by
 unfold cJ;rcases hs.tok HC j with h | h | h
 · rw [h.1, h.2.2]
 · obtain ⟨-, -, e0, e1, -, -⟩ := h;rw [e0, e1]; rfl
 · have := h.2; omega
theorem yA {a b : List Names} (nm : Bytes) (h : fP nm a = fP nm b) : ∀ xs : List Names, fP nm (xs ++ a) = fP nm (xs ++ b)
 | [] => h
 | x :: xs => by
  simp only [List.cons_append, fP];rw [yA nm h xs]
theorem AX (HC : c.OK) (hs : SR c k st st') (nm : Bytes) : fP nm st'.sc = fP nm st.sc := by
 obtain ⟨xs, own, -, h1, h2⟩ := hs.sc;rw [h1, h2];exact (yA nm (HC.look own nm) xs).symm
theorem mE {j : Nat} (HC : c.OK) (hs : SR c k st st') (hj : st.pos + j ≤ c.ts.length) : cO (aB c.ts' j st') st' = cO (aB c.ts j st) st := by
 unfold cO;rw [jk HC hs hj, AX HC hs];cases hn : cJ (aB c.ts j st)
 · rfl
 · rcases hs.tok HC j with h | h | h
   · rw [h.2.1]
   · rw [h.2.2.1] at hn; cases hn
   · have := h.2; omega
theorem vF {ts : List Tok} {s : PS} {j : Nat} (h : (aB ts j s).kind ≠ 0) : s.pos + j < ts.length := by
 rcases Nat.lt_or_ge (s.pos + j) ts.length with h1 | h1
 · exact h1
 · unfold aB at h;rw [ξr, ξx h1] at h;exact absurd rfl h
theorem rZ {ts : List Tok} {s : PS} {j : Nat} {x : Bytes} (h : isP ts j x s = true) : s.pos + j < ts.length := vF (by
 unfold isP at h;simp only [ξg, ξZ] at h;rw [h.1]; decide)
theorem gT {ts : List Tok} {s : PS} {j : Nat} (h : cJ (aB ts j s) = true) : s.pos + j < ts.length := vF (by
 unfold cJ at h;simp only [ξg, ξZ] at h;rw [h.1]; decide)
theorem there {j : Nat} (HC : c.OK) (hs : SR c k st st') (h : st.pos + j < c.ts.length) : TE (aB c.ts j st) (aB c.ts' j st') := by
 rcases hs.tok HC j with h1 | h1 | h1
 · exact h1
 · have := h1.2.1; omega
 · have := h1.2; omega
theorem nN (HC : c.OK) (hs : SR c k st st') : bM c.ts' 0 st' = bM c.ts 0 st := by
 unfold bM;rw [jk HC hs hs.le, mE HC hs hs.le, jI HC hs (by decide)];cases hn : cJ (aB c.ts 0 st)
 · simp only [Bool.false_and, ξh, ↓reduceIte];cases ho : isP c.ts 0 [111, 112] st
   · simp only [ξh, ↓reduceIte]
   · have hl := rZ ho;simp only [↓reduceIte];rw [jk HC hs (by omega), wE HC hs (by omega) (by decide)];cases hm : cJ (aB c.ts (0 + 1) st)
     · rfl
     · rw [(there HC hs (gT hm)).2.1]
 · have hl := there HC hs (gT hn);rw [hl.2.1];have hl := gT hn;cases hi : cO (aB c.ts 0 st) st
   · simp
   · simp only [Bool.not_true, Bool.and_false, ξh, ↓reduceIte];cases ho : isP c.ts 0 [111, 112] st
     · simp only [ξh, ↓reduceIte]
     · simp only [↓reduceIte];rw [jk HC hs (by omega), wE HC hs (by omega) (by decide)];cases hm : cJ (aB c.ts (0 + 1) st)
       · rfl
       · rw [(there HC hs (gT hm)).2.1]
theorem bX (HC : c.OK) (hs : SR c k st st') (n : Nat) : RR c k EqR (cu c.ts n st) (cu c.ts' n st') := by
 unfold cu;by_cases h1 : st.pos + n ≤ c.ts.length
 · rw [ψi h1];by_cases h2 : st'.pos + n ≤ c.ts'.length
   · rw [ψi h2];exact ⟨rfl, ⟨by show st'.pos + n = st.pos + n + c.d; have := hs.pos; omega, h1, hs.opn, hs.nds, hs.deep, hs.sc⟩⟩
   · rw [ψh h2];refine gb fun e => h2 ?_;obtain ⟨e1, -, -, -, e2⟩ := HC.exact e;have := hs.pos;omega
 · rw [ψh h1];by_cases h2 : st'.pos + n ≤ c.ts'.length
   · rw [ψi h2];refine gW fun e => h1 ?_;obtain ⟨e1, -, -, -, e2⟩ := HC.exact e;have := hs.pos;omega
   · rw [ψh h2]; exact fun _ => ξQ
theorem SR.adv (hs : SR c k st st') (h : st.pos < c.ts.length) : SR c k { st with pos := st.pos + 1 } { st' with pos := st'.pos + 1 } :=
 ⟨by show st'.pos + 1 = st.pos + 1 + c.d; have := hs.pos; omega, h, hs.opn, hs.nds, hs.deep, hs.sc⟩
theorem aO {x : Bytes} (HC : c.OK) (hs : SR c k st st') (hin : x ≠ [105, 110]) : RR c k EqR (aX c.ts x st) (aX c.ts' x st') := by
 unfold aX;rw [jI HC hs hin];cases hb : isP c.ts 0 x st
 · exact ⟨rfl, hs⟩
 · exact ⟨rfl, hs.adv (rZ hb)⟩
theorem dU {α β : Type} {B : α → β → Prop} : RR c k B ((jK c.ts : M α) st) ((jK c.ts' : M β) st') := fun _ => ⟨rfl, by decide⟩
theorem bE {x : Bytes} (HC : c.OK) (hs : SR c k st st') : RR c k EqR (bF c.ts x st) (bF c.ts' x st') := by
 unfold bF;by_cases hin : x = [105, 110]
 · rcases hs.tok0 HC with h | h
   · have e : isP c.ts' 0 x st' = isP c.ts 0 x st := by unfold isP; rw [h.1, h.2.1]
     rw [e];cases hb : isP c.ts 0 x st
     · exact dU
     · exact ⟨rfl, hs.adv (rZ hb)⟩
   · have e : isP c.ts 0 x st = false := by unfold isP; rw [h.2.2.1]; rfl
     rw [e];exact gW h.1
 · rw [jI HC hs hin];cases hb : isP c.ts 0 x st
   · exact dU
   · exact ⟨rfl, hs.adv (rZ hb)⟩
theorem dI (HC : c.OK) (hs : SR c k st st') : RR c k EqR (aW c.ts st) (aW c.ts' st') := by
 unfold aW;rw [jk HC hs hs.le];cases hb : cJ (aB c.ts 0 st)
 · exact dU
 · exact ⟨(there HC hs (gT hb)).2.1.symm, hs.adv (gT hb)⟩
theorem iw (HC : c.OK) (hs : SR c k st st') : RR c k EqR (gB c.ts st) (gB c.ts' st') := by
 have ho := hs.opn;have hr : SR c k { st with opn := st.opn + 1 } { st' with opn := st'.opn + 1 } := ⟨hs.pos, hs.le, by show st'.opn + 1 = st.opn + 1 + c.o; omega, hs.nds, hs.deep, hs.sc⟩;unfold gB;by_cases he : c.ex
 · obtain ⟨-, e1, -⟩ := HC.exact he;rw [show st'.opn = st.opn by omega] at hr ⊢;split
   · exact fun _ => ξQ
   · split
     · exact fun _ => ⟨rfl, by decide⟩
     · exact ⟨rfl, hr⟩
 · split
   · exact gW he
   · split
     · exact gW he
     · split
       · exact gb he
       · split
         · exact gb he
         · exact ⟨rfl, hr⟩
theorem gZ (HC : c.OK) (hs : SR c k st st') : RR c k EqR (dh st) (dh st') := by
 have ho := hs.opn;unfold dh;by_cases he : c.ex
 · obtain ⟨-, e1, -⟩ := HC.exact he;rw [show st'.opn = st.opn by omega];split
   · exact fun _ => ξQ
   · exact ⟨rfl, ⟨hs.pos, hs.le, by show st.opn - 1 = st.opn - 1 + c.o; omega, hs.nds, hs.deep, hs.sc⟩⟩
 · split
   · exact gW he
   · rw [ψh (by omega)];exact ⟨rfl, ⟨hs.pos, hs.le, by show st'.opn - 1 = st.opn - 1 + c.o; omega, hs.nds, hs.deep, hs.sc⟩⟩
theorem jg (HC : c.OK) (hs : SR c k st st') (i : Nat) : RR c k Ng (ofM i st) (ofM (i + c.pre.length) st') := by
 have h := hs.len HC;unfold ofM;by_cases h1 : i < st.nodes.length
 · rw [ψi h1, ψi (by omega)]; exact ⟨ξQ, hs⟩
 · rw [ψh h1, ψh (by omega)]; exact fun _ => ξQ
theorem dG {α β : Type} {l : List α} {l' : List β} (hs : SR c k st st') (hl : l'.length = l.length) : RR c k EqR (cA l st) (cA l' st') := by
 unfold cA;rw [hl];split
 · exact ⟨rfl, hs⟩
 · exact fun _ => ξQ
theorem vg (dpre deep : List Nat) : ∀ (kids : List Nat) (x : Nat), iJ (dpre ++ deep) (kids.map (· + dpre.length)) x = iJ deep kids x
 | [], _ => rfl
 | i :: l, x => by
  simp only [List.map_cons, iJ];rw [vg dpre deep l];congr 2
  rw [ξr, ξr, ξt (by omega), Nat.add_sub_cancel]
theorem aD (HC : c.OK) (hs : SR c k st st') (sp sp' : Int × Int) (kd : Int) (text : Bytes) {kids kids' : List Nat} (hk : LsR c kids kids') : RR c k (IdR c) (aV sp kd text kids st) (aV sp' kd text kids' st') := by
 subst hk;have h1 := hs.len HC;have h2 := hs.dlen HC;unfold aV;have e1 : ((kids.map (· + c.pre.length)).any fun i => !(decide (i < st'.nodes.length) && decide (i < st'.deep.length))) = kids.any fun i => !(decide (i < st.nodes.length) && decide (i < st.deep.length)) := by
  rw [List.any_map];congr 1
  funext i
  simp only [Function.comp];rw [h1, h2];congr 2
  · rw [decide_eq_decide]; omega
  · rw [decide_eq_decide]; omega
 have e2 : iJ st'.deep (kids.map (· + c.pre.length)) 1 = iJ st.deep kids 1 := by
  rw [hs.deep, ← HC.dp]; exact vg _ _ _ _
 rw [e1, e2];split
 · exact fun _ => ξQ
 split
 · exact fun _ => ⟨rfl, by decide⟩
 have hr : SR c k { st with nodes := st.nodes ++ [⟨kd, text, [], kids.map Int.ofNat, sp.1, sp.2⟩], deep := st.deep ++ [iJ st.deep kids 1] } { st' with nodes := st'.nodes ++ [⟨kd, text, [], (kids.map (· + c.pre.length)).map Int.ofNat, sp'.1, sp'.2⟩], deep := st'.deep ++ [iJ st.deep kids 1] } := by
  obtain ⟨l', h3, h4⟩ := hs.nds;refine ⟨hs.pos, hs.le, hs.opn, ⟨l' ++ [⟨kd, text, [], (kids.map (· + c.pre.length)).map Int.ofNat, sp'.1, sp'.2⟩], by show st'.nodes ++ _ = _; rw [h3, ξo], h4.snoc ⟨rfl, rfl, rfl, ?_⟩⟩, by show st'.deep ++ _ = _; rw [hs.deep, ξo], hs.sc⟩;simp only [List.map_map];congr 1
 by_cases he : c.ex
 · obtain ⟨-, -, e3, -⟩ := HC.exact he;have e4 : c.pre.length = 0 := by rw [e3]; rfl
   rw [show st'.nodes.length = st.nodes.length by omega, show st'.deep.length = st.deep.length by omega];split
   · exact fun _ => ⟨rfl, by decide⟩
   split
   · exact fun _ => ξQ
   · exact ⟨by show st.nodes.length = st.nodes.length + c.pre.length; omega, hr⟩
 · split
   · exact gW he
   split
   · exact gW he
   split
   · exact gb he
   split
   · exact gb he
   · exact ⟨by show st'.nodes.length = st.nodes.length + c.pre.length; omega, hr⟩
theorem vU (hs : SR c k st st') (i : Nat) (pa : List Bytes) : RR c k EqR (setPath i pa st) (setPath (i + c.pre.length) pa st') := by
 obtain ⟨l', h3, h4⟩ := hs.nds;refine ⟨rfl, ⟨hs.pos, hs.le, hs.opn, ⟨l'.modify i fun n => { n with path := pa }, ?_, h4.path pa i⟩, hs.deep, hs.sc⟩⟩;show st'.nodes.modify (i + c.pre.length) _ = _;rw [h3];refine List.ext_getElem? fun j => ?_;rw [List.getElem?_modify];rcases Nat.lt_or_ge j c.pre.length with h1 | h1
 · rw [ξs h1, ξs h1];simp only [show ¬ (i + c.pre.length = j) by omega, ↓reduceIte];simp
 · rw [ξt h1, ξt h1, List.getElem?_modify];by_cases h2 : i + c.pre.length = j
   · subst h2;simp
   · simp only [h2, ↓reduceIte, show ¬ (i = j - c.pre.length) by omega]
theorem Ap (HC : c.OK) (hs : SR c k st st') : qd c.ts' st' = qd c.ts st := by
 unfold qd;rcases hs.tok0 HC with h | h
 · rw [h.1, h.2.1]
 · rw [h.2.2.1, h.2.2.2.1]; rfl
theorem Bb (HC : c.OK) (hs : SR c k st st') : dF c.ts' st' = dF c.ts st := by
 unfold dF;simp only [];rw [jk HC hs hs.le];rcases hs.tok0 HC with h | h
 · rw [h.1, h.2.1]
 · rw [h.2.2.1, h.2.2.2.1]; rfl
theorem yE {ts : List Tok} {s : PS} (h : dF ts s ≠ []) : s.pos + 0 < ts.length := by
 refine vF fun e => h ?_;unfold dF cJ;simp [e]
theorem kr (HC : c.OK) (hs : SR c k st st') : RR c k EqR (cK c.ts st) (cK c.ts' st') := by
 unfold cK;rw [Ap HC hs, Bb HC hs];split
 · by_cases hl : (dF c.ts st == []) = true
   · rw [ψi hl, ψi hl]; exact dU
   · rw [ψh hl, ψh hl];exact ⟨rfl, hs.adv (yE (by simpa using hl))⟩
 · exact fun _ => ξQ
theorem yu {own own2 : Names} : ∀ sc : List Names, cG own2 (cG own sc) = cG (own ++ own2) sc
 | [] => rfl
 | s :: l => by simp [cG]
theorem yp (HC : c.OK) (hs : SR c k st st') (own2 : Names) : RR c k EqR (kQ own2 st) (kQ own2 st') := by
 have hr : SR c k { st with sc := cG own2 st.sc } { st' with sc := cG own2 st'.sc } := by
  obtain ⟨xs, own, h0, h1, h2⟩ := hs.sc;refine ⟨hs.pos, hs.le, hs.opn, hs.nds, hs.deep, ?_⟩;cases xs with
  | nil => exact ⟨[], own ++ own2, h0, by show cG own2 st.sc = _; rw [h1]; exact yu _, by show cG own2 st'.sc = _; rw [h2]; exact yu _⟩
  | cons x xs => exact ⟨(x ++ own2) :: xs, own, h0, by show cG own2 st.sc = _; rw [h1]; rfl, by show cG own2 st'.sc = _; rw [h2]; rfl⟩
 unfold kQ;by_cases he : c.ex
 · obtain ⟨-, -, -, e4, -⟩ := HC.exact he;have e5 : st'.sc = st.sc := by
    obtain ⟨xs, own, h0, h1, h2⟩ := hs.sc;rw [h1, h2, e4]
   rw [e5] at hr ⊢;split
   · exact ⟨rfl, hr⟩
   · exact fun _ => ξQ
 · split
   · split
     · exact ⟨rfl, hr⟩
     · exact gb he
   · exact gW he
theorem SR.push (hs : SR c k st st') : SR c (k + 1) { st with sc := [] :: st.sc } { st' with sc := [] :: st'.sc } := by
 obtain ⟨xs, own, h0, h1, h2⟩ := hs.sc;exact ⟨hs.pos, hs.le, hs.opn, hs.nds, hs.deep, [] :: xs, own, by simp [h0], by rw [h1]; rfl, by rw [h2]; rfl⟩
theorem SR.pop (hs : SR c (k + 1) st st') : SR c k { st with sc := st.sc.tail } { st' with sc := st'.sc.tail } := by
 obtain ⟨xs, own, h0, h1, h2⟩ := hs.sc;cases xs with
 | nil => simp at h0
 | cons x xs => exact ⟨hs.pos, hs.le, hs.opn, hs.nds, hs.deep, xs, own, by simpa using h0, by rw [h1]; rfl, by rw [h2]; rfl⟩
theorem SR.head (hs : SR c (k + 1) st st') : st'.sc.headD [] = st.sc.headD [] := by
 obtain ⟨xs, own, h0, h1, h2⟩ := hs.sc;cases xs with
 | nil => simp at h0
 | cons x xs => rw [h1, h2]; rfl
theorem lK {α β : Type} {A : α → β → Prop} {m : M α} {m' : M β} (hs : SR c k st st') (h : RR c (k + 1) A (m { st with sc := [] :: st.sc }) (m' { st' with sc := [] :: st'.sc })) : RR c k A (dQ m st) (dQ m' st') := by
 unfold dQ;cases hm : m { st with sc := [] :: st.sc } with
 | ok x =>
  cases hm' : m' { st' with sc := [] :: st'.sc } with
  | ok y => rw [hm, hm'] at h; exact ⟨h.1, h.2.pop⟩
  | error e => rw [hm, hm'] at h; exact h
 | error e =>
  cases hm' : m' { st' with sc := [] :: st'.sc } with
  | ok y => rw [hm, hm'] at h; exact h
  | error e' => rw [hm, hm'] at h; exact h
structure gI (c : Cf) (L L' : Low) : Prop where
 exp : ∀ k, Rel c k (IdR c) L.exp L'.exp
 pat : ∀ k, Rel c k (IdR c) L.pat L'.pat
 ty : ∀ k, Rel c k (IdR c) L.ty L'.ty
 decs : ∀ k, Rel c k (IdR c) L.decs L'.decs
 str : ∀ k, Rel c k (IdR c) L.str L'.str
 sig : ∀ k, Rel c k (IdR c) L.sig L'.sig
theorem LsR.snoc {l l' : List Nat} (h : LsR c l l') (i : Nat) : LsR c (l ++ [i]) (l' ++ [i + c.pre.length]) := by
 subst h; simp [LsR]
theorem LsR.len {l l' : List Nat} (h : LsR c l l') : l'.length = l.length := by subst h; simp
theorem MX {α β : Type} {A : α → β → Prop} {f' : Nat} (hf : c.ex → f' = 0) {m' : Nat → M β} (h0 : m' 0 = lF) : RR c k A ((lF : M α) st) (m' f' st') := by
 by_cases he : c.ex
 · rw [hf he, h0]; exact fun _ => ξQ
 · exact gW he
theorem jG {sign : Bytes} {one one' : M Nat} (HC : c.OK) (hin : sign ≠ [105, 110]) (h1 : Rel c k (IdR c) one one') : ∀ (f f' : Nat) (l l' : List Nat) (st st' : PS), (c.ex → f' = f) → LsR c l l' → SR c k st st' →
 RR c k (LsR c) (dw c.ts sign one f l st) (dw c.ts' sign one' f' l' st')
 | 0, f', l, l', st, st', hf, hl, hs => MX (m' := fun f => dw c.ts' sign one' f l') hf rfl
 | f + 1, 0, l, l', st, st', hf, hl, hs => gb fun e => by have := hf e; omega
 | f + 1, f' + 1, l, l', st, st', hf, hl, hs => by
  unfold dw;refine aj (aO HC hs hin) fun b b' st st' hA hs => ?_;obtain rfl := hA;refine aL Iff.rfl (fun _ => ?_) (fun _ => ?_)
  · refine aj (h1 _ _ hs) fun i i' st st' hA hs => ?_;obtain rfl := hA;refine aj (dG hs hl.len) fun u u' st st' hA hs => ?_;obtain rfl := hA;exact jG HC hin h1 f f' _ _ _ _ (fun e => by have := hf e; omega) (hl.snoc i) hs
  · exact aZ hs hl
theorem len_eq (HC : c.OK) : c.ex → c.ts'.length + 1 = c.ts.length + 1 := fun e => by rw [(HC.exact e).2.2.2.2]
theorem cW {sign : Bytes} {one one' : M Nat} (HC : c.OK) (hin : sign ≠ [105, 110]) (h1 : Rel c k (IdR c) one one') : Rel c k (LsR c) (qY c.ts sign one) (qY c.ts' sign one') := fun st st' hs => by
 unfold qY;refine aj (h1 _ _ hs) fun i i' st st' hA hs => ?_;obtain rfl := hA;exact jG HC hin h1 _ _ [i] _ _ _ (len_eq HC) rfl hs
end
end Kiln
namespace Kiln
section
variable {c : Cf} {k : Nat} {L L' : Low}
theorem mM {α β : Type} {A : α → β → Prop} {st st' : PS} {m : M α} {m' : M β} (hf : c.ex → m' = lF) (h0 : m = lF) : RR c k A (m st) (m' st') := by
 by_cases he : c.ex
 · rw [hf he, h0]; exact fun _ => ξQ
 · rw [h0]; exact gW he
theorem mL {α β : Type} {A : α → β → Prop} {st st' : PS} {m : M α} {m' : M β} (hf : ¬ c.ex) (h0 : m' = lF) : RR c k A (m st) (m' st') := by
 rw [h0]; exact gb hf
theorem f0 {f' : Nat} (hf : c.ex → f' = 0) {α : Type} {g : Nat → M α} (h : g 0 = lF) : c.ex → g f' = lF := fun e => by rw [hf e, h]
theorem f1 {f : Nat} (hf : c.ex → 0 = f + 1) : ¬ c.ex := fun e => by have := hf e; omega
theorem fs {f f' : Nat} (hf : c.ex → f' + 1 = f + 1) : c.ex → f' = f := fun e => by have := hf e; omega
theorem GI (HC : c.OK) (HL : gI c L L') : Rel c k (IdR c) (rB c.ts L) (rB c.ts' L') := fun st st' hs => by
 unfold rB;refine aj (HL.pat k _ _ hs) fun a a' st st' hA hs => ?_;obtain rfl := hA;refine aj (bE HC hs) fun u u' st st' hA hs => ?_;obtain rfl := hA;refine aj (HL.exp k _ _ hs) fun e e' st st' hA hs => ?_;obtain rfl := hA;refine aj (jg HC hs a) fun sp sp' st st' _ hs => ?_;exact aD HC hs _ _ 27 [] (kids := [a, e]) rfl
theorem rQ (HC : c.OK) (HL : gI c L L') : Rel c k (LsR c) (kR c.ts L) (kR c.ts' L') := cW HC (by decide) (GI HC HL)
theorem sD (HC : c.OK) {sign : Bytes} {part part' : M Nat} (h1 : Rel c k (IdR c) part part') : ∀ (f f' : Nat) (l l' : List Nat) (st st' : PS), (c.ex → f' = f) → LsR c l l' → SR c k st st' →
 RR c k (LsR c) (jq c.ts sign part f l st) (jq c.ts' sign part' f' l' st')
 | 0, f', l, l', st, st', hf, hl, hs => mM (f0 hf (g := fun f => jq c.ts' sign part' f l') rfl) rfl
 | f + 1, 0, l, l', st, st', hf, hl, hs => mL (f1 hf) rfl
 | f + 1, f' + 1, l, l', st, st', hf, hl, hs => by
  unfold jq;refine bG (ak c.ts) (ak c.ts') ?_;refine aj (kr HC hs) fun tx tx' st st' hA hs => ?_;obtain rfl := hA;refine aj (bE HC hs) fun u u' st st' hA hs => ?_;obtain rfl := hA;refine aj (h1 _ _ hs) fun e e' st st' hA hs => ?_;obtain rfl := hA;refine aj (aD HC hs _ _ 28 tx (kids := [e]) rfl) fun i i' st st' hA hs => ?_;obtain rfl := hA;refine aj (dG hs hl.len) fun u u' st st' hA hs => ?_;obtain rfl := hA;refine aj (aO HC hs (by decide)) fun b b' st st' hA hs => ?_;obtain rfl := hA;refine aL Iff.rfl (fun _ => ?_) (fun _ => ?_)
  · exact sD HC h1 f f' _ _ _ _ (fs hf) (hl.snoc i) hs
  · refine aj (bE HC hs) fun u u' st st' hA hs => ?_;obtain rfl := hA;exact aZ hs (hl.snoc i)
theorem uX (HC : c.OK) {sign : Bytes} {part part' : M Nat} (h1 : Rel c k (IdR c) part part') : Rel c k (LsR c) (jo c.ts sign part) (jo c.ts' sign part') := fun st st' hs => by
 unfold jo;refine aj (aO HC hs (by decide)) fun b b' st st' hA hs => ?_;obtain rfl := hA;refine aL Iff.rfl (fun _ => ?_) (fun _ => ?_)
 · exact aZ hs rfl
 · exact sD HC h1 _ _ [] [] _ _ (len_eq HC) rfl hs
theorem wB (HC : c.OK) {end_ : Bytes} {part part' : M Nat} (he : end_ ≠ [105, 110]) (h1 : Rel c k (IdR c) part part') : Rel c k (LsR c) (oF c.ts end_ part) (oF c.ts' end_ part') := fun st st' hs => by
 unfold oF;refine aj (aO HC hs he) fun b b' st st' hA hs => ?_;obtain rfl := hA;refine aL Iff.rfl (fun _ => ?_) (fun _ => ?_)
 · exact aZ hs rfl
 · refine aj (h1 _ _ hs) fun i i' st st' hA hs => ?_;obtain rfl := hA;refine aj (jG HC (by decide) h1 _ _ [i] _ _ _ (len_eq HC) rfl hs) fun l l' st st' hA hs => ?_;refine aj (bE HC hs) fun u u' st st' hA hs => ?_;obtain rfl := hA;exact aZ hs hA
theorem getD_map {N i : Nat} {l : List Nat} (h : i < l.length) : (l.map (· + N)).getD i 0 = l.getD i 0 + N := by
 rw [ξr, ξr, ξ0, ξw h];rfl
theorem nU {st st' : PS} {l l' : List Nat} (hs : SR c k st st') (hl : LsR c l l') (h1 : l.length = 1) : RR c k (IdR c) ((pure (l.getD 0 0) : M Nat) st) ((pure (l'.getD 0 0) : M Nat) st') := by
 subst hl;exact aZ hs (getD_map (by omega))
theorem wm {l l' : List Nat} (hl : LsR c l l') : (l.length == 1) = true ↔ (l'.length == 1) = true := by rw [hl.len]
theorem Ew (HC : c.OK) (HL : gI c L L') (sp sp' : Int × Int) : Rel c k (IdR c) (mV c.ts L sp) (mV c.ts' L' sp') := fun st st' hs => by
 unfold mV;refine aj (aO HC hs (by decide)) fun b b' st st' hA hs => ?_;obtain rfl := hA;refine aL Iff.rfl (fun _ => ?_) (fun _ => ?_)
 · exact aD HC hs _ _ 13 [] (kids := []) rfl
 · refine aj (HL.exp k _ _ hs) fun i i' st st' hA hs => ?_;obtain rfl := hA;refine bG (isP c.ts 0 [59]) (isP c.ts' 0 [59]) ?_;rw [jI HC hs (by decide)];obtain ⟨B, hB⟩ : ∃ B, isP c.ts 0 [59] st = B := ⟨_, rfl⟩;rw [hB];refine aj (jG HC (by cases B <;> decide) (HL.exp k) _ _ [i] _ _ _ (len_eq HC) rfl hs) fun l l' st st' hl hs => ?_;refine aj (bE HC hs) fun u u' st st' hA hs => ?_;obtain rfl := hA;refine aL (wm hl) (fun h => nU hs hl (by simpa using h)) (fun _ => ?_);exact aD HC hs _ _ _ [] hl
theorem J4 (HC : c.OK) (HL : gI c L L') (sp sp' : Int × Int) : Rel c k (IdR c) (Gc c.ts L sp) (Gc c.ts' L' sp') := fun st st' hs => by
 unfold Gc;refine aj (lK (A := LsR c) hs ?_) fun l l' st st' hl hs => aD HC hs _ _ 16 [] hl;have hs := hs.push;refine aj (HL.decs _ _ _ hs) fun d d' st st' hA hs => ?_;obtain rfl := hA;refine aj (bE HC hs) fun u u' st st' hA hs => ?_;obtain rfl := hA;refine aj (HL.exp _ _ _ hs) fun e e' st st' hA hs => ?_;obtain rfl := hA;refine aj (jG HC (by decide) (HL.exp _) _ _ [d, e] _ _ _ (len_eq HC) rfl hs) fun l l' st st' hl hs => ?_;refine aj (bE HC hs) fun u u' st st' hA hs => ?_;obtain rfl := hA;exact aZ hs hl
section
variable {st st' : PS}
theorem qG (HC : c.OK) (hs : SR c k st st') : bZ (aB c.ts' 0 st') = bZ (aB c.ts 0 st) := by
 unfold bZ;rcases hs.tok0 HC with h | h
 · rw [h.1]
 · rw [h.2.2.1, h.2.2.2.1]; rfl
theorem jL (HC : c.OK) (hs : SR c k st st') {n : Int} (h0 : n ≠ 0) (h1 : n ≠ 1) : ((aB c.ts' 0 st').kind == n) = ((aB c.ts 0 st).kind == n) := by
 rcases hs.tok0 HC with h | h
 · rw [h.1]
 · rw [h.2.2.1, h.2.2.2.1];rw [show ((1 : Int) == n) = false from by rw [ξY]; exact fun e => h1 e.symm, show (Kiln.qq.kind == n) = false from by rw [ξY]; exact fun e => h0 e.symm]
theorem wD (HC : c.OK) (hs : SR c k st st') : ((aB c.ts' 0 st').kind == 2 && !(aB c.ts' 0 st').path.isEmpty) = ((aB c.ts 0 st).kind == 2 && !(aB c.ts 0 st).path.isEmpty) := by
 rcases hs.tok0 HC with h | h
 · rw [h.1, h.2.2]
 · rw [h.2.2.1, h.2.2.2.1]; rfl
theorem Mw (HC : c.OK) (hs : SR c k st st') (h : (aB c.ts 0 st).kind ≠ 0) : TE (aB c.ts 0 st) (aB c.ts' 0 st') := there HC hs (vF h)
theorem BP (HC : c.OK) (hs : SR c k st st') (h : (bZ (aB c.ts 0 st) != 0) = true) : TE (aB c.ts 0 st) (aB c.ts' 0 st') := Mw HC hs fun e => by
 rw [show bZ (aB c.ts 0 st) = 0 from by unfold bZ; rw [e]; rfl] at h;exact absurd h (by decide)
theorem oP (HC : c.OK) (hs : SR c k st st') {n : Int} (hn : n ≠ 0) (h : ((aB c.ts 0 st).kind == n) = true) : TE (aB c.ts 0 st) (aB c.ts' 0 st') := Mw HC hs fun e => by
 rw [e] at h;have : (0 : Int) = n := by simpa using h
 exact hn this.symm
theorem FK (HC : c.OK) (hs : SR c k st st') : iG c.ts' st' = iG c.ts st := by
 unfold iG;simp only [];rw [mE HC hs hs.le];rcases hs.tok0 HC with h | h
 · rw [h.1, h.2.1]
 · rw [h.2.2.1, h.2.2.2.1, h.2.2.2.2.1]; rfl
theorem uw (HC : c.OK) (hs : SR c k st st') : cN c.ts' st' = cN c.ts st := by
 unfold cN;simp only [];rw [mE HC hs hs.le];rcases hs.tok0 HC with h | h
 · rw [h.1, h.2.1]
 · rw [h.2.2.1, h.2.2.2.1, h.2.2.2.2.1]; rfl
theorem zx (HC : c.OK) (hs : SR c k st st') : iC c.ts' st' = iC c.ts st := by
 unfold iC;rw [jk HC hs hs.le];rcases hs.tok0 HC with h | h
 · rw [h.2.1]
 · rw [h.2.2.1]; rfl
theorem sZ (HC : c.OK) (hs : SR c k st st') : eB (aB c.ts' 0 st') = eB (aB c.ts 0 st) := by
 unfold eB;rcases hs.tok0 HC with h | h
 · rw [h.1, h.2.1]
 · rw [h.2.2.1, h.2.2.2.1, h.2.2.2.2.1]; rfl
end
theorem kJ (HC : c.OK) (kd : Int) : Rel c k (IdR c) (jV c.ts kd) (jV c.ts' kd) := fun st st' hs => by
 unfold jV;refine bG (ak c.ts) (ak c.ts') ?_;refine bG (aB c.ts 0) (aB c.ts' 0) ?_;refine aL (by rw [jL HC hs (by decide) (by decide)]) (fun h => ?_) (fun _ => dU);have ht := oP HC hs (by decide) h;rw [ht.2.1, ht.2.2];refine aj (bX HC hs 1) fun u u' st st' hA hs => ?_;obtain rfl := hA;refine aj (aD HC hs _ _ kd _ (kids := []) rfl) fun i i' st st' hA hs => ?_;obtain rfl := hA;refine aj (vU hs _ _) fun u u' st st' hA hs => ?_;obtain rfl := hA;exact aZ hs rfl
theorem y7 (HC : c.OK) (HL : gI c L L') : Rel c k (IdR c) (j4 c.ts L) (j4 c.ts' L') := fun st st' hs => by
 unfold j4;refine bG (ak c.ts) (ak c.ts') ?_;refine bG (aB c.ts 0) (aB c.ts' 0) ?_;refine aL (by rw [qG HC hs]) (fun h => ?_) (fun _ => ?_)
 · have ht := BP HC hs h;rw [qG HC hs, ht.2.1];refine aj (bX HC hs 1) fun u u' st st' hA hs => ?_;obtain rfl := hA;exact aD HC hs _ _ _ _ (kids := []) rfl
 refine bG (bM c.ts 0) (bM c.ts' 0) ?_;rw [nN HC hs];refine aL Iff.rfl (fun h => ?_) (fun _ => ?_)
 · refine aj (bX HC hs _) fun u u' st st' hA hs => ?_;obtain rfl := hA;exact aD HC hs _ _ _ _ (kids := []) rfl
 refine aL (by rw [wD HC hs]) (fun h => kJ HC 10 _ _ hs) (fun _ => ?_);refine aj (aO HC hs (by decide)) fun b b' st st' hA hs => ?_;obtain rfl := hA;refine aL Iff.rfl (fun _ => ?_) (fun _ => ?_)
 · exact dU
 refine aj (aO HC hs (by decide)) fun b b' st st' hA hs => ?_;obtain rfl := hA;refine aL Iff.rfl (fun _ => ?_) (fun _ => ?_)
 · refine aj (kr HC hs) fun tx tx' st st' hA hs => ?_;obtain rfl := hA;exact aD HC hs _ _ _ _ (kids := []) rfl
 refine aj (aO HC hs (by decide)) fun b b' st st' hA hs => ?_;obtain rfl := hA;refine aL Iff.rfl (fun _ => ?_) (fun _ => ?_)
 · refine aj (uX HC (HL.exp k) _ _ hs) fun l l' st st' hl hs => aD HC hs _ _ 11 [] hl
 refine aj (aO HC hs (by decide)) fun b b' st st' hA hs => ?_;obtain rfl := hA;refine aL Iff.rfl (fun _ => ?_) (fun _ => ?_)
 · exact Ew HC HL _ _ _ _ hs
 refine aj (aO HC hs (by decide)) fun b b' st st' hA hs => ?_;obtain rfl := hA;refine aL Iff.rfl (fun _ => ?_) (fun _ => ?_)
 · refine aj (wB HC (by decide) (HL.exp k) _ _ hs) fun l l' st st' hl hs => aD HC hs _ _ 14 [] hl
 refine aj (aO HC hs (by decide)) fun b b' st st' hA hs => ?_;obtain rfl := hA;refine aL Iff.rfl (fun _ => ?_) (fun _ => ?_)
 · exact J4 HC HL _ _ _ _ hs
 · exact dU
theorem BM (HC : c.OK) (HL : gI c L L') : ∀ (f f' e : Nat) (st st' : PS), (c.ex → f' = f) → SR c k st st' → RR c k (IdR c) (Gf c.ts L f e st) (Gf c.ts' L' f' (e + c.pre.length) st')
 | 0, f', e, st, st', hf, hs => mM (f0 hf (g := fun f => Gf c.ts' L' f (e + c.pre.length)) rfl) rfl
 | f + 1, 0, e, st, st', hf, hs => mL (f1 hf) rfl
 | f + 1, f' + 1, e, st, st', hf, hs => by
  unfold Gf;refine bG (iG c.ts) (iG c.ts') ?_;rw [FK HC hs];refine aL Iff.rfl (fun h => ?_) (fun _ => aZ hs rfl);refine aj (jg HC hs e) fun sp sp' st st' _ hs => ?_;refine aj (y7 HC HL _ _ hs) fun a a' st st' hA hs => ?_;obtain rfl := hA;refine aj (aD HC hs _ _ 17 [] (kids := [e, a]) rfl) fun i i' st st' hA hs => ?_;obtain rfl := hA;exact BM HC HL f f' i _ _ (fs hf) hs
theorem KP (HC : c.OK) (HL : gI c L L') : Rel c k (IdR c) (Dl c.ts L) (Dl c.ts' L') := fun st st' hs => by
 unfold Dl;refine aj (y7 HC HL _ _ hs) fun e e' st st' hA hs => ?_;obtain rfl := hA;exact BM HC HL _ _ e _ _ (len_eq HC) hs
def Gh (c : Cf) (l l' : List Nat) : Prop := LsR c l l' ∧ 1 ≤ l.length
def lkS (x : Link) : Fx × Bytes := (x.fx, x.text)
theorem Bg (HC : c.OK) {ex : Bool} {args args' : List Nat} {x x' : Link} (hx : lkS x' = lkS x) (ha : LsR c args args') {st st' : PS} (hs : SR c k st st') : RR c k (Gh c) (nu args x ex st) (nu args' x' ex st') := by
 have ht : x'.text = x.text := congrArg Prod.snd hx;have hl := ha.len;unfold nu;rw [hl, ht];refine aL Iff.rfl (fun _ => fun _ => ξQ) (fun h => ?_);subst ha;rw [getD_map (by omega), getD_map (by omega)];refine aj (aD HC hs _ _ _ x.text (kids := []) rfl) fun f f' st st' hA hs => ?_;obtain rfl := hA;refine aj (aD HC hs _ _ _ [] (kids := [args.getD (args.length - 2) 0, args.getD (args.length - 1) 0]) rfl) fun g g' st st' hA hs => ?_;obtain rfl := hA;refine aj (aD HC hs _ _ _ [] (kids := [f, g]) rfl) fun i i' st st' hA hs => ?_;obtain rfl := hA;refine aZ hs ⟨?_, by simp⟩;simp [LsR]
theorem FU {a a' b b' : Link} (ha : lkS a' = lkS a) (hb : lkS b' = lkS b) {st st' : PS} (hs : SR c k st st') : RR c k EqR (kU a b st) (kU a' b' st') := by
 have h1 : a'.fx = a.fx := congrArg Prod.fst ha;have h2 : b'.fx = b.fx := congrArg Prod.fst hb;unfold kU;rw [h1, h2];split
 · exact ⟨rfl, hs⟩
 split
 · exact fun _ => ⟨rfl, by decide⟩
 · exact ⟨rfl, hs⟩
theorem A8 {ops ops' : List Link} (h : ops'.map lkS = ops.map lkS) : (ops.getLast? = none ∧ ops'.getLast? = none) ∨ ∃ x x', ops.getLast? = some x ∧ ops'.getLast? = some x' ∧ lkS x' = lkS x := by
 have e : (ops'.getLast?).map lkS = (ops.getLast?).map lkS := by rw [← List.getLast?_map, ← List.getLast?_map, h]
 cases h1 : ops.getLast? with
 | none =>
  rw [h1] at e;cases h2 : ops'.getLast? with
  | none => exact .inl ⟨rfl, rfl⟩
  | some y => rw [h2] at e; simp at e
 | some x =>
  rw [h1] at e;cases h2 : ops'.getLast? with
  | none => rw [h2] at e; simp at e
  | some y => rw [h2] at e; exact .inr ⟨x, y, rfl, rfl, by simpa using e⟩
theorem Bs {ops ops' : List Link} (h : ops'.map lkS = ops.map lkS) : ops'.dropLast.map lkS = ops.dropLast.map lkS := by rw [List.map_dropLast, List.map_dropLast, h]
theorem zO {ops ops' : List Link} (h : ops'.map lkS = ops.map lkS) : ops'.length = ops.length := by have := congrArg List.length h; simpa using this
def Nf (c : Cf) (p p' : List Nat × List Link) : Prop := Gh c p.1 p'.1 ∧ p'.2.map lkS = p.2.map lkS
theorem Em (HC : c.OK) {ex : Bool} {x x' : Link} (hx : lkS x' = lkS x) : ∀ (f : Nat) (args args' : List Nat) (ops ops' : List Link) (st st' : PS), Gh c args args' → ops'.map lkS = ops.map lkS → SR c k st st' →
 RR c k (Nf c) (zi x ex f args ops st) (zi x' ex f args' ops' st')
 | 0, args, args', ops, ops', st, st', ha, ho, hs => fun _ => ξQ
 | f + 1, args, args', ops, ops', st, st', ha, ho, hs => by
  unfold zi;rcases A8 ho with ⟨h1, h2⟩ | ⟨y, y', h1, h2, hy⟩
  · rw [h1, h2];exact aZ hs ⟨ha, ho⟩
  · rw [h1, h2];dsimp only;refine aj (FU hy hx hs) fun b b' st st' hA hs => ?_;obtain rfl := hA;refine aL Iff.rfl (fun _ => ?_) (fun _ => aZ hs ⟨ha, ho⟩);refine aj (Bg HC hy ha.1 hs) fun l l' st st' hl hs => ?_;exact Em HC hx f l l' _ _ _ _ hl (Bs ho) hs
theorem Bo (HC : c.OK) {ex : Bool} : ∀ (f : Nat) (args args' : List Nat) (ops ops' : List Link) (st st' : PS), Gh c args args' → ops'.map lkS = ops.map lkS → SR c k st st' →
 RR c k (Gh c) (foldM ex f args ops st) (foldM ex f args' ops' st')
 | 0, args, args', ops, ops', st, st', ha, ho, hs => fun _ => ξQ
 | f + 1, args, args', ops, ops', st, st', ha, ho, hs => by
  unfold foldM;rcases A8 ho with ⟨h1, h2⟩ | ⟨y, y', h1, h2, hy⟩
  · rw [h1, h2];exact aZ hs ha
  · rw [h1, h2];dsimp only;refine aj (Bg HC hy ha.1 hs) fun l l' st st' hl hs => ?_;exact Bo HC f l l' _ _ _ _ hl (Bs ho) hs
theorem Ay (HC : c.OK) {operand operand' : M Nat} {ex : Bool} (h1 : Rel c k (IdR c) operand operand') : ∀ (f f' : Nat) (args args' : List Nat) (ops ops' : List Link) (st st' : PS), (c.ex → f' = f) → Gh c args args' → ops'.map lkS = ops.map lkS → SR c k st st' →
 RR c k (Nf c) (xD c.ts operand ex f args ops st) (xD c.ts' operand' ex f' args' ops' st')
 | 0, f', args, args', ops, ops', st, st', hf, ha, ho, hs => mM (f0 hf (g := fun f => xD c.ts' operand' ex f args' ops') rfl) rfl
 | f + 1, 0, args, args', ops, ops', st, st', hf, ha, ho, hs => mL (f1 hf) rfl
 | f + 1, f' + 1, args, args', ops, ops', st, st', hf, ha, ho, hs => by
  unfold xD;refine bG (aB c.ts 0) (aB c.ts' 0) ?_;refine bG (isP c.ts 0 [61]) (isP c.ts' 0 [61]) ?_;refine bG (cO (aB c.ts 0 st)) (cO (aB c.ts' 0 st')) ?_;rw [jI HC hs (by decide), mE HC hs hs.le];refine aL Iff.rfl (fun h => ?_) (fun _ => aZ hs ⟨ha, ho⟩);refine bG (fun s => (⟨fP (aB c.ts 0 st).text s.sc, (aB c.ts 0 st).text, ak c.ts s⟩ : Link)) (fun s => (⟨fP (aB c.ts' 0 st').text s.sc, (aB c.ts' 0 st').text, ak c.ts' s⟩ : Link)) ?_;have hlt : st.pos + 0 < c.ts.length := by
   simp only [ξj, ξg] at h;rcases h with h | h
   · exact rZ h.2
   · unfold cO at h;simp only [ξg] at h;exact gT h.1
  have ht := there HC hs hlt;have hx : lkS ⟨fP (aB c.ts' 0 st').text st'.sc, (aB c.ts' 0 st').text, ak c.ts' st'⟩ = lkS ⟨fP (aB c.ts 0 st).text st.sc, (aB c.ts 0 st).text, ak c.ts st⟩ := by
   simp only [lkS];rw [ht.2.1, AX HC hs]
  refine aj (bX HC hs 1) fun u u' st st' hA hs => ?_;obtain rfl := hA;rw [zO ho];refine aj (Em HC hx _ _ _ _ _ _ _ ha ho hs) fun p p' st st' hp hs => ?_;refine aj (h1 _ _ hs) fun i i' st st' hA hs => ?_;obtain rfl := hA;refine aj (dG hs hp.1.1.len) fun u u' st st' hA hs => ?_;obtain rfl := hA;refine aj (dG hs (zO hp.2)) fun u u' st st' hA hs => ?_;obtain rfl := hA;exact Ay HC h1 f f' _ _ _ _ _ _ (fs hf) ⟨hp.1.1.snoc i, by simp⟩ (by rw [ξ8, ξ8, hp.2]; simp [hx]) hs
theorem Ec (HC : c.OK) {operand operand' : M Nat} {ex : Bool} (h1 : Rel c k (IdR c) operand operand') : Rel c k (IdR c) (zh c.ts operand ex) (zh c.ts' operand' ex) := fun st st' hs => by
 unfold zh;refine aj (h1 _ _ hs) fun i i' st st' hA hs => ?_;obtain rfl := hA;refine aj (Ay HC h1 _ _ [i] _ [] [] _ _ (len_eq HC) ⟨rfl, by simp⟩ rfl hs) fun p p' st st' hp hs => ?_;rw [zO hp.2];refine aj (Bo HC _ _ _ _ _ _ _ hp.1 hp.2 hs) fun l l' st st' hl hs => ?_;refine aZ hs ?_;obtain ⟨hl, h1⟩ := hl;subst hl;exact getD_map (by omega)
end
end Kiln
