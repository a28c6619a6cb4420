/- Part of the proof. Conditions: those of each theorem. -/
import Derived.Test.YtbchkldhnjahaaaGreatDoorPoa
import Derived.Test.YtbchkldhnjahaaaGreatDoorPob
import Derived.Test.YtbchkldhnjahaaaGreatDoorPod
set_option maxRecDepth 100000
set_option maxHeartbeats 40000000
namespace Kiln
section
variable {c : Cf} {k : Nat} {L L' : Low}
theorem nG (HC : c.OK) (HL : gI c L L') (kd : Int) : ∀ (f f' e : Nat) (st st' : PS), (c.ex → f' = f) → SR c k st st' → RR c k (IdR c) (eD c.ts L kd f e st) (eD c.ts' L' kd f' (e + c.pre.length) st')
 | 0, f', e, st, st', hf, hs => mM (f0 hf (g := fun f => eD c.ts' L' kd f (e + c.pre.length)) rfl) rfl
 | f + 1, 0, e, st, st', hf, hs => mL (f1 hf) rfl
 | f + 1, f' + 1, e, st, st', hf, hs => by
  unfold eD;refine aj (aO HC hs (by decide)) fun b b' st st' hA hs => ?_;obtain rfl := hA;refine aL Iff.rfl (fun _ => ?_) (fun _ => ?_)
  · refine aj (jg HC hs e) fun sp sp' st st' _ hs => ?_;refine aj (HL.ty k _ _ hs) fun t t' st st' hA hs => ?_;obtain rfl := hA;refine aj (aD HC hs _ _ kd [] (kids := [e, t]) rfl) fun i i' st st' hA hs => ?_;obtain rfl := hA;exact nG HC HL kd f f' i _ _ (fs hf) hs
  · exact aZ hs rfl
theorem sO (HC : c.OK) {word : Bytes} {one one' : M Nat} (hw : word ≠ [105, 110]) (kd : Int) (h1 : Rel c k (IdR c) one one') : ∀ (f f' e : Nat) (st st' : PS), (c.ex → f' = f) → SR c k st st' → RR c k (IdR c) (jY c.ts word kd one f e st) (jY c.ts' word kd one' f' (e + c.pre.length) st')
 | 0, f', e, st, st', hf, hs => mM (f0 hf (g := fun f => jY c.ts' word kd one' f (e + c.pre.length)) rfl) rfl
 | f + 1, 0, e, st, st', hf, hs => mL (f1 hf) rfl
 | f + 1, f' + 1, e, st, st', hf, hs => by
  unfold jY;refine aj (aO HC hs hw) fun b b' st st' hA hs => ?_;obtain rfl := hA;refine aL Iff.rfl (fun _ => ?_) (fun _ => aZ hs rfl);refine aj (jg HC hs e) fun sp sp' st st' _ hs => ?_;refine aj (h1 _ _ hs) fun t t' st st' hA hs => ?_;obtain rfl := hA;refine aj (aD HC hs _ _ kd [] (kids := [e, t]) rfl) fun i i' st st' hA hs => ?_;obtain rfl := hA;exact sO HC hw kd h1 f f' i _ _ (fs hf) hs
theorem LsR.cons {l l' : List Nat} (h : LsR c l l') (i : Nat) : LsR c (i :: l) ((i + c.pre.length) :: l') := by
 subst h; rfl
theorem rJ (HC : c.OK) (HL : gI c L L') : Rel c k (IdR c) (eG c.ts L) (eG c.ts' L') := fun st st' hs => by
 unfold eG;refine bG (ak c.ts) (ak c.ts') ?_;refine aj (aO HC hs (by decide)) fun b b' st st' hA hs => ?_;obtain rfl := hA;refine aL Iff.rfl (fun _ => ?_) (fun _ => ?_)
 · refine aj (HL.exp k _ _ hs) fun a a' st st' hA hs => ?_;obtain rfl := hA;refine aj (bE HC hs) fun u u' st st' hA hs => ?_;obtain rfl := hA;refine aj (HL.exp k _ _ hs) fun b b' st st' hA hs => ?_;obtain rfl := hA;refine aj (bE HC hs) fun u u' st st' hA hs => ?_;obtain rfl := hA;refine aj (HL.exp k _ _ hs) fun d d' st st' hA hs => ?_;obtain rfl := hA;exact aD HC hs _ _ 23 [] (kids := [a, b, d]) rfl
 refine aj (aO HC hs (by decide)) fun b b' st st' hA hs => ?_;obtain rfl := hA;refine aL Iff.rfl (fun _ => ?_) (fun _ => ?_)
 · refine aj (HL.exp k _ _ hs) fun a a' st st' hA hs => ?_;obtain rfl := hA;refine aj (bE HC hs) fun u u' st st' hA hs => ?_;obtain rfl := hA;refine aj (HL.exp k _ _ hs) fun b b' st st' hA hs => ?_;obtain rfl := hA;exact aD HC hs _ _ 24 [] (kids := [a, b]) rfl
 refine aj (aO HC hs (by decide)) fun b b' st st' hA hs => ?_;obtain rfl := hA;refine aL Iff.rfl (fun _ => ?_) (fun _ => ?_)
 · refine aj (HL.exp k _ _ hs) fun a a' st st' hA hs => ?_;obtain rfl := hA;refine aj (bE HC hs) fun u u' st st' hA hs => ?_;obtain rfl := hA;refine aj (rQ HC HL _ _ hs) fun l l' st st' hl hs => aD HC hs _ _ 25 [] (hl.cons a)
 refine aj (aO HC hs (by decide)) fun b b' st st' hA hs => ?_;obtain rfl := hA;refine aL Iff.rfl (fun _ => ?_) (fun _ => ?_)
 · refine aj (rQ HC HL _ _ hs) fun l l' st st' hl hs => aD HC hs _ _ 26 [] hl
 refine aj (aO HC hs (by decide)) fun b b' st st' hA hs => ?_;obtain rfl := hA;refine aL Iff.rfl (fun _ => ?_) (fun _ => ?_)
 · refine aj (HL.exp k _ _ hs) fun a a' st st' hA hs => ?_;obtain rfl := hA;exact aD HC hs _ _ 22 [] (kids := [a]) rfl
 refine aj (Ec HC (KP HC HL) _ _ hs) fun e e' st st' hA hs => ?_;obtain rfl := hA;exact nG HC HL 18 _ _ e _ _ (len_eq HC) hs
theorem Bx (HC : c.OK) (HL : gI c L L') : Rel c k (IdR c) (nY c.ts L) (nY c.ts' L') := fun st st' hs => by
 unfold nY;refine aj (rJ HC HL _ _ hs) fun e e' st st' hA hs => ?_;obtain rfl := hA;exact sO HC (by decide) 19 (rJ HC HL) _ _ e _ _ (len_eq HC) hs
theorem Me (HC : c.OK) (HL : gI c L L') : Rel c k (IdR c) (Kiln.orM c.ts L) (Kiln.orM c.ts' L') := fun st st' hs => by
 unfold Kiln.orM;refine aj (Bx HC HL _ _ hs) fun e e' st st' hA hs => ?_;obtain rfl := hA;exact sO HC (by decide) 20 (Bx HC HL) _ _ e _ _ (len_eq HC) hs
theorem uR (HC : c.OK) (HL : gI c L L') : ∀ (f f' e : Nat) (st st' : PS), (c.ex → f' = f) → SR c k st st' → RR c k (IdR c) (gy c.ts L f e st) (gy c.ts' L' f' (e + c.pre.length) st')
 | 0, f', e, st, st', hf, hs => mM (f0 hf (g := fun f => gy c.ts' L' f (e + c.pre.length)) rfl) rfl
 | f + 1, 0, e, st, st', hf, hs => mL (f1 hf) rfl
 | f + 1, f' + 1, e, st, st', hf, hs => by
  unfold gy;refine aj (aO HC hs (by decide)) fun b b' st st' hA hs => ?_;obtain rfl := hA;refine aL Iff.rfl (fun _ => ?_) (fun _ => ?_)
  · refine aj (jg HC hs e) fun sp sp' st st' _ hs => ?_;refine aj (rQ HC HL _ _ hs) fun l l' st st' hl hs => ?_;refine aj (aD HC hs _ _ 21 [] (hl.cons e)) fun i i' st st' hA hs => ?_;obtain rfl := hA;exact uR HC HL f f' i _ _ (fs hf) hs
  · exact aZ hs rfl
theorem E9 (HC : c.OK) (HL : gI c L L') : Rel c k (IdR c) (Fa c.ts L) (Fa c.ts' L') := fun st st' hs => by
 unfold Fa;refine aj (iw HC hs) fun u u' st st' hA hs => ?_;obtain rfl := hA;refine aj (Me HC HL _ _ hs) fun e e' st st' hA hs => ?_;obtain rfl := hA;refine aj (uR HC HL _ _ e _ _ (len_eq HC) hs) fun i i' st st' hA hs => ?_;obtain rfl := hA;refine aj (gZ HC hs) fun u u' st st' hA hs => ?_;obtain rfl := hA;exact aZ hs rfl
theorem CJ (HC : c.OK) {st st' : PS} (hs : SR c k st st') {α β : Type} {B : α → β → Prop} {f : Bytes → M α} {f' : Bytes → M β} (h : RR c k B (f (dF c.ts st) st) (f' (dF c.ts st) st')) : RR c k B ((jm c.ts >>= f) st) ((jm c.ts' >>= f') st') := by
 have e1 := Ap HC hs;have e2 := Bb HC hs;cases ht : qd c.ts st
 · rw [ht] at e1;rw [dB (show jm c.ts st = .error .out by unfold jm; rw [ht]; rfl), dB (show jm c.ts' st' = .error .out by unfold jm; rw [e1]; rfl)];exact fun _ => ξQ
 · rw [ht] at e1;rw [bind_ok (show jm c.ts st = .ok (dF c.ts st, st) by unfold jm; rw [ht]; rfl), bind_ok (show jm c.ts' st' = .ok (dF c.ts st, st') by unfold jm; rw [e1, e2]; rfl)];exact h
theorem xQ (HC : c.OK) (HL : gI c L L') (sp sp' : Int × Int) : Rel c k (IdR c) (eT c.ts L sp) (eT c.ts' L' sp') := fun st st' hs => by
 unfold eT;refine CJ HC hs ?_;refine bG (isP c.ts 1 [61]) (isP c.ts' 1 [61]) ?_;refine aL ?_ (fun h => ?_) (fun _ => ?_)
 · cases hl : (dF c.ts st != [])
   · simp
   · have h1 := yE (ts := c.ts) (s := st) (by simpa using hl);rw [wE HC hs (by omega) (by decide)]
 · refine aj (kr HC hs) fun tx tx' st st' hA hs => ?_;obtain rfl := hA;refine aj (bX HC hs 1) fun u u' st st' hA hs => ?_;obtain rfl := hA;refine aj (HL.pat k _ _ hs) fun i i' st st' hA hs => ?_;obtain rfl := hA;exact aD HC hs _ _ 28 tx (kids := [i]) rfl
 refine bG (aB c.ts 0) (aB c.ts' 0) ?_;refine aL (by rw [jk HC hs hs.le]) (fun _ => ?_) (fun _ => ?_)
 · refine aL Iff.rfl (fun _ => ?_) (fun _ => dU);refine aj (bX HC hs 1) fun u u' st st' hA hs => ?_;obtain rfl := hA;exact dU
 refine aj (dI HC hs) fun tx tx' st st' hA hs => ?_;obtain rfl := hA;refine aj (aO HC hs (by decide)) fun b b' st st' hA hs => ?_;obtain rfl := hA;cases b
 · simp only [ξh, ↓reduceIte];refine Cj ?_;refine aj (aO HC hs (by decide)) fun b b' st st' hA hs => ?_;obtain rfl := hA;refine aL Iff.rfl (fun _ => ?_) (fun _ => ?_)
   · refine aj (HL.pat k _ _ hs) fun q q' st st' hA hs => ?_;obtain rfl := hA;refine Cj ?_;refine aj (aD HC hs _ _ 38 tx (kids := [q]) rfl) fun i i' st st' hA hs => ?_;obtain rfl := hA;exact aD HC hs _ _ 28 tx (kids := [i]) rfl
   · refine aj (aD HC hs _ _ 31 tx (kids := []) rfl) fun i i' st st' hA hs => ?_;obtain rfl := hA;refine Cj ?_;exact aD HC hs _ _ 28 tx (kids := [i]) rfl
 · simp only [↓reduceIte];refine aj (HL.ty k _ _ hs) fun t t' st st' hA hs => ?_;obtain rfl := hA;refine aj (aO HC hs (by decide)) fun b b' st st' hA hs => ?_;obtain rfl := hA;refine aL Iff.rfl (fun _ => ?_) (fun _ => ?_)
   · refine aj (HL.pat k _ _ hs) fun q q' st st' hA hs => ?_;obtain rfl := hA;refine aj (A := IdR c) (k := k) ?_ fun j j' st st' hA hs => ?_
     · refine aj (jg HC hs q) fun sp sp' st st' _ hs => ?_;exact aD HC hs _ _ 37 [] (kids := [q, t]) rfl
     · obtain rfl := hA;refine aj (aD HC hs _ _ 38 tx (kids := [j]) rfl) fun i i' st st' hA hs => ?_;obtain rfl := hA;exact aD HC hs _ _ 28 tx (kids := [i]) rfl
   · refine aj (aD HC hs _ _ 31 tx (kids := []) rfl) fun i i' st st' hA hs => ?_;obtain rfl := hA;refine aj (aD HC hs _ _ 37 [] (kids := [i, t]) rfl) fun j j' st st' hA hs => ?_;obtain rfl := hA;exact aD HC hs _ _ 28 tx (kids := [j]) rfl
theorem mS (HC : c.OK) (HL : gI c L L') : ∀ (f f' : Nat) (l l' : List Nat) (st st' : PS), (c.ex → f' = f) → LsR c l l' → SR c k st st' → RR c k (LsR c) (dN c.ts L f l st) (dN c.ts' L' f' l' st')
 | 0, f', l, l', st, st', hf, hl, hs => mM (f0 hf (g := fun f => dN c.ts' L' f l') rfl) rfl
 | f + 1, 0, l, l', st, st', hf, hl, hs => mL (f1 hf) rfl
 | f + 1, f' + 1, l, l', st, st', hf, hl, hs => by
  unfold dN;refine bG (ak c.ts) (ak c.ts') ?_;refine aj (aO HC hs (by decide)) fun b b' st st' hA hs => ?_;obtain rfl := hA;refine aL Iff.rfl (fun _ => ?_) (fun _ => ?_)
  · refine aj (aD HC hs _ _ 35 [] (kids := []) rfl) fun i i' st st' hA hs => ?_;obtain rfl := hA;refine aj (dG hs hl.len) fun u u' st st' hA hs => ?_;obtain rfl := hA;refine aj (bE HC hs) fun u u' st st' hA hs => ?_;obtain rfl := hA;exact aZ hs (hl.snoc i)
  · refine aj (xQ HC HL _ _ _ _ hs) fun i i' st st' hA hs => ?_;obtain rfl := hA;refine aj (dG hs hl.len) fun u u' st st' hA hs => ?_;obtain rfl := hA;refine aj (aO HC hs (by decide)) fun b b' st st' hA hs => ?_;obtain rfl := hA;refine aL Iff.rfl (fun _ => ?_) (fun _ => ?_)
    · exact mS HC HL f f' _ _ _ _ (fs hf) (hl.snoc i) hs
    · refine aj (bE HC hs) fun u u' st st' hA hs => ?_;obtain rfl := hA;exact aZ hs (hl.snoc i)
theorem vW (HC : c.OK) (HL : gI c L L') : Rel c k (LsR c) (dZ c.ts L) (dZ c.ts' L') := fun st st' hs => by
 unfold dZ;refine aj (aO HC hs (by decide)) fun b b' st st' hA hs => ?_;obtain rfl := hA;refine aL Iff.rfl (fun _ => ?_) (fun _ => ?_)
 · exact aZ hs rfl
 · exact mS HC HL _ _ [] [] _ _ (len_eq HC) rfl hs
theorem jy (HC : c.OK) (HL : gI c L L') : Rel c k (IdR c) (dD c.ts L) (dD c.ts' L') := fun st st' hs => by
 unfold dD;refine bG (ak c.ts) (ak c.ts') ?_;refine bG (aB c.ts 0) (aB c.ts' 0) ?_;refine aL (by rw [qG HC hs]) (fun h => ?_) (fun _ => ?_)
 · simp only [ξg] at h;have ht := BP HC hs h.1;rw [qG HC hs, ht.2.1];refine aj (bX HC hs 1) fun u u' st st' hA hs => ?_;obtain rfl := hA;exact aD HC hs _ _ _ _ (kids := []) rfl
 refine bG (bM c.ts 0) (bM c.ts' 0) ?_;rw [nN HC hs];refine aL Iff.rfl (fun h => ?_) (fun _ => ?_)
 · refine aj (bX HC hs _) fun u u' st st' hA hs => ?_;obtain rfl := hA;exact aD HC hs _ _ _ _ (kids := []) rfl
 refine aL (by rw [wD HC hs]) (fun h => kJ HC 31 _ _ hs) (fun _ => ?_);refine aj (aO HC hs (by decide)) fun b b' st st' hA hs => ?_;obtain rfl := hA;refine aL Iff.rfl (fun _ => ?_) (fun _ => ?_)
 · exact dU
 refine aj (aO HC hs (by decide)) fun b b' st st' hA hs => ?_;obtain rfl := hA;refine aL Iff.rfl (fun _ => ?_) (fun _ => ?_)
 · exact aD HC hs _ _ _ _ (kids := []) rfl
 refine aj (aO HC hs (by decide)) fun b b' st st' hA hs => ?_;obtain rfl := hA;refine aL Iff.rfl (fun _ => ?_) (fun _ => ?_)
 · refine aj (wB HC (by decide) (HL.pat k) _ _ hs) fun l l' st st' hl hs => ?_;refine aL (wm hl) (fun h => nU hs hl (by simpa using h)) (fun _ => aD HC hs _ _ 33 [] hl)
 refine aj (aO HC hs (by decide)) fun b b' st st' hA hs => ?_;obtain rfl := hA;refine aL Iff.rfl (fun _ => ?_) (fun _ => ?_)
 · refine aj (wB HC (by decide) (HL.pat k) _ _ hs) fun l l' st st' hl hs => aD HC hs _ _ 36 [] hl
 refine aj (aO HC hs (by decide)) fun b b' st st' hA hs => ?_;obtain rfl := hA;refine aL Iff.rfl (fun _ => ?_) (fun _ => ?_)
 · refine aj (vW HC HL _ _ hs) fun l l' st st' hl hs => aD HC hs _ _ 34 [] hl
 · exact dU
theorem Dh (HC : c.OK) (HL : gI c L L') : Rel c k (IdR c) (eC c.ts L) (eC c.ts' L') := fun st st' hs => by
 unfold eC;refine bG (ak c.ts) (ak c.ts') ?_;refine bG (aB c.ts 0) (aB c.ts' 0) ?_;refine bG (bM c.ts 0) (bM c.ts' 0) ?_;rw [nN HC hs];refine aL (by rw [wD HC hs]) (fun h => jy HC HL _ _ hs) (fun _ => ?_);refine aj (jy HC HL _ _ hs) fun a a' st st' hA hs => ?_;obtain rfl := hA;refine bG (cN c.ts) (cN c.ts') ?_;rw [uw HC hs];refine aL Iff.rfl (fun h => aZ hs rfl) (fun _ => ?_);refine aj (jy HC HL _ _ hs) fun b b' st st' hA hs => ?_;obtain rfl := hA;exact aD HC hs _ _ 32 [] (kids := [a, b]) rfl
theorem yx (HC : c.OK) (HL : gI c L L') : Rel c k (IdR c) (zh c.ts (eC c.ts L) false >>= fun i => eD c.ts L 37 (c.ts.length + 1) i) (zh c.ts' (eC c.ts' L') false >>= fun i => eD c.ts' L' 37 (c.ts'.length + 1) i) := fun st st' hs => by
 refine aj (Ec HC (Dh HC HL) _ _ hs) fun e e' st st' hA hs => ?_;obtain rfl := hA;exact nG HC HL 37 _ _ e _ _ (len_eq HC) hs
theorem zP (HC : c.OK) (HL : gI c L L') : Rel c k (IdR c) (fE c.ts L) (fE c.ts' L') := fun st st' hs => by
 unfold fE;refine bG (ak c.ts) (ak c.ts') ?_;refine bG (bM c.ts 0) (bM c.ts' 0) ?_;rw [nN HC hs];by_cases h0 : 0 < (bM c.ts 0 st).2
 · have hlt := l9 h0;simp only [h0, ↓reduceIte];refine bG (isP c.ts _ [97, 115]) (isP c.ts' _ [97, 115]) ?_;rw [wE HC hs (by omega) (by decide)];refine aL Iff.rfl (fun h => ?_) (fun _ => ?_)
   · refine aj (bX HC hs _) fun u u' st st' hA hs => ?_;obtain rfl := hA;refine aj (HL.pat k _ _ hs) fun i i' st st' hA hs => ?_;obtain rfl := hA;exact aD HC hs _ _ 38 _ (kids := [i]) rfl
   refine bG (isP c.ts _ [58]) (isP c.ts' _ [58]) ?_;rw [wE HC hs (by omega) (by decide)];refine aL Iff.rfl (fun h => ?_) (fun _ => yx HC HL _ _ hs);refine aj (bX HC hs _) fun u u' st st' hA hs => ?_;obtain rfl := hA;refine aj (HL.ty k _ _ hs) fun t t' st st' hA hs => ?_;obtain rfl := hA;refine aj (aO HC hs (by decide)) fun b b' st st' hA hs => ?_;obtain rfl := hA;refine aL Iff.rfl (fun _ => ?_) (fun _ => ?_)
   · refine aj (HL.pat k _ _ hs) fun q q' st st' hA hs => ?_;obtain rfl := hA;refine aj (jg HC hs q) fun sp sp' st st' _ hs => ?_;refine aj (aD HC hs _ _ 37 [] (kids := [q, t]) rfl) fun i i' st st' hA hs => ?_;obtain rfl := hA;exact aD HC hs _ _ 38 _ (kids := [i]) rfl
   · refine aj (aD HC hs _ _ 31 _ (kids := []) rfl) fun i i' st st' hA hs => ?_;obtain rfl := hA;refine aj (aD HC hs _ _ 37 [] (kids := [i, t]) rfl) fun j j' st st' hA hs => ?_;obtain rfl := hA;exact nG HC HL 37 _ _ j _ _ (len_eq HC) hs
 · simp only [h0, ↓reduceIte];refine Cj ?_;simp only [ξh, ↓reduceIte];refine Cj ?_;simp only [ξh, ↓reduceIte];exact yx HC HL _ _ hs
theorem Es (HC : c.OK) (HL : gI c L L') : Rel c k (IdR c) (Et c.ts L) (Et c.ts' L') := fun st st' hs => by
 unfold Et;refine aj (iw HC hs) fun u u' st st' hA hs => ?_;obtain rfl := hA;refine aj (zP HC HL _ _ hs) fun i i' st st' hA hs => ?_;obtain rfl := hA;refine aj (gZ HC hs) fun u u' st st' hA hs => ?_;obtain rfl := hA;exact aZ hs rfl
theorem qO (HC : c.OK) : Rel c k (IdR c) (iY c.ts) (iY c.ts') := fun st st' hs => by
 unfold iY;refine bG (ak c.ts) (ak c.ts') ?_;refine bG (aB c.ts 0) (aB c.ts' 0) ?_;refine aL (by rw [jL HC hs (by decide) (by decide)]) (fun h => ?_) (fun _ => dU);have ht := oP HC hs (by decide) h;rw [ht.2.1];refine aj (bX HC hs 1) fun u u' st st' hA hs => ?_;obtain rfl := hA;exact aD HC hs _ _ 40 _ (kids := []) rfl
theorem qQ (HC : c.OK) {args args' : List Nat} (ha : LsR c args args') : Rel c k (IdR c) (iZ c.ts args) (iZ c.ts' args') := fun st st' hs => by
 subst ha;unfold iZ;refine bG (ak c.ts) (ak c.ts') ?_;refine bG (aB c.ts 0) (aB c.ts' 0) ?_;refine bG (iC c.ts) (iC c.ts') ?_;rw [zx HC hs];have hk := jL HC hs (n := 2) (by decide) (by decide);refine aL (by simp only [bne, hk]) (fun _ => dU) (fun h => ?_);have ht := oP (n := 2) HC hs (by decide) (by
  simp only [ξj, not_or, ψa, ne_eq, Decidable.not_not] at h;simpa using h.1)
 rw [ht.2.1, ht.2.2];refine aj (A := Ng) (k := k) ?_ fun sp sp' st st' _ hs => ?_
 · cases args with
   | nil => exact aZ hs ξQ
   | cons a r => exact jg HC hs a
 · refine aj (bX HC hs 1) fun u u' st st' hA hs => ?_;obtain rfl := hA;refine aj (aD HC hs _ _ 41 _ (kids := args) rfl) fun i i' st st' hA hs => ?_;obtain rfl := hA;refine aj (vU hs _ _) fun u u' st st' hA hs => ?_;obtain rfl := hA;exact aZ hs rfl
theorem Ip (HC : c.OK) (HL : gI c L L') : Rel c k (IdR c) (qg c.ts L) (qg c.ts' L') := fun st st' hs => by
 unfold qg;refine bG (ak c.ts) (ak c.ts') ?_;refine bG (aB c.ts 0) (aB c.ts' 0) ?_;refine aL (by rw [jL HC hs (by decide) (by decide)]) (fun h => qO HC _ _ hs) (fun _ => ?_);refine aL (by rw [jL HC hs (by decide) (by decide)]) (fun h => qQ HC (args := []) rfl _ _ hs) (fun _ => ?_);refine aj (aO HC hs (by decide)) fun b b' st st' hA hs => ?_;obtain rfl := hA;refine aL Iff.rfl (fun _ => ?_) (fun _ => ?_)
 · refine aj (uX HC (HL.ty k) _ _ hs) fun l l' st st' hl hs => aD HC hs _ _ 43 [] hl
 refine aj (aO HC hs (by decide)) fun b b' st st' hA hs => ?_;obtain rfl := hA;refine aL Iff.rfl (fun _ => ?_) (fun _ => ?_)
 · refine aj (cW HC (by decide) (HL.ty k) _ _ hs) fun l l' st st' hl hs => ?_;refine aj (bE HC hs) fun u u' st st' hA hs => ?_;obtain rfl := hA;refine aL (wm hl) (fun h => nU hs hl (by simpa using h)) (fun _ => qQ HC hl _ _ hs)
 · exact dU
theorem pV (HC : c.OK) : ∀ (f f' e : Nat) (st st' : PS), (c.ex → f' = f) → SR c k st st' → RR c k (IdR c) (gV c.ts f e st) (gV c.ts' f' (e + c.pre.length) st')
 | 0, f', e, st, st', hf, hs => mM (f0 hf (g := fun f => gV c.ts' f (e + c.pre.length)) rfl) rfl
 | f + 1, 0, e, st, st', hf, hs => mL (f1 hf) rfl
 | f + 1, f' + 1, e, st, st', hf, hs => by
  unfold gV;refine bG (aB c.ts 0) (aB c.ts' 0) ?_;refine bG (iC c.ts) (iC c.ts') ?_;rw [zx HC hs];refine aL (by rw [jL HC hs (by decide) (by decide)]) (fun h => ?_) (fun _ => aZ hs rfl);refine aj (qQ HC (args := [e]) rfl _ _ hs) fun i i' st st' hA hs => ?_;obtain rfl := hA;exact pV HC f f' i _ _ (fs hf) hs
theorem tF (HC : c.OK) (HL : gI c L L') : Rel c k (IdR c) (dL c.ts L) (dL c.ts' L') := fun st st' hs => by
 unfold dL;refine aj (Ip HC HL _ _ hs) fun i i' st st' hA hs => ?_;obtain rfl := hA;exact pV HC _ _ i _ _ (len_eq HC) hs
theorem pE (HC : c.OK) (HL : gI c L L') : ∀ (f f' : Nat) (l l' : List Nat) (st st' : PS), (c.ex → f' = f) → Gh c l l' → SR c k st st' → RR c k (Gh c) (eF c.ts L f l st) (eF c.ts' L' f' l' st')
 | 0, f', l, l', st, st', hf, hl, hs => mM (f0 hf (g := fun f => eF c.ts' L' f l') rfl) rfl
 | f + 1, 0, l, l', st, st', hf, hl, hs => mL (f1 hf) rfl
 | f + 1, f' + 1, l, l', st, st', hf, hl, hs => by
  unfold eF;refine bG (iC c.ts) (iC c.ts') ?_;rw [zx HC hs];refine aL Iff.rfl (fun h => ?_) (fun _ => aZ hs hl);refine aj (bX HC hs 1) fun u u' st st' hA hs => ?_;obtain rfl := hA;refine aj (tF HC HL _ _ hs) fun i i' st st' hA hs => ?_;obtain rfl := hA;refine aj (dG hs hl.1.len) fun u u' st st' hA hs => ?_;obtain rfl := hA;exact pE HC HL f f' _ _ _ _ (fs hf) ⟨hl.1.snoc i, by simp⟩ hs
theorem zH (HC : c.OK) (HL : gI c L L') : Rel c k (IdR c) (fC c.ts L) (fC c.ts' L') := fun st st' hs => by
 unfold fC;refine aj (tF HC HL _ _ hs) fun i i' st st' hA hs => ?_;obtain rfl := hA;refine aj (pE HC HL _ _ [i] _ _ _ (len_eq HC) ⟨rfl, by simp⟩ hs) fun l l' st st' hl hs => ?_;refine aL (wm hl.1) (fun h => nU hs hl.1 (by simpa using h)) (fun _ => ?_);obtain ⟨hl, h1⟩ := hl;have e : l'.getD 0 0 = l.getD 0 0 + c.pre.length := by subst hl; exact getD_map (by omega)
 rw [e];refine aj (jg HC hs _) fun sp sp' st st' _ hs => ?_;exact aD HC hs _ _ 42 [] hl
theorem IC (HC : c.OK) (HL : gI c L L') : Rel c k (IdR c) (tyM c.ts L) (tyM c.ts' L') := fun st st' hs => by
 unfold tyM;refine aj (iw HC hs) fun u u' st st' hA hs => ?_;obtain rfl := hA;refine aj (zH HC HL _ _ hs) fun i i' st st' hA hs => ?_;obtain rfl := hA;refine aj (A := IdR c) (k := k) ?_ fun j j' st st' hA hs => ?_
 · refine aj (aO HC hs (by decide)) fun b b' st st' hA hs => ?_;obtain rfl := hA;refine aL Iff.rfl (fun _ => ?_) (fun _ => ?_)
   · refine aj (jg HC hs i) fun sp sp' st st' _ hs => ?_;refine aj (HL.ty k _ _ hs) fun t t' st st' hA hs => ?_;obtain rfl := hA;exact aD HC hs _ _ 44 [] (kids := [i, t]) rfl
   · exact aZ hs rfl
 · refine aj (gZ HC hs) fun u u' st st' hA hs => ?_;obtain rfl := hA;exact aZ hs hA
theorem BH (HC : c.OK) (HL : gI c L L') : Rel c k (IdR c) (bindM c.ts L) (bindM c.ts' L') := fun st st' hs => by
 unfold bindM;refine aj (HL.pat k _ _ hs) fun a a' st st' hA hs => ?_;obtain rfl := hA;refine aj (bE HC hs) fun u u' st st' hA hs => ?_;obtain rfl := hA;refine aj (HL.exp k _ _ hs) fun e e' st st' hA hs => ?_;obtain rfl := hA;refine aj (jg HC hs a) fun sp sp' st st' _ hs => ?_;exact aD HC hs _ _ 53 [] (kids := [a, e]) rfl
theorem jP (HC : c.OK) : Rel c k (LsR c) (fU c.ts) (fU c.ts') := fun st st' hs => by
 unfold fU;refine bG (aB c.ts 0) (aB c.ts' 0) ?_;refine aL (by rw [jL HC hs (by decide) (by decide)]) (fun h => ?_) (fun _ => ?_)
 · refine aj (qO HC _ _ hs) fun i i' st st' hA hs => ?_;obtain rfl := hA;exact aZ hs rfl
 refine bG (isP c.ts 0 [40]) (isP c.ts' 0 [40]) ?_;rw [jI HC hs (by decide)];refine aL Iff.rfl (fun h => aZ hs rfl) (fun _ => ?_);refine aj (bX HC hs 1) fun u u' st st' hA hs => ?_;obtain rfl := hA;refine aj (cW HC (by decide) (qO HC) _ _ hs) fun l l' st st' hl hs => ?_;refine aj (bE HC hs) fun u u' st st' hA hs => ?_;obtain rfl := hA;exact aZ hs hl
theorem tP (HC : c.OK) (HL : gI c L L') : Rel c k (IdR c) (gM c.ts L) (gM c.ts' L') := fun st st' hs => by
 unfold gM;refine bG (ak c.ts) (ak c.ts') ?_;refine aj (jP HC _ _ hs) fun l l' st st' hl hs => ?_;refine aj (dI HC hs) fun n n' st st' hA hs => ?_;obtain rfl := hA;refine aj (bE HC hs) fun u u' st st' hA hs => ?_;obtain rfl := hA;refine aj (HL.ty k _ _ hs) fun t t' st st' hA hs => ?_;obtain rfl := hA;refine aj (dG hs hl.len) fun u u' st st' hA hs => ?_;obtain rfl := hA;exact aD HC hs _ _ 59 n (hl.snoc t)
theorem sQ (HC : c.OK) (HL : gI c L L') (sp sp' : Int × Int) (n : Bytes) : Rel c k (IdR c) (kT c.ts L sp n) (kT c.ts' L' sp' n) := fun st st' hs => by
 unfold kT;refine aj (aO HC hs (by decide)) fun b b' st st' hA hs => ?_;obtain rfl := hA;refine aL Iff.rfl (fun _ => ?_) (fun _ => ?_)
 · refine aj (HL.ty k _ _ hs) fun t t' st st' hA hs => ?_;obtain rfl := hA;exact aD HC hs _ _ 62 n (kids := [t]) rfl
 · exact aD HC hs _ _ 62 n (kids := []) rfl
theorem Ft (HC : c.OK) (HL : gI c L L') : Rel c k (IdR c) (Dr c.ts L) (Dr c.ts' L') := fun st st' hs => by
 unfold Dr;refine bG (ak c.ts) (ak c.ts') ?_;refine aj (aO HC hs (by decide)) fun b b' st st' hA hs => ?_;obtain rfl := hA;refine aj (dI HC hs) fun n n' st st' hA hs => ?_;obtain rfl := hA;exact sQ HC HL _ _ n _ _ hs
theorem sJ (HC : c.OK) (HL : gI c L L') : Rel c k (IdR c) (eM c.ts L) (eM c.ts' L') := fun st st' hs => by
 unfold eM;refine bG (ak c.ts) (ak c.ts') ?_;refine aj (jP HC _ _ hs) fun l l' st st' hl hs => ?_;refine aj (dI HC hs) fun n n' st st' hA hs => ?_;obtain rfl := hA;refine aj (bE HC hs) fun u u' st st' hA hs => ?_;obtain rfl := hA;refine aj (Ft HC HL _ _ hs) fun t t' st st' hA hs => ?_;obtain rfl := hA;refine aj (dG hs hl.len) fun u u' st st' hA hs => ?_;obtain rfl := hA;refine aj (jG HC (by decide) (Ft HC HL) _ _ _ _ _ _ (len_eq HC) (hl.snoc t) hs) fun l l' st st' hl hs => ?_;exact aD HC hs _ _ 61 n hl
theorem yQ (HC : c.OK) (HL : gI c L L') (sp sp' : Int × Int) : Rel c k (IdR c) (fB c.ts L sp) (fB c.ts' L' sp') := fun st st' hs => by
 unfold fB;refine bG (aB c.ts 0) (aB c.ts' 0) ?_;refine bG (isP c.ts 1 [61]) (isP c.ts' 1 [61]) ?_;refine bG (isP c.ts 2 [100, 97, 116, 97, 116, 121, 112, 101]) (isP c.ts' 2 [100, 97, 116, 97, 116, 121, 112, 101]) ?_;refine aL ?_ (fun h => ?_) (fun _ => ?_)
 · rw [jk HC hs hs.le];cases hn : cJ (aB c.ts 0 st)
   · simp
   · have h1 := gT hn;rw [wE HC hs (by omega) (by decide)];cases he : isP c.ts 1 [61] st
     · simp
     · have h2 := rZ he;rw [wE HC hs (by omega) (by decide)]
 · refine aj (dI HC hs) fun n n' st st' hA hs => ?_;obtain rfl := hA;refine aj (bX HC hs 2) fun u u' st st' hA hs => ?_;obtain rfl := hA;refine aj (kJ HC 41 _ _ hs) fun i i' st st' hA hs => ?_;obtain rfl := hA;exact aD HC hs _ _ 63 n (kids := [i]) rfl
 · refine aj (cW HC (by decide) (sJ HC HL) _ _ hs) fun l l' st st' hl hs => aD HC hs _ _ 60 [] hl
theorem CQ (HC : c.OK) (HL : gI c L L') : Rel c k (IdR c) (jr c.ts L) (jr c.ts' L') := fun st st' hs => by
 unfold jr;refine bG (ak c.ts) (ak c.ts') ?_;refine aj (aO HC hs (by decide)) fun b b' st st' hA hs => ?_;obtain rfl := hA;refine aj (dI HC hs) fun n n' st st' hA hs => ?_;obtain rfl := hA;refine aj (aO HC hs (by decide)) fun b b' st st' hA hs => ?_;obtain rfl := hA;refine aL Iff.rfl (fun _ => ?_) (fun _ => ?_)
 · refine aj (aO HC hs (by decide)) fun b b' st st' hA hs => ?_;obtain rfl := hA;refine aj (kJ HC 10 _ _ hs) fun i i' st st' hA hs => ?_;obtain rfl := hA;exact aD HC hs _ _ 65 n (kids := [i]) rfl
 · exact sQ HC HL _ _ n _ _ hs
theorem tC (HC : c.OK) (HL : gI c L L') : ∀ (f f' : Nat) (l l' : List Nat) (st st' : PS), (c.ex → f' = f) → Gh c l l' → SR c k st st' → RR c k (Gh c) (fA c.ts L f l st) (fA c.ts' L' f' l' st')
 | 0, f', l, l', st, st', hf, hl, hs => mM (f0 hf (g := fun f => fA c.ts' L' f l') rfl) rfl
 | f + 1, 0, l, l', st, st', hf, hl, hs => mL (f1 hf) rfl
 | f + 1, f' + 1, l, l', st, st', hf, hl, hs => by
  unfold fA;refine bG (cN c.ts) (cN c.ts') ?_;rw [uw HC hs];refine aL Iff.rfl (fun h => ?_) (fun _ => aZ hs hl);refine aj (jy HC HL _ _ hs) fun i i' st st' hA hs => ?_;obtain rfl := hA;refine aj (dG hs hl.1.len) fun u u' st st' hA hs => ?_;obtain rfl := hA;exact tC HC HL f f' _ _ _ _ (fs hf) ⟨hl.1.snoc i, by simp⟩ hs
def NmR (c : Cf) (q q' : Bytes × Nat) : Prop := q' = (q.1, q.2 + c.pre.length)
theorem C0 (HC : c.OK) (HL : gI c L L') : Rel c k (IdR c) (gN c.ts L) (gN c.ts' L') := fun st st' hs => by
 unfold gN;refine bG (ak c.ts) (ak c.ts') ?_;refine bG (bM c.ts 0) (bM c.ts' 0) ?_;rw [nN HC hs];refine bG (aB c.ts 1) (aB c.ts' 1) ?_;refine bG (cO (aB c.ts 1 st)) (cO (aB c.ts' 1 st')) ?_;refine aj (A := NmR c) (k := k) ?_ fun q q' st st' hA hs => ?_
 · refine aL ?_ (fun h => ?_) (fun _ => ?_)
   · by_cases h1 : (bM c.ts 0 st).2 = 1
     · have h2 := l9 (ts := c.ts) (st := st) (j := 0) (by omega);rw [mE HC hs (by omega)]
     · have h3 : ((bM c.ts 0 st).2 == 1) = false := by simpa using h1
       rw [h3];simp
   · refine aj (bX HC hs _) fun u u' st st' hA hs => ?_;obtain rfl := hA;refine aj (jy HC HL _ _ hs) fun a a' st st' hA hs => ?_;obtain rfl := hA;refine aj (tC HC HL _ _ [a] _ _ _ (len_eq HC) ⟨rfl, by simp⟩ hs) fun l l' st st' hl hs => ?_;obtain ⟨hl, h1⟩ := hl;have e : l'.getD 0 0 = l.getD 0 0 + c.pre.length := by subst hl; exact getD_map (by omega)
     rw [e];refine aj (jg HC hs _) fun sp sp' st st' _ hs => ?_;refine aj (aD HC hs _ _ 57 [] hl) fun i i' st st' hA hs => ?_;obtain rfl := hA;exact aZ hs rfl
   · refine bG (isP c.ts 0 [111, 112]) (isP c.ts' 0 [111, 112]) ?_;rw [jI HC hs (by decide)];refine aL Iff.rfl (fun h => ?_) (fun _ => ?_)
     · refine aj (bX HC hs 1) fun u u' st st' hA hs => ?_;obtain rfl := hA;exact dU
     · refine aj (jy HC HL _ _ hs) fun a a' st st' hA hs => ?_;obtain rfl := hA;refine bG (ak c.ts) (ak c.ts') ?_;refine bG (aB c.ts 0) (aB c.ts' 0) ?_;refine bG (cO _) (cO _) ?_;rw [mE HC hs hs.le];refine aL Iff.rfl (fun h => dU) (fun _ => ?_);refine aj (dI HC hs) fun tx tx' st st' hA hs => ?_;obtain rfl := hA;refine aj (jy HC HL _ _ hs) fun b b' st st' hA hs => ?_;obtain rfl := hA;refine aj (aD HC hs _ _ 33 [] (kids := [a, b]) rfl) fun i i' st st' hA hs => ?_;obtain rfl := hA;refine aj (aD HC hs _ _ 57 [] (kids := [i]) rfl) fun j j' st st' hA hs => ?_;obtain rfl := hA;exact aZ hs rfl
 · obtain rfl := hA;refine aj (aO HC hs (by decide)) fun b b' st st' hA hs => ?_;obtain rfl := hA;refine aL Iff.rfl (fun _ => ?_) (fun _ => ?_)
   · refine aj (HL.ty k _ _ hs) fun t t' st st' hA hs => ?_;obtain rfl := hA;refine aj (bE HC hs) fun u u' st st' hA hs => ?_;obtain rfl := hA;refine aj (HL.exp k _ _ hs) fun e e' st st' hA hs => ?_;obtain rfl := hA;exact aD HC hs _ _ 56 _ (kids := [q.2, e, t]) rfl
   · refine aj (bE HC hs) fun u u' st st' hA hs => ?_;obtain rfl := hA;refine aj (HL.exp k _ _ hs) fun e e' st st' hA hs => ?_;obtain rfl := hA;exact aD HC hs _ _ 56 _ (kids := [q.2, e]) rfl
theorem Ka (HC : c.OK) (HL : gI c L L') : Rel c k (IdR c) (EZ c.ts L) (EZ c.ts' L') := fun st st' hs => by
 unfold EZ;refine bG (ak c.ts) (ak c.ts') ?_;refine aj (cW HC (by decide) (C0 HC HL) _ _ hs) fun l l' st st' hl hs => aD HC hs _ _ 55 [] hl
def Nk (c : Cf) (x x' : Nat × Nat × Names) : Prop := x' = (x.1 + c.pre.length, x.2.1 + c.pre.length, x.2.2)
def Nj (c : Cf) (x x' : Nat × Names) : Prop := x' = (x.1 + c.pre.length, x.2)
theorem EN (HC : c.OK) (HL : gI c L L') (sp sp' : Int × Int) : Rel c k (IdR c) (localM c.ts L sp) (localM c.ts' L' sp') := fun st st' hs => by
 unfold localM;refine aj (lK (A := Nk c) hs ?_) fun x x' st st' hA hs => ?_
 · have hs := hs.push;refine aj (HL.decs _ _ _ hs) fun a a' st st' hA hs => ?_;obtain rfl := hA;refine aj (bE HC hs) fun u u' st st' hA hs => ?_;obtain rfl := hA;refine aj (lK (A := Nj c) hs ?_) fun y y' st st' hA hs => ?_
   · have hs := hs.push;refine aj (HL.decs _ _ _ hs) fun b b' st st' hA hs => ?_;obtain rfl := hA;refine bG (fun s => s.sc.headD []) (fun s => s.sc.headD []) ?_;rw [hs.head];exact aZ hs rfl
   · obtain rfl := hA;refine aj (bE HC hs) fun u u' st st' hA hs => ?_;obtain rfl := hA;exact aZ hs rfl
 · obtain rfl := hA;refine aj (yp HC hs _) fun u u' st st' hA hs => ?_;obtain rfl := hA;exact aD HC hs _ _ 66 [] (kids := [x.1, x.2.1]) rfl
theorem qC (HC : c.OK) (sp sp' : Int × Int) (text : Bytes) (fx : Fx) : ∀ (f f' : Nat) (l l' : List Nat) (st st' : PS), (c.ex → f' = f) → LsR c l l' → SR c k st st' → RR c k (IdR c) (uU c.ts sp text fx f l st) (uU c.ts' sp' text fx f' l' st')
 | 0, f', l, l', st, st', hf, hl, hs => mM (f0 hf (g := fun f => uU c.ts' sp' text fx f l') rfl) rfl
 | f + 1, 0, l, l', st, st', hf, hl, hs => mL (f1 hf) rfl
 | f + 1, f' + 1, l, l', st, st', hf, hl, hs => by
  unfold uU;refine bG (ak c.ts) (ak c.ts') ?_;refine aj (dI HC hs) fun n n' st st' hA hs => ?_;obtain rfl := hA;refine aj (yp HC hs _) fun u u' st st' hA hs => ?_;obtain rfl := hA;refine aj (aD HC hs _ _ 31 n (kids := []) rfl) fun i i' st st' hA hs => ?_;obtain rfl := hA;refine aj (dG hs hl.len) fun u u' st st' hA hs => ?_;obtain rfl := hA;refine bG (aB c.ts 0) (aB c.ts' 0) ?_;refine aL (by rw [jk HC hs hs.le]) (fun _ => aD HC hs _ _ 68 text (hl.snoc i)) (fun _ => ?_);exact qC HC sp sp' text fx f f' _ _ _ _ (fs hf) (hl.snoc i) hs
theorem wM (HC : c.OK) (sp sp' : Int × Int) (word : Bytes) : Rel c k (IdR c) (eu c.ts sp word) (eu c.ts' sp' word) := fun st st' hs => by
 unfold eu;refine aL Iff.rfl (fun _ => ?_) (fun _ => qC HC _ _ _ _ _ _ [] [] _ _ (len_eq HC) rfl hs);refine bG (aB c.ts 0) (aB c.ts' 0) ?_;refine aL ?_ (fun h => ?_) (fun _ => qC HC _ _ _ _ _ _ [] [] _ _ (len_eq HC) rfl hs)
 · rw [jL HC hs (by decide) (by decide)];cases h4 : (aB c.ts 0 st).kind == 4
   · simp
   · rw [(oP HC hs (by decide) h4).2.1]
 · have ht : TE (aB c.ts 0 st) (aB c.ts' 0 st') := oP (n := 4) HC hs (by decide) (by
    simp only [ξg] at h;exact h.1)
   rw [ht.2.1];refine aj (bX HC hs 1) fun u u' st st' hA hs => ?_;obtain rfl := hA;exact qC HC _ _ _ _ _ _ [] [] _ _ (len_eq HC) rfl hs
theorem uy (HC : c.OK) : ∀ (f f' : Nat) (l l' : List Nat) (st st' : PS), (c.ex → f' = f) → LsR c l l' → SR c k st st' → RR c k (LsR c) (jF c.ts f l st) (jF c.ts' f' l' st')
 | 0, f', l, l', st, st', hf, hl, hs => mM (f0 hf (g := fun f => jF c.ts' f l') rfl) rfl
 | f + 1, 0, l, l', st, st', hf, hl, hs => mL (f1 hf) rfl
 | f + 1, f' + 1, l, l', st, st', hf, hl, hs => by
  unfold jF;refine bG (aB c.ts 0) (aB c.ts' 0) ?_;refine aL (by rw [jL HC hs (by decide) (by decide)]) (fun h => ?_) (fun _ => aZ hs hl);refine aj (kJ HC 81 _ _ hs) fun i i' st st' hA hs => ?_;obtain rfl := hA;refine aj (dG hs hl.len) fun u u' st st' hA hs => ?_;obtain rfl := hA;exact uy HC f f' _ _ _ _ (fs hf) (hl.snoc i) hs
theorem rN (HC : c.OK) (HL : gI c L L') (sign : Bytes) : Rel c k (IdR c) (fO c.ts L sign) (fO c.ts' L' sign) := fun st st' hs => by
 unfold fO;refine bG (ak c.ts) (ak c.ts') ?_;refine aj (dI HC hs) fun n n' st st' hA hs => ?_;obtain rfl := hA;refine aj (bE HC hs) fun u u' st st' hA hs => ?_;obtain rfl := hA;refine aj (HL.sig k _ _ hs) fun g g' st st' hA hs => ?_;obtain rfl := hA;exact aD HC hs _ _ 72 n (kids := [g]) rfl
theorem BA (HC : c.OK) (HL : gI c L L') : Rel c k (IdR c) (sW c.ts L) (sW c.ts' L') := fun st st' hs => by
 unfold sW;refine aj (A := EqR) (k := k) ?_ fun kd kd' st st' hA hs => ?_
 · refine aj (aO HC hs (by decide)) fun b b' st st' hA hs => ?_;obtain rfl := hA;refine aL Iff.rfl (fun _ => ?_) (fun _ => ?_)
   · exact aZ hs rfl
   refine aj (aO HC hs (by decide)) fun b b' st st' hA hs => ?_;obtain rfl := hA;refine aL Iff.rfl (fun _ => ?_) (fun _ => ?_)
   · exact aZ hs rfl
   · exact aZ hs rfl
 · obtain rfl := hA;by_cases h0 : (kd != 0) = true
   · simp only [h0, ↓reduceIte];refine aj (HL.sig k _ _ hs) fun g g' st st' hA hs => ?_;obtain rfl := hA;refine aj (bE HC hs) fun u u' st st' hA hs => ?_;obtain rfl := hA;refine aj (HL.str k _ _ hs) fun i i' st st' hA hs => ?_;obtain rfl := hA;refine aj (jg HC hs i) fun sp sp' st st' _ hs => ?_;exact aD HC hs _ _ kd [] (kids := [i, g]) rfl
   · simp only [h0, ↓reduceIte];refine Cj ?_;refine aj (bE HC hs) fun u u' st st' hA hs => ?_;obtain rfl := hA;refine aj (HL.str k _ _ hs) fun i i' st st' hA hs => ?_;obtain rfl := hA;exact aZ hs rfl
theorem zq (HC : c.OK) (HL : gI c L L') : Rel c k (IdR c) (fZ c.ts L) (fZ c.ts' L') := fun st st' hs => by
 unfold fZ;refine bG (ak c.ts) (ak c.ts') ?_;refine aj (dI HC hs) fun n n' st st' hA hs => ?_;obtain rfl := hA;refine aj (BA HC HL _ _ hs) fun g g' st st' hA hs => ?_;obtain rfl := hA;exact aD HC hs _ _ 70 n (kids := [g]) rfl
theorem zS (HC : c.OK) (HL : gI c L L') : Rel c k (IdR c) (gA c.ts L) (gA c.ts' L') := fun st st' hs => by
 unfold gA;refine bG (ak c.ts) (ak c.ts') ?_;refine aj (dI HC hs) fun n n' st st' hA hs => ?_;obtain rfl := hA;refine aj (bE HC hs) fun u u' st st' hA hs => ?_;obtain rfl := hA;refine aj (rN HC HL _ _ _ hs) fun x x' st st' hA hs => ?_;obtain rfl := hA;refine aj (bE HC hs) fun u u' st st' hA hs => ?_;obtain rfl := hA;refine aj (BA HC HL _ _ hs) fun g g' st st' hA hs => ?_;obtain rfl := hA;exact aD HC hs _ _ 74 n (kids := [x, g]) rfl
theorem Fp (HC : c.OK) (HL : gI c L L') : Rel c k (IdR c) (Fq c.ts L) (Fq c.ts' L') := fun st st' hs => by
 unfold Fq;refine bG (ak c.ts) (ak c.ts') ?_;refine bG (aB c.ts 0) (aB c.ts' 0) ?_;rcases hs.tok0 HC with ht | ht;rotate_left
 · refine aj (A := fun _ _ => False) (k := k) ?_ fun _ _ _ _ h _ => h.elim;rw [show cu c.ts 1 st = .error .out from by unfold cu; rw [ψh (by have := ht.2.1; omega)]];exact gW ht.1
 rw [ht.2.1];refine aj (bX HC hs 1) fun u u' st st' hA hs => ?_;obtain rfl := hA;refine aL Iff.rfl (fun _ => ?_) (fun _ => ?_)
 · refine aj (aO HC hs (by decide)) fun b b' st st' hA hs => ?_;obtain rfl := hA;refine aL Iff.rfl (fun _ => ?_) (fun _ => ?_)
   · refine aj (cW HC (by decide) (BH HC HL) _ _ hs) fun l l' st st' hl hs => aD HC hs _ _ 52 [] hl
   · refine aj (cW HC (by decide) (BH HC HL) _ _ hs) fun l l' st st' hl hs => aD HC hs _ _ 51 [] hl
 refine aL Iff.rfl (fun _ => ?_) (fun _ => ?_)
 · refine aj (cW HC (by decide) (Ka HC HL) _ _ hs) fun l l' st st' hl hs => aD HC hs _ _ 54 [] hl
 refine aL Iff.rfl (fun _ => ?_) (fun _ => ?_)
 · refine aj (cW HC (by decide) (tP HC HL) _ _ hs) fun l l' st st' hl hs => aD HC hs _ _ 58 [] hl
 refine aL Iff.rfl (fun _ => yQ HC HL _ _ _ _ hs) (fun _ => ?_);refine aL Iff.rfl (fun _ => ?_) (fun _ => ?_)
 · refine aj (cW HC (by decide) (CQ HC HL) _ _ hs) fun l l' st st' hl hs => aD HC hs _ _ 64 [] hl
 refine aL Iff.rfl (fun _ => EN HC HL _ _ _ _ hs) (fun _ => ?_);refine aL Iff.rfl (fun _ => ?_) (fun _ => ?_)
 · refine aj (kJ HC 81 _ _ hs) fun i i' st st' hA hs => ?_;obtain rfl := hA;refine aj (uy HC _ _ [i] _ _ _ (len_eq HC) rfl hs) fun l l' st st' hl hs => aD HC hs _ _ 67 [] hl
 refine aL Iff.rfl (fun _ => ?_) (fun _ => ?_)
 · refine aj (cW HC (by decide) (zq HC HL) _ _ hs) fun l l' st st' hl hs => aD HC hs _ _ 69 [] hl
 refine aL Iff.rfl (fun _ => ?_) (fun _ => ?_)
 · refine aj (cW HC (by decide) (rN HC HL _) _ _ hs) fun l l' st st' hl hs => aD HC hs _ _ 71 [] hl
 refine aL Iff.rfl (fun _ => ?_) (fun _ => ?_)
 · refine aj (cW HC (by decide) (zS HC HL) _ _ hs) fun l l' st st' hl hs => aD HC hs _ _ 73 [] hl
 exact wM HC _ _ _ _ _ hs
theorem sH (HC : c.OK) (HL : gI c L L') (sp sp' : Int × Int) : ∀ (f f' : Nat) (l l' : List Nat) (st st' : PS), (c.ex → f' = f) → LsR c l l' → SR c k st st' → RR c k (IdR c) (kW c.ts L sp f l st) (kW c.ts' L' sp' f' l' st')
 | 0, f', l, l', st, st', hf, hl, hs => mM (f0 hf (g := fun f => kW c.ts' L' sp' f l') rfl) rfl
 | f + 1, 0, l, l', st, st', hf, hl, hs => mL (f1 hf) rfl
 | f + 1, f' + 1, l, l', st, st', hf, hl, hs => by
  unfold kW;refine aj (aO HC hs (by decide)) fun b b' st st' hA hs => ?_;obtain rfl := hA;refine aL Iff.rfl (fun _ => ?_) (fun _ => ?_)
  · exact sH HC HL sp sp' f f' _ _ _ _ (fs hf) hl hs
  refine bG (aB c.ts 0) (aB c.ts' 0) ?_;refine aL (by rw [sZ HC hs]) (fun _ => ?_) (fun _ => aD HC hs _ _ 50 [] hl);refine aj (iw HC hs) fun u u' st st' hA hs => ?_;obtain rfl := hA;refine aj (Fp HC HL _ _ hs) fun i i' st st' hA hs => ?_;obtain rfl := hA;refine aj (dG hs hl.len) fun u u' st st' hA hs => ?_;obtain rfl := hA;refine aj (gZ HC hs) fun u u' st st' hA hs => ?_;obtain rfl := hA;exact sH HC HL sp sp' f f' _ _ _ _ (fs hf) (hl.snoc i) hs
theorem qF (HC : c.OK) (HL : gI c L L') : Rel c k (IdR c) (mO c.ts L) (mO c.ts' L') := fun st st' hs => by
 unfold mO;refine bG (ak c.ts) (ak c.ts') ?_;exact sH HC HL _ _ _ _ [] [] _ _ (len_eq HC) rfl hs
theorem tY (HL : gI c L L') : Rel c k (IdR c) (iD L) (iD L') := fun st st' hs => lK hs (HL.decs _ _ _ hs.push)
def PrR (c : Cf) (x x' : Nat × Nat) : Prop := x' = (x.1 + c.pre.length, x.2 + c.pre.length)
theorem xw {x : Bytes} (HC : c.OK) {st st' : PS} (hs : SR c k st st') (hin : x ≠ [105, 110]) {α β : Type} {B : α → β → Prop} {f : Bool → M α} {f' : Bool → M β}
 (h1 : SR c k { st with pos := st.pos + 1 } { st' with pos := st'.pos + 1 } → RR c k B (f true { st with pos := st.pos + 1 }) (f' true { st' with pos := st'.pos + 1 })) (h0 : RR c k B (f false st) (f' false st')) : RR c k B ((aX c.ts x >>= f) st) ((aX c.ts' x >>= f') st') := by
 have e := jI HC hs hin;cases hb : isP c.ts 0 x st
 · rw [hb] at e;rw [bind_ok (show aX c.ts x st = .ok (false, st) by unfold aX; rw [hb]; rfl), bind_ok (show aX c.ts' x st' = .ok (false, st') by unfold aX; rw [e]; rfl)];exact h0
 · rw [hb] at e;rw [bind_ok (show aX c.ts x st = .ok (true, { st with pos := st.pos + 1 }) by unfold aX; rw [hb]; rfl), bind_ok (show aX c.ts' x st' = .ok (true, { st' with pos := st'.pos + 1 }) by unfold aX; rw [e]; rfl)];exact h1 (hs.adv (rZ hb))
theorem FG (HC : c.OK) (HL : gI c L L') : Rel c k (IdR c) (lS c.ts L) (lS c.ts' L') := fun st st' hs => by
 unfold lS;refine bG (ak c.ts) (ak c.ts') ?_;refine bG (aB c.ts 0) (aB c.ts' 0) ?_;refine xw HC hs (by decide) (fun hs => ?_) ?_
 · simp only [↓reduceIte];refine aj (tY HL _ _ hs) fun d d' st st' hA hs => ?_;obtain rfl := hA;refine aj (bE HC hs) fun u u' st st' hA hs => ?_;obtain rfl := hA;exact aD HC hs _ _ 80 [] (kids := [d]) rfl
 simp only [ξh, ↓reduceIte];refine xw HC hs (by decide) (fun hs => ?_) ?_
 · simp only [↓reduceIte];refine aj (lK (A := PrR c) hs ?_) fun x x' st st' hA hs => ?_
   · have hs := hs.push;refine aj (HL.decs _ _ _ hs) fun d d' st st' hA hs => ?_;obtain rfl := hA;refine aj (bE HC hs) fun u u' st st' hA hs => ?_;obtain rfl := hA;refine aj (HL.str _ _ _ hs) fun i i' st st' hA hs => ?_;obtain rfl := hA;refine aj (bE HC hs) fun u u' st st' hA hs => ?_;obtain rfl := hA;exact aZ hs rfl
   · obtain rfl := hA;exact aD HC hs _ _ 85 [] (kids := [x.1, x.2]) rfl
 simp only [ξh, ↓reduceIte];refine bG (isP c.ts 1 [40]) (isP c.ts' 1 [40]) ?_;refine aL ?_ (fun h => ?_) (fun _ => kJ HC 81 _ _ hs)
 · rw [jk HC hs hs.le];cases hn : cJ (aB c.ts 0 st)
   · simp
   · have h1 := gT hn;rw [wE HC hs (by omega) (by decide)]
 · have ht : TE (aB c.ts 0 st) (aB c.ts' 0 st') := by
    simp only [ξg] at h;exact there HC hs (gT h.1)
   rw [ht.2.1];refine aj (bX HC hs 2) fun u u' st st' hA hs => ?_;obtain rfl := hA;refine bG (aB c.ts 0) (aB c.ts' 0) ?_;refine bG (isP c.ts 0 [41]) (isP c.ts' 0 [41]) ?_;refine bG (isP c.ts 0 [59]) (isP c.ts' 0 [59]) ?_;rw [sZ HC hs, jI HC hs (by decide), jI HC hs (by decide)];refine aj (A := IdR c) (k := k) ?_ fun i i' st st' hA hs => ?_
   · refine aL Iff.rfl (fun _ => ?_) (fun _ => HL.str _ _ _ hs);refine bG (ak c.ts) (ak c.ts') ?_;refine aj (tY HL _ _ hs) fun d d' st st' hA hs => ?_;obtain rfl := hA;exact aD HC hs _ _ 80 [] (kids := [d]) rfl
   · obtain rfl := hA;refine aj (bE HC hs) fun u u' st st' hA hs => ?_;obtain rfl := hA;exact aD HC hs _ _ 82 _ (kids := [i]) rfl
theorem Au (HC : c.OK) (HL : gI c L L') : ∀ (f f' e : Nat) (st st' : PS), (c.ex → f' = f) → SR c k st st' → RR c k (IdR c) (Ga c.ts L f e st) (Ga c.ts' L' f' (e + c.pre.length) st')
 | 0, f', e, st, st', hf, hs => mM (f0 hf (g := fun f => Ga c.ts' L' f (e + c.pre.length)) rfl) rfl
 | f + 1, 0, e, st, st', hf, hs => mL (f1 hf) rfl
 | f + 1, f' + 1, e, st, st', hf, hs => by
  unfold Ga;refine bG (isP c.ts 0 [58, 62]) (isP c.ts' 0 [58, 62]) ?_;refine bG (isP c.ts 0 [58]) (isP c.ts' 0 [58]) ?_;rw [jI HC hs (by decide), jI HC hs (by decide)];refine aL Iff.rfl (fun _ => ?_) (fun _ => ?_)
  · refine aj (bX HC hs 1) fun u u' st st' hA hs => ?_;obtain rfl := hA;refine aj (jg HC hs e) fun sp sp' st st' _ hs => ?_;refine aj (HL.sig k _ _ hs) fun g g' st st' hA hs => ?_;obtain rfl := hA;refine aj (aD HC hs _ _ _ [] (kids := [e, g]) rfl) fun i i' st st' hA hs => ?_;obtain rfl := hA;exact Au HC HL f f' i _ _ (fs hf) hs
  · refine aj (gZ HC hs) fun u u' st st' hA hs => ?_;obtain rfl := hA;exact aZ hs rfl
theorem DZ (HC : c.OK) (HL : gI c L L') : Rel c k (IdR c) (F9 c.ts L) (F9 c.ts' L') := fun st st' hs => by
 unfold F9;refine aj (iw HC hs) fun u u' st st' hA hs => ?_;obtain rfl := hA;refine aj (FG HC HL _ _ hs) fun i i' st st' hA hs => ?_;obtain rfl := hA;exact Au HC HL _ _ i _ _ (len_eq HC) hs
theorem oW (HC : c.OK) : Rel c k (IdR c) (dM c.ts) (dM c.ts') := fun st st' hs => by
 unfold dM;refine bG (ak c.ts) (ak c.ts') ?_;refine aj (jP HC _ _ hs) fun l l' st st' hl hs => ?_;refine aj (dI HC hs) fun n n' st st' hA hs => ?_;obtain rfl := hA;exact aD HC hs _ _ 62 n hl
theorem zk (HC : c.OK) (HL : gI c L L') : Rel c k (IdR c) (fS c.ts L) (fS c.ts' L') := fun st st' hs => by
 unfold fS;refine bG (ak c.ts) (ak c.ts') ?_;refine aj (dI HC hs) fun n n' st st' hA hs => ?_;obtain rfl := hA;refine aj (bE HC hs) fun u u' st st' hA hs => ?_;obtain rfl := hA;refine aj (HL.ty k _ _ hs) fun t t' st st' hA hs => ?_;obtain rfl := hA;exact aD HC hs _ _ 62 n (kids := [t]) rfl
theorem CO (HC : c.OK) (HL : gI c L L') : Rel c k (IdR c) (jM c.ts L) (jM c.ts' L') := fun st st' hs => by
 unfold jM;refine bG (ak c.ts) (ak c.ts') ?_;refine aj (dI HC hs) fun n n' st st' hA hs => ?_;obtain rfl := hA;exact sQ HC HL _ _ n _ _ hs
theorem DK (HC : c.OK) (HL : gI c L L') (sp sp' : Int × Int) : Rel c k (IdR c) (mQ c.ts L sp) (mQ c.ts' L' sp') := fun st st' hs => by
 unfold mQ;refine bG (ak c.ts) (ak c.ts') ?_;refine aj (jP HC _ _ hs) fun l l' st st' hl hs => ?_;refine aj (dI HC hs) fun n n' st st' hA hs => ?_;obtain rfl := hA;refine aj (aO HC hs (by decide)) fun b b' st st' hA hs => ?_;obtain rfl := hA;refine aL Iff.rfl (fun _ => ?_) (fun _ => ?_)
 · refine aj (HL.ty k _ _ hs) fun t t' st st' hA hs => ?_;obtain rfl := hA;refine aj (dG hs hl.len) fun u u' st st' hA hs => ?_;obtain rfl := hA;refine aj (aD HC hs _ _ 59 n (hl.snoc t)) fun i i' st st' hA hs => ?_;obtain rfl := hA;refine aj (jG HC (by decide) (tP HC HL) _ _ [i] _ _ _ (len_eq HC) rfl hs) fun l l' st st' hl hs => ?_;exact aD HC hs _ _ 97 [] hl
 · refine aj (aD HC hs _ _ 62 n hl) fun i i' st st' hA hs => ?_;obtain rfl := hA;refine aj (jG HC (by decide) (oW HC) _ _ [i] _ _ _ (len_eq HC) rfl hs) fun l l' st st' hl hs => ?_;exact aD HC hs _ _ 95 [] hl
theorem Gy (HC : c.OK) (HL : gI c L L') : Rel c k (IdR c) (om c.ts L) (om c.ts' L') := fun st st' hs => by
 unfold om;refine bG (ak c.ts) (ak c.ts') ?_;refine aj (aO HC hs (by decide)) fun b b' st st' hA hs => ?_;obtain rfl := hA;refine aL Iff.rfl (fun _ => ?_) (fun _ => ?_)
 · refine aj (cW HC (by decide) (zk HC HL) _ _ hs) fun l l' st st' hl hs => aD HC hs _ _ 94 [] hl
 refine aj (aO HC hs (by decide)) fun b b' st st' hA hs => ?_;obtain rfl := hA;refine aL Iff.rfl (fun _ => ?_) (fun _ => ?_)
 · exact DK HC HL _ _ _ _ hs
 refine aj (aO HC hs (by decide)) fun b b' st st' hA hs => ?_;obtain rfl := hA;refine aL Iff.rfl (fun _ => ?_) (fun _ => ?_)
 · refine aj (cW HC (by decide) (oW HC) _ _ hs) fun l l' st st' hl hs => aD HC hs _ _ 96 [] hl
 refine aj (aO HC hs (by decide)) fun b b' st st' hA hs => ?_;obtain rfl := hA;refine aL Iff.rfl (fun _ => ?_) (fun _ => ?_)
 · refine aj (cW HC (by decide) (sJ HC HL) _ _ hs) fun l l' st st' hl hs => aD HC hs _ _ 98 [] hl
 refine aj (aO HC hs (by decide)) fun b b' st st' hA hs => ?_;obtain rfl := hA;refine aL Iff.rfl (fun _ => ?_) (fun _ => ?_)
 · refine aj (cW HC (by decide) (CO HC HL) _ _ hs) fun l l' st st' hl hs => aD HC hs _ _ 99 [] hl
 refine aj (aO HC hs (by decide)) fun b b' st st' hA hs => ?_;obtain rfl := hA;refine aL Iff.rfl (fun _ => ?_) (fun _ => ?_)
 · refine aj (cW HC (by decide) (rN HC HL _) _ _ hs) fun l l' st st' hl hs => aD HC hs _ _ 100 [] hl
 · exact dU
theorem Dz (HC : c.OK) (HL : gI c L L') : Rel c k (IdR c) (jO c.ts L) (jO c.ts' L') := fun st st' hs => by
 unfold jO;refine aj (bX HC hs 1) fun u u' st st' hA hs => ?_;obtain rfl := hA;refine bG (ak c.ts) (ak c.ts') ?_;refine aj (bE HC hs) fun u u' st st' hA hs => ?_;obtain rfl := hA;refine aj (jP HC _ _ hs) fun l l' st st' hl hs => ?_;refine bG (aB c.ts 0) (aB c.ts' 0) ?_;have hk := jL HC hs (n := 2) (by decide) (by decide);refine aL (by simp only [bne, hk]) (fun _ => dU) (fun h => ?_);have ht := oP (n := 2) HC hs (by decide) (by
  simp only [ψa, ne_eq, Decidable.not_not] at h;simpa using h)
 rw [ht.2.1, ht.2.2];refine aj (bX HC hs 1) fun u u' st st' hA hs => ?_;obtain rfl := hA;refine aj (bE HC hs) fun u u' st st' hA hs => ?_;obtain rfl := hA;refine aj (HL.ty k _ _ hs) fun t t' st st' hA hs => ?_;obtain rfl := hA;refine aj (dG hs hl.len) fun u u' st st' hA hs => ?_;obtain rfl := hA;refine aj (aD HC hs _ _ 93 _ (hl.snoc t)) fun i i' st st' hA hs => ?_;obtain rfl := hA;refine aj (vU hs _ _) fun u u' st st' hA hs => ?_;obtain rfl := hA;exact aZ hs rfl
theorem og (HC : c.OK) (HL : gI c L L') : ∀ (f f' : Nat) (l l' : List Nat) (st st' : PS), (c.ex → f' = f) → LsR c l l' → SR c k st st' → RR c k (LsR c) (fM c.ts L f l st) (fM c.ts' L' f' l' st')
 | 0, f', l, l', st, st', hf, hl, hs => mM (f0 hf (g := fun f => fM c.ts' L' f l') rfl) rfl
 | f + 1, 0, l, l', st, st', hf, hl, hs => mL (f1 hf) rfl
 | f + 1, f' + 1, l, l', st, st', hf, hl, hs => by
  unfold fM;refine bG (isP c.ts 0 [101, 110, 100]) (isP c.ts' 0 [101, 110, 100]) ?_;rw [jI HC hs (by decide)];refine aL Iff.rfl (fun _ => aZ hs hl) (fun _ => ?_);refine aj (aO HC hs (by decide)) fun b b' st st' hA hs => ?_;obtain rfl := hA;refine aL Iff.rfl (fun _ => ?_) (fun _ => ?_)
  · exact og HC HL f f' _ _ _ _ (fs hf) hl hs
  refine aj (iw HC hs) fun u u' st st' hA hs => ?_;obtain rfl := hA;refine aj (Gy HC HL _ _ hs) fun i i' st st' hA hs => ?_;obtain rfl := hA;refine aj (dG hs hl.len) fun u u' st st' hA hs => ?_;obtain rfl := hA;refine aj (gZ HC hs) fun u u' st st' hA hs => ?_;obtain rfl := hA;exact og HC HL f f' _ _ _ _ (fs hf) (hl.snoc i) hs
theorem qM (HC : c.OK) (HL : gI c L L') : ∀ (f f' e : Nat) (st st' : PS), (c.ex → f' = f) → SR c k st st' → RR c k (IdR c) (ez c.ts L f e st) (ez c.ts' L' f' (e + c.pre.length) st')
 | 0, f', e, st, st', hf, hs => mM (f0 hf (g := fun f => ez c.ts' L' f (e + c.pre.length)) rfl) rfl
 | f + 1, 0, e, st, st', hf, hs => mL (f1 hf) rfl
 | f + 1, f' + 1, e, st, st', hf, hs => by
  unfold ez;refine bG (isP c.ts 0 [119, 104, 101, 114, 101]) (isP c.ts' 0 [119, 104, 101, 114, 101]) ?_;rw [jI HC hs (by decide)];refine aL Iff.rfl (fun _ => ?_) (fun _ => aZ hs rfl);refine aj (jg HC hs e) fun sp sp' st st' _ hs => ?_;refine aj (Dz HC HL _ _ hs) fun v v' st st' hA hs => ?_;obtain rfl := hA;refine aj (aD HC hs _ _ 92 [] (kids := [e, v]) rfl) fun i i' st st' hA hs => ?_;obtain rfl := hA;exact qM HC HL f f' i _ _ (fs hf) hs
theorem D8 (HC : c.OK) (HL : gI c L L') : Rel c k (IdR c) (Gb c.ts L) (Gb c.ts' L') := fun st st' hs => by
 unfold Gb;refine aj (iw HC hs) fun u u' st st' hA hs => ?_;obtain rfl := hA;refine bG (ak c.ts) (ak c.ts') ?_;refine aj (A := IdR c) (k := k) ?_ fun j j' st st' hA hs => ?_
 · refine aj (aO HC hs (by decide)) fun b b' st st' hA hs => ?_;obtain rfl := hA;refine aL Iff.rfl (fun _ => ?_) (fun _ => ?_)
   · refine aj (og HC HL _ _ [] [] _ _ (len_eq HC) rfl hs) fun l l' st st' hl hs => ?_;refine aj (bE HC hs) fun u u' st st' hA hs => ?_;obtain rfl := hA;exact aD HC hs _ _ 90 [] hl
   · refine aj (dI HC hs) fun n n' st st' hA hs => ?_;obtain rfl := hA;exact aD HC hs _ _ 91 n (kids := []) rfl
 · obtain rfl := hA;refine aj (qM HC HL _ _ j _ _ (len_eq HC) hs) fun i i' st st' hA hs => ?_;obtain rfl := hA;refine aj (gZ HC hs) fun u u' st st' hA hs => ?_;obtain rfl := hA;exact aZ hs rfl
theorem mh {α β : Type} {A : α → β → Prop} : Rel c k A (lF : M α) (lF : M β) := fun _ _ _ => fun _ => ξQ
theorem nk (HC : c.OK) : ∀ n, gI c (iV c.ts n) (iV c.ts' n)
 | 0 => ⟨fun _ => mh, fun _ => mh, fun _ => mh, fun _ => mh, fun _ => mh, fun _ => mh⟩
 | n + 1 => ⟨fun _ => E9 HC (nk HC n), fun _ => Es HC (nk HC n), fun _ => IC HC (nk HC n), fun _ => qF HC (nk HC n), fun _ => DZ HC (nk HC n), fun _ => D8 HC (nk HC n)⟩
end
end Kiln
namespace Kiln
inductive Tre where
 | node (kind : Int) (text : Bytes) (path : List Bytes) (kids : List Tre)
def nodeAt (l : List Nd) (i : Int) : Option Nd := if 0 ≤ i then l[i.toNat]? else none
theorem fI {l : List Nd} {i : Int} {n : Nd} (h : nodeAt l i = some n) : 0 ≤ i ∧ i < l.length := by
 unfold nodeAt at h;split at h
 · have := (ξz.1 h).1;omega
 · cases h
theorem bN (l : List Nd) (i : Nat) : nodeAt l (i : Int) = l[i]? := by simp [nodeAt]
theorem zM {l : List Nd} {i : Int} (h : ¬ (0 ≤ i ∧ i < l.length)) : nodeAt l i = none := by
 unfold nodeAt;split
 · exact ξy.2 (by omega)
 · rfl
def iH {α β : Type} (f : α → Option β) : List α → Option (List β)
 | [] => some []
 | x :: l => match f x with
  | none => none
  | some y => match iH f l with
   | none => none
   | some ys => some (y :: ys)
theorem kP {α β : Type} {f g : α → Option β} : ∀ {l : List α}, (∀ x ∈ l, f x = g x) → iH f l = iH g l
 | [], _ => rfl
 | x :: l, h => by
  simp only [iH];rw [h x (by simp), kP fun y hy => h y (ξA _ hy)]
def F8 (l : List Nd) : Nat → Int → Option Tre
 | 0, _ => none
 | f + 1, i => match nodeAt l i with
  | none => none
  | some n => match iH (fun c => if c < i then F8 l f c else none) n.kids with
   | none => none
   | some ts => some (.node n.kind n.text n.path ts)
def F7 (l : List Nd) (i : Int) : Option Tre := F8 l (i.toNat + 1) i
theorem qp {l : List Nd} {f : Nat} {i : Int} (h : i < 0) : F8 l f i = none := by
 cases f with
 | zero => rfl
 | succ f => simp only [F8]; rw [zM (by omega)]
theorem xq {l : List Nd} : ∀ (f g : Nat) (i : Int), i.toNat < f → i.toNat < g → F8 l f i = F8 l g i
 | 0, _, _, h, _ => absurd h (by omega)
 | _, 0, _, _, h => absurd h (by omega)
 | f + 1, g + 1, i, hf, hg => by
  simp only [F8];cases hn : nodeAt l i with
  | none => rfl
  | some n =>
   have hi := (fI hn).1;simp only;rw [kP (g := fun c => if c < i then F8 l g c else none)];intro c _;by_cases hc : c < i
   · rw [ψi hc, ψi hc];by_cases h0 : c < 0
     · rw [qp h0, qp h0]
     · exact xq f g c (by omega) (by omega)
   · rw [ψh hc, ψh hc]
theorem I9 (l : List Nd) (i : Int) : F7 l i = match nodeAt l i with
 | none => none
 | some n => match iH (fun c => if c < i then F7 l c else none) n.kids with
  | none => none
  | some ts => some (.node n.kind n.text n.path ts) := by
 show F8 l (i.toNat + 1) i = _;simp only [F8];cases hn : nodeAt l i with
 | none => rfl
 | some n =>
  have hi := (fI hn).1;simp only;rw [kP (g := fun c => if c < i then F7 l c else none)];intro c _;by_cases hc : c < i
  · rw [ψi hc, ψi hc];by_cases h0 : c < 0
    · rw [qp h0]; exact (qp h0).symm
    · exact xq _ _ c (by omega) (by omega)
  · rw [ψh hc, ψh hc]
def oU (a b : List Nd) (i k : Int) : Prop := ∃ t, F7 a i = some t ∧ F7 b k = some t
theorem kO {α β : Type} {f : α → Option β} : ∀ {l : List α} {ts : List β}, iH f l = some ts ↔ ts.length = l.length ∧ ∀ (j : Nat) x, l[j]? = some x → ∃ y, ts[j]? = some y ∧ f x = some y
 | [], ts => by
  constructor
  · intro h;simp only [iH, ξO] at h;subst h;exact ⟨rfl, fun j x hj => by simp at hj⟩
  · rintro ⟨h, _⟩;have : ts = [] := ξq h;subst this; rfl
 | x :: l, ts => by
  constructor
  · intro h;simp only [iH] at h;split at h
    · cases h
    · rename_i y hy;split at h
      · cases h
      · rename_i ys hl;simp only [ξO] at h;subst h;have ih := (kO (f := f)).1 hl;refine ⟨by simp [ih.1], fun j z hj => ?_⟩;cases j with
        | zero => simp only [ξv, ξO] at hj; subst hj; exact ⟨y, by simp, hy⟩
        | succ j => exact ih.2 j z (by simpa using hj)
  · rintro ⟨hlen, hj⟩;cases ts with
    | nil => simp at hlen
    | cons t ts =>
     obtain ⟨y, hy, hfy⟩ := hj 0 x (by simp);simp only [ξv, ξO] at hy;subst hy;have hl : iH f l = some ts := (kO (f := f)).2 ⟨by simpa using hlen, fun j z hz => hj (j + 1) z (by simpa using hz)⟩;simp only [iH, hfy, hl]
theorem qo {l : List Nd} {i : Int} {t : Tre} : F7 l i = some t ↔ ∃ n ts, nodeAt l i = some n ∧ t = .node n.kind n.text n.path ts ∧ ts.length = n.kids.length ∧ ∀ (j : Nat) c, n.kids[j]? = some c → c < i ∧ ∃ u, ts[j]? = some u ∧ F7 l c = some u := by
 rw [I9];cases hn : nodeAt l i with
 | none => simp
 | some n =>
  simp only;constructor
  · intro h;split at h
    · cases h
    · rename_i ts hts;simp only [ξO] at h;obtain ⟨h1, h2⟩ := kO.1 hts;refine ⟨n, ts, rfl, h.symm, h1, fun j c hc => ?_⟩;obtain ⟨u, hu, hcu⟩ := h2 j c hc;by_cases hci : c < i
      · rw [ψi hci] at hcu; exact ⟨hci, u, hu, hcu⟩
      · rw [ψh hci] at hcu; cases hcu
  · rintro ⟨n', ts, hn', rfl, h1, h2⟩;simp only [ξO] at hn';subst hn';have : iH (fun c => if c < i then F7 l c else none) n.kids = some ts := kO.2 ⟨h1, fun j c hc => by
     obtain ⟨hci, u, hu, hcu⟩ := h2 j c hc;exact ⟨u, hu, by rw [ψi hci]; exact hcu⟩⟩
    rw [this]
theorem oU.head {a b : List Nd} {i k : Int} (h : oU a b i k) : ∃ x y, nodeAt a i = some x ∧ nodeAt b k = some y ∧ x.kind = y.kind ∧ x.text = y.text ∧ x.path = y.path ∧ x.kids.length = y.kids.length ∧
 ∀ (j : Nat) p q, x.kids[j]? = some p → y.kids[j]? = some q → p < i ∧ q < k ∧ oU a b p q := by
 obtain ⟨t, h1, h2⟩ := h;obtain ⟨x, ts, hx, e1, l1, k1⟩ := qo.1 h1;obtain ⟨y, us, hy, e2, l2, k2⟩ := qo.1 h2;subst e1;simp only [Tre.node.injEq] at e2;obtain ⟨e3, e4, e5, rfl⟩ := e2;refine ⟨x, y, hx, hy, e3, e4, e5, by omega, fun j p q hp hq => ?_⟩;obtain ⟨hpi, u, hu, hpu⟩ := k1 j p hp;obtain ⟨hqk, v, hv, hqv⟩ := k2 j q hq;rw [hu] at hv;simp only [ξO] at hv;subst hv;exact ⟨hpi, hqk, u, hpu, hqv⟩
theorem xP {α : Type} {P : Nat → α → Prop} : ∀ (n : Nat), (∀ j, j < n → ∃ x, P j x) → ∃ l : List α, l.length = n ∧ ∀ (j : Nat) x, l[j]? = some x → P j x
 | 0, _ => ⟨[], rfl, fun j x h => by simp at h⟩
 | n + 1, h => by
  obtain ⟨l, hl, hx⟩ := xP n fun j hj => h j (by omega);obtain ⟨x, hn⟩ := h n (by omega);refine ⟨l ++ [x], by simp [hl], fun j y hj => ?_⟩;by_cases hjn : j < l.length
  · rw [ξs hjn] at hj; exact hx j y hj
  · rw [ξt (by omega)] at hj;have : j = n := by
     have := (ξz.1 hj).1;simp at this; omega
    subst this;simp [hl] at hj;subst hj; exact hn
theorem kF {a b : List Nd} {M : Int → Int → Prop} (hM : ∀ i k, M i k → ∃ x y, nodeAt a i = some x ∧ nodeAt b k = some y ∧ x.kind = y.kind ∧ x.text = y.text ∧ x.path = y.path ∧ x.kids.length = y.kids.length ∧
 ∀ (j : Nat) p q, x.kids[j]? = some p → y.kids[j]? = some q → p < i ∧ q < k ∧ M p q) : ∀ (f : Nat) i k, i.toNat < f → M i k → oU a b i k
 | 0, _, _, h, _ => absurd h (by omega)
 | f + 1, i, k, hf, h => by
  obtain ⟨x, y, hx, hy, e1, e2, e3, e4, hk⟩ := hM i k h;have hi := (fI hx).1;obtain ⟨ts, hl, hts⟩ := xP (P := fun j t => ∃ p q, x.kids[j]? = some p ∧ y.kids[j]? = some q ∧ p < i ∧ q < k ∧ F7 a p = some t ∧ F7 b q = some t) x.kids.length fun j hj => by
   obtain ⟨p, hp⟩ : ∃ p, x.kids[j]? = some p := ⟨_, ξw hj⟩;obtain ⟨q, hq⟩ : ∃ q, y.kids[j]? = some q := ⟨_, ξw (by omega)⟩;obtain ⟨h1, h2, h3⟩ := hk j p q hp hq;obtain ⟨x', y', hx', _⟩ := hM p q h3;have hp0 := (fI hx').1;obtain ⟨t, h4, h5⟩ := kF hM f p q (by omega) h3;exact ⟨t, p, q, hp, hq, h1, h2, h4, h5⟩
  refine ⟨.node x.kind x.text x.path ts, qo.2 ⟨x, ts, hx, rfl, hl, fun j c hc => ?_⟩, qo.2 ⟨y, ts, hy, by rw [e1, e2, e3], by omega, fun j c hc => ?_⟩⟩
  · obtain ⟨t, ht⟩ : ∃ t, ts[j]? = some t := ⟨_, ξw (by have := (ξz.1 hc).1; omega)⟩;obtain ⟨p, q, hp, hq, h1, h2, h3, h4⟩ := hts j t ht;rw [hp] at hc;simp only [ξO] at hc;subst hc;exact ⟨h1, t, ht, h3⟩
  · obtain ⟨t, ht⟩ : ∃ t, ts[j]? = some t := ⟨_, ξw (by have := (ξz.1 hc).1; omega)⟩;obtain ⟨p, q, hp, hq, h1, h2, h3, h4⟩ := hts j t ht;rw [hq] at hc;simp only [ξO] at hc;subst hc;exact ⟨h2, t, ht, h4⟩
def gG (cnt : Int → Int → Nat) (i k : Int) : Int → Int → Nat := fun i' k' => if i' = i ∧ k' = k then cnt i k + 1 else cnt i' k'
def iE (l : List Nd) (n : Nat) : Nat := ((l.drop n).map fun x => x.kids.length).sum
theorem pK {l : List Nd} {i : Nat} {x : Nd} (h : l[i]? = some x) : iE l i = x.kids.length + iE l (i + 1) := by
 obtain ⟨hi, rfl⟩ := ξz.1 h;unfold iE;rw [ξp hi, List.map_cons, List.sum_cons]
theorem pO (l : List Nd) {i j : Nat} (h : i ≤ j) : iE l j ≤ iE l i := by
 obtain ⟨d, rfl⟩ : ∃ d, j = i + d := ⟨j - i, by omega⟩;induction d with
 | zero => exact ξF _
 | succ d ih =>
  refine ξG ?_ (ih (by omega));cases hx : l[i + d]? with
  | some x => rw [pK hx]; rw [Nat.add_assoc]; omega
  | none =>
   have := ξy.1 hx;unfold iE;rw [List.drop_eq_nil_of_le (by omega)]; simp
end Kiln
namespace Kiln
theorem He {N : Nat} {pre l l' : List Nd} (hp : pre.length = N) (h : NRs N l l') (hg : lT l) (i : Nat) (hi : i < l.length) : oU l (pre ++ l') i ((i : Int) + N) :=
 kF (M := fun p q => ∃ n : Nat, p = n ∧ q = (n : Int) + N ∧ n < l.length) (fun p q hpq => by
  obtain ⟨n, rfl, rfl, hn⟩ := hpq;obtain ⟨x, hx⟩ : ∃ x, l[n]? = some x := ⟨_, ξw hn⟩;obtain ⟨y, hy, e1, e2, e3, e4⟩ := h.at hx;refine ⟨x, y, by rw [bN]; exact hx, ?_, e1.symm, e2.symm, e3.symm, by rw [e4, ξ4], fun j u v hu hv => ?_⟩
  · rw [show ((n : Int) + N) = ((N + n : Nat) : Int) by omega, bN, ξt (by omega), hp, show N + n - N = n by omega];exact hy
  · rw [e4, ξ0, hu] at hv;simp only [Option.map_some, ξO] at hv;obtain ⟨h0, h1⟩ := (hg n x hx).1 u (ξB hu);obtain ⟨m, rfl⟩ : ∃ m : Nat, u = m := ⟨u.toNat, by omega⟩;exact ⟨h1, by omega, m, rfl, hv.symm, by omega⟩) (i + 1) i _ (by omega) ⟨i, rfl, rfl, hi⟩
theorem Gp {c : Cf} (HC : c.OK) (he : c.ex) (n : Nat) {st st' : PS} (hs : SR c 0 st st') : RR c 0 (IdR c) (eY c.ts (iV c.ts n) st) (eY c.ts' (iV c.ts' n) st') := by
 unfold eY;refine aj (qF HC (nk HC n) _ _ hs) fun i i' s s' hA hs => ?_;obtain ⟨h1, -, -, -, h5⟩ := HC.exact he;have hp := hs.pos;by_cases h : s.pos < c.ts.length
 · show RR c 0 (IdR c) (if s.pos < c.ts.length then jK c.ts s else .ok (i, s)) (if s'.pos < c.ts'.length then jK c.ts' s' else .ok (i', s'));rw [ψi h, ψi (by omega)];exact dU
 · show RR c 0 (IdR c) (if s.pos < c.ts.length then jK c.ts s else .ok (i, s)) (if s'.pos < c.ts'.length then jK c.ts' s' else .ok (i', s'));rw [ψh h, ψh (by omega)];exact ⟨hA, hs⟩
def zJ (ln col : Int) (t : Tok) : Tok := ⟨t.kind, t.text, t.path, ln, col⟩
def Gd (ts : List Tok) (ln col : Int) : Cf := ⟨ts, ts.map (zJ ln col), 0, 0, [], [], [uV], [uV], True⟩
theorem KF (ts : List Tok) (ln col : Int) : (Gd ts ln col).OK where
 tok := fun n => .inl (by
  show TE (ts.getD n qq) ((ts.map (zJ ln col)).getD (n + 0) qq);rw [Nat.add_zero, ξr, ξr, ξ0];cases ts[n]? with
  | none => exact ⟨rfl, rfl, rfl⟩
  | some t => exact ⟨rfl, rfl, rfl⟩)
 dp := rfl
 look := fun _ _ => rfl
 n0 := by simp [Gd]
 n0' := by simp [Gd]
 exact := fun _ => ⟨rfl, rfl, rfl, rfl, by simp [Gd]⟩
theorem L9 {ts : List Tok} {ln col : Int} : SR (Gd ts ln col) 0 ps0 ps0 where
 pos := rfl
 le := ξM _
 opn := rfl
 nds := ⟨[], rfl, .nil⟩
 deep := rfl
 sc := ⟨[], [], rfl, by simp [ps0, Gd, cG], by simp [ps0, Gd, cG]⟩
theorem DR (ts : List Tok) (ln col : Int) (n : Nat) : RR (Gd ts ln col) 0 (IdR (Gd ts ln col)) (eY ts (iV ts n) ps0) (eY (ts.map (zJ ln col)) (iV (ts.map (zJ ln col)) n) ps0) :=
 Gp (c := Gd ts ln col) (KF ts ln col) ξQ n L9
theorem Ca {ts : List Tok} {ln col : Int} {n i : Nat} {s : PS} (h : eY ts (iV ts n) ps0 = .ok (i, s)) (hg : lT s.nodes) (hi : i < s.nodes.length) :
 ∃ s', eY (ts.map (zJ ln col)) (iV (ts.map (zJ ln col)) n) ps0 = .ok (i, s') ∧ s'.nodes.length = s.nodes.length ∧ oU s.nodes s'.nodes i i := by
 have hr := DR ts ln col n;rw [h] at hr;cases h' : eY (ts.map (zJ ln col)) (iV (ts.map (zJ ln col)) n) ps0 with
 | error e => rw [h'] at hr; exact absurd ξQ hr
 | ok y =>
  rw [h'] at hr;obtain ⟨i', s'⟩ := y;obtain ⟨hA, hs⟩ := hr;have hA : i' = i + 0 := hA;obtain ⟨l', h1, h2⟩ := hs.nds;have h1 : s'.nodes = [] ++ l' := h1;have h2 : NRs 0 s.nodes l' := h2;refine ⟨s', by rw [hA, Nat.add_zero], by rw [h1]; simpa using h2.len, ?_⟩;have := He (N := 0) (pre := []) rfl h2 hg i hi;rw [h1];simpa using this
theorem zn {ts : List Tok} {ln col : Int} {n : Nat} {l c : Int} {k : Nat} (h : eY ts (iV ts n) ps0 = .error (.stop l c k)) :
 ∃ l' c', eY (ts.map (zJ ln col)) (iV (ts.map (zJ ln col)) n) ps0 = .error (.stop l' c' k) ∧ k ≠ 0 := by
 have hr := DR ts ln col n;rw [h] at hr;cases h' : eY (ts.map (zJ ln col)) (iV (ts.map (zJ ln col)) n) ps0 with
 | ok y => rw [h'] at hr; exact absurd ξQ hr
 | error e =>
  rw [h'] at hr;have hr := hr ξQ;cases e with
  | out => exact hr.elim
  | stop l' c' k' => exact ⟨l', c', by rw [show k' = k from hr.1], hr.2⟩
end Kiln
