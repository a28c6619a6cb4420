/- Part of the proof. Conditions: those of each theorem. -/
import Derived.Deep.RegionWith
import Derived.Deep.RegionHeld3
import Derived.Laws.OwnMore
import Derived.Deep.Upon
import Derived.Test.YtbchkldhnjahaaaGreatDoorPoa
import Derived.Test.YtbchkldhnjahaaaGreatDoorPoi
set_option maxRecDepth 100000
set_option maxHeartbeats 40000000
namespace Go.Proofs.YtbchkldhnjahaaaGreatDoor
open Go.RowKit Kiln
open Go.Proofs
structure Cur (w0 : World) (tv : Value) (ts : List Tok) (b : Nat) (qs : List Nat) (w : World) (U : Rl) (wc : World) (Uc : Rl) (st : PS) : Prop where
 p : TSt w0 tv ts b qs wc Uc st
 f : Fr w U wc Uc
 le : w0.heap.size ≤ w.heap.size
section
variable {w0 : World} {tv : Value} {ts : List Tok} {b : Nat} {qs : List Nat} {w : World} {U : Rl} {st : PS} {wc : World} {Uc : Rl} {stc : PS}
theorem Cur.start (h : TSt w0 tv ts b qs w U st) : Cur w0 tv ts b qs w U w U st := ⟨h, Fr.refl w U, h.base.size⟩
theorem Cur.alloc (h : Cur w0 tv ts b qs w U wc Uc stc) (o : Obj) : Cur w0 tv ts b qs w U (wc.alloc o) Uc stc := ⟨h.p.alloc o, h.f.alloc o, h.le⟩
theorem Cur.below (h : Cur w0 tv ts b qs w U wc Uc stc) {w' : World} (hb : Below wc.heap.size wc w') : Cur w0 tv ts b qs w U w' Uc stc := ⟨h.p.below hb, h.f.below hb, h.le⟩
theorem Cur.next (h : Cur w0 tv ts b qs w U wc Uc stc) {w' : World} {U' : Rl} {st' : PS} (hp : TSt w0 tv ts b qs w' U' st') (hf : Fr wc Uc w' U') : Cur w0 tv ts b qs w U w' U' st' := ⟨hp, h.f.trans hf, h.le⟩
theorem Cur.drew (h : Cur w0 tv ts b qs w U wc Uc stc) : Cur w0 tv ts b qs w U wc.drew Uc stc := ⟨h.p.drew, h.f.drew, h.le⟩
theorem Cur.drewN (h : Cur w0 tv ts b qs w U wc Uc stc) (n : Nat) : Cur w0 tv ts b qs w U (wc.drewN n) Uc stc := ⟨h.p.drewN n, h.f.drewN n, h.le⟩
theorem Cur.size (h : Cur w0 tv ts b qs w U wc Uc stc) : w.heap.size ≤ wc.heap.size := h.f.size
theorem Cur.give {B r : Nat} {v : Value} {l : List Int} (h : Cur w0 tv ts b qs w U wc Uc stc) (hv : LR B wc Uc v l) (hB : w.heap.size ≤ B) : Cur w0 tv ts b qs w U wc (Uc.give v r) stc :=
 ⟨h.p.give hv (ξG h.le hB), h.f.give fun k e => .inl (ξG hB (hv.lt k e).1), h.le⟩
theorem Cur.push {B n g cap : Nat} {v : Value} {w2 : World} (h : Cur w0 tv ts b qs w U wc Uc stc) (hv : ∀ k, v.ownBlock = some k → B ≤ k) (hi : Im Uc v 0) (hB : w.heap.size ≤ B)
 (hg : wc.grownBy w2 v.ownBlock) (hgb : v.ownBlock = some g ∨ g = wc.heap.size) : Cur w0 tv ts b qs w U w2 Uc stc ∧ Im Uc (.slice (some ⟨g, 0, none⟩) n cap) 0 :=
 ⟨⟨h.p.grown hg fun k e => ⟨ξG (ξG h.le hB) (hv k e), hi k e⟩, h.f.grown hg fun k e => .inl (ξG hB (hv k e)), h.le⟩, fun k e => by
  simp only [Value.ownBlock, ξO] at e; subst e;rcases hgb with e | e
  · exact hi _ e
  · exact h.p.zero (by rw [e]; exact ξF _)⟩
theorem Cur.call {α β : Type} {V : α → Value → World → Rl → Prop} {m : M α} {f : α → M β} {R : Except Flt (β × PS)} {e : Ending} {w' : World} (hc : Cur w0 tv ts b qs w U wc Uc stc) (h : aG w0 tv ts b qs V (m stc) wc Uc e w') (HR : R = (m >>= f) stc) :
 (∃ x st' v U', e = .returned v ∧ V x v w' U' ∧ Cur w0 tv ts b qs w U w' U' st' ∧ Fr wc Uc w' U' ∧ R = f x st') ∨
 (∃ l c k, e = zV l c k ∧ aG w0 tv ts b qs (fun (_ : β) _ _ _ => True) R w U e w' ∧ ∀ V' : β → Value → World → Rl → Prop, aG w0 tv ts b qs V' R w U e w') := by
 rcases h.step HR with ⟨x, st', v, U', h1, h2, h3, h4, h5⟩ | ⟨l, c, k, h1, h2, h3⟩
 · exact .inl ⟨x, st', v, U', h1, h2, hc.next h3 h4, h4, h5⟩
 · exact .inr ⟨l, c, k, h1, aG.bad h3 h1 h2, fun _ => aG.bad h3 h1 h2⟩
theorem Cur.last {α : Type} {V : α → Value → World → Rl → Prop} {m : M α} {R : Except Flt (α × PS)} {e : Ending} {w' : World} (hc : Cur w0 tv ts b qs w U wc Uc stc) (h : aG w0 tv ts b qs V (m stc) wc Uc e w') (HR : R = m stc) :
 (∃ x v U', e = .returned v ∧ V x v w' U' ∧ aG w0 tv ts b qs V R w U (.returned v) w') ∨ (∃ l c k, e = zV l c k ∧ aG w0 tv ts b qs V R w U (zV l c k) w') := by
 rw [← HR] at h;unfold aG at h ⊢;cases R with
 | ok x =>
  obtain ⟨v, U', rfl, h2, h3, h4⟩ := h;exact .inl ⟨x.1, v, U', rfl, h2, v, U', rfl, h2, h3, hc.f.trans h4⟩
 | error g =>
  cases g with
  | out => exact h.elim
  | stop l c k => exact .inr ⟨l, c, k, h.1, rfl, h.2⟩
theorem aK {α β : Type} {g : PS → α} {f : α → M β} {R : Except Flt (β × PS)} (HR : R = ((fun s => .ok (g s, s) : M α) >>= f) st) : R = f (g st) st := HR
theorem dX {β : Type} {i : Nat} {f : Int × Int → M β} {R : Except Flt (β × PS)} (HR : R = (ofM i >>= f) st) (hne : R ≠ .error .out) : i < st.nodes.length ∧ R = f (ofP i st) st := by
 by_cases h : i < st.nodes.length
 · exact ⟨h, HR.trans (bind_ok (by unfold ofM; rw [ψi h]))⟩
 · exact absurd (HR.trans (dB (by unfold ofM; rw [ψh h]))) hne
theorem Cur.skip (h : Cur w0 tv ts b qs w U wc Uc stc) (n : Nat) {β : Type} {f : Unit → M β} {R : Except Flt (β × PS)} (HR : R = (cu ts n >>= f) stc) (hne : R ≠ .error .out) :
 Cur w0 tv ts b qs w U (wc.setCell ⟨b, 1, none⟩ (.int .i64 ((stc.pos : Int) + (n : Int)))) Uc { stc with pos := stc.pos + n } ∧ R = f () { stc with pos := stc.pos + n } := by
 by_cases hl : stc.pos + n ≤ ts.length
 · refine ⟨⟨?_, h.f.trans (h.p.frame 1 _), h.le⟩, HR.trans (bind_ok (by unfold cu; rw [ψi hl]))⟩;have := h.p.setPos (stc.pos + n) hl;rwa [show ((stc.pos + n : Nat) : Int) = (stc.pos : Int) + (n : Int) from by omega] at this
 · exact absurd (HR.trans (dB (by unfold cu; rw [ψh hl]))) hne
theorem aA {α β γ : Type} (m : M α) (f : α → M β) (g : β → M γ) (st : PS) : ((m >>= f) >>= g) st = (m >>= fun x => f x >>= g) st := by
 show M.bnd (M.bnd m f) g st = M.bnd m (fun x => M.bnd (f x) g) st;unfold M.bnd;cases m st <;> rfl
theorem aH {α β : Type} {m : M α} {f g : α → M β} {st : PS} (h : ∀ x st1, f x st1 = g x st1) : (m >>= f) st = (m >>= g) st := by
 show M.bnd m f st = M.bnd m g st;unfold M.bnd;cases m st
 · rfl
 · exact h _ _
theorem AO (l : List Int) : ∀ u ∈ l.map (Value.int .i64), u.oneCell' = true := by
 intro u hu;simp only [List.mem_map] at hu;obtain ⟨a, -, rfl⟩ := hu;rfl
theorem Cur.own {v : Value} {l : List Nat} (h : Cur w0 tv ts b qs w U wc Uc stc) (hv : LR w.heap.size wc Uc v (l.map Int.ofNat)) :
 Cur w0 tv ts b qs w U wc (Uc.give v 4) stc ∧ Ints wc v (l.map Int.ofNat) ∧ Im (Uc.give v 4) v 4 := ⟨h.give hv (ξF _), hv.ints, Im.give Uc v 4⟩
theorem bD {α β : Type} {l : List α} {f : Unit → M β} {R : Except Flt (β × PS)} (HR : R = (cA l >>= f) st) (hne : R ≠ .error .out) : l.length < 1099511627776 ∧ R = f () st := by
 by_cases h : l.length < 1099511627776
 · exact ⟨h, HR.trans (bind_ok (by unfold cA; rw [ψi h]))⟩
 · exact absurd (HR.trans (dB (by unfold cA; rw [ψh h]))) hne
def Loc (wc : World) (Uc : Rl) (L : Nat) (cs : Array Value) (T : TypeId) : Prop := wc.heap[L]? = some (.cells cs T (0, 0)) ∧ Uc L = 0
theorem Loc.new (h : Cur w0 tv ts b qs w U wc Uc stc) (cs : Array Value) (T : TypeId) : Loc (wc.alloc (.cells cs T)) Uc wc.heap.size cs T := ⟨ψe wc _, h.p.zero (ξF _)⟩
theorem Loc.lt {L : Nat} {cs : Array Value} {T : TypeId} (h : Loc wc Uc L cs T) : L < wc.heap.size := (ξd.1 h.1).1
theorem Loc.alloc {L : Nat} {cs : Array Value} {T : TypeId} (h : Loc wc Uc L cs T) (o : Obj) : Loc (wc.alloc o) Uc L cs T := ⟨(ξe wc o L h.lt).trans h.1, h.2⟩
theorem Loc.drew {L : Nat} {cs : Array Value} {T : TypeId} (h : Loc wc Uc L cs T) : Loc wc.drew Uc L cs T := h
theorem Loc.below {L : Nat} {cs : Array Value} {T : TypeId} (h : Loc wc Uc L cs T) {w' : World} (hb : Below wc.heap.size wc w') : Loc w' Uc L cs T := ⟨(hb.block L h.lt).trans h.1, h.2⟩
theorem Loc.step {L : Nat} {cs : Array Value} {T : TypeId} (h : Loc wc Uc L cs T) {w' : World} {U' : Rl} (hf : Fr wc Uc w' U') : Loc w' U' L cs T := ⟨(hf.keep L h.lt h.2).trans h.1, hf.sub L h.lt h.2⟩
theorem Loc.set {L k r : Nat} {cs : Array Value} {T : TypeId} (h : Loc wc Uc L cs T) (hk : L ≠ k) : Loc wc (Uc.set k r) L cs T := ⟨h.1, (Rl.set_other hk).trans h.2⟩
theorem Loc.cell {L : Nat} {cs : Array Value} {T : TypeId} (h : Loc wc Uc L cs T) (j : Nat) (x : Value) (hx : cs[j]? = some x) : wc.cell? ⟨L, j, none⟩ = some x := bO h.1 j x hx
theorem Loc.setb {L : Nat} {cs : Array Value} {T : TypeId} (h : Loc wc Uc L cs T) (hc : Cur w0 tv ts b qs w U wc Uc stc) {i : Nat} (x : Value) : Loc (wc.setCell ⟨b, i, none⟩ x) Uc L cs T :=
 ⟨(ψf wc _ L x (by rintro rfl; have h1 := hc.p.ub; have h2 := h.2; exact absurd (h1.symm.trans h2) (by decide))).trans h.1, h.2⟩
theorem Cur.lit (h : Cur w0 tv ts b qs w U wc Uc stc) (l : List Nat) (cs : Array Value) (hc : cs = ((l.map Int.ofNat).map (Value.int .i64)).toArray) (hl : l.length ≤ maxLen) :
 Cur w0 tv ts b qs w U (wc.alloc (.cells cs 3)) (Uc.set wc.heap.size 4) stc ∧ Ints (wc.alloc (.cells cs 3)) (.slice (some ⟨wc.heap.size, 0, none⟩) l.length l.length) (l.map Int.ofNat) ∧ Im (Uc.set wc.heap.size 4) (.slice (some ⟨wc.heap.size, 0, none⟩) l.length l.length) 4 := by
 have hu : Uc wc.heap.size = 0 := h.p.zero (ξF _);have hL := LR.lit (B := wc.heap.size) (w := wc) (U := Uc) (l.map Int.ofNat) cs hc (ξF _) hu (by simpa using hl);rw [ξ4] at hL;refine ⟨⟨(h.p.alloc _).take hu ⟨ξG h.le h.size, by simp⟩ (fun _ => ⟨_, _, ψe wc _⟩), (h.f.alloc _).set (.inl h.size), h.le⟩, hL.ints, fun k e => ?_⟩;simp only [Value.ownBlock, ξO] at e;subst e;exact Rl.set_same _ _ _
structure bW (w0 : World) (tv : Value) (ts : List Tok) (b : Nat) (L : Low) : Prop where
 exp : ∀ {qs w U st}, TSt w0 tv ts b qs w U st → L.exp st ≠ .error .out → Calls Tryz.prog 134 #[bL b] w (aG w0 tv ts b qs idR (L.exp st) w U)
 pat : ∀ {qs w U st}, TSt w0 tv ts b qs w U st → L.pat st ≠ .error .out → Calls Tryz.prog 132 #[bL b] w (aG w0 tv ts b qs idR (L.pat st) w U)
 ty : ∀ {qs w U st}, TSt w0 tv ts b qs w U st → L.ty st ≠ .error .out → Calls Tryz.prog 139 #[bL b] w (aG w0 tv ts b qs idR (L.ty st) w U)
 decs : ∀ {qs w U st}, TSt w0 tv ts b qs w U st → L.decs st ≠ .error .out → Calls Tryz.prog 31 #[bL b] w (aG w0 tv ts b qs idR (L.decs st) w U)
 str : ∀ {qs w U st}, TSt w0 tv ts b qs w U st → L.str st ≠ .error .out → Calls Tryz.prog 185 #[bL b] w (aG w0 tv ts b qs idR (L.str st) w U)
 sig : ∀ {qs w U st}, TSt w0 tv ts b qs w U st → L.sig st ≠ .error .out → Calls Tryz.prog 147 #[bL b] w (aG w0 tv ts b qs idR (L.sig st) w U)
theorem bK (h : TSt w0 tv ts b qs wc Uc stc) (s : Int × Int) (k : Int) (text : Bytes) (kids : List Nat) {kv : Value} (hi : Ints wc kv (kids.map Int.ofNat)) (im : Im Uc kv 4) (hkl : kids.length ≤ 2199023255552) (hne : aV s k text kids stc ≠ .error .out) :
 Calls Tryz.prog 63 #[bL b, .agg #[.int .i64 s.1, .int .i64 s.2], .int .i64 k, str text, kv] wc (aG w0 tv ts b qs idR (aV s k text kids stc) wc Uc) :=
 aS h s k text kids kv hi im hkl hne
theorem yj {sign : Bytes} {one : M Nat} {f : Nat} {l : List Nat} {R : Except Flt (List Nat × PS)} (HR : R = dw ts sign one (f + 1) l st) :
 R = (aX ts sign >>= fun b => if b = true then (one >>= fun i => cA l >>= fun _ => dw ts sign one f (l ++ [i])) else pure l) st := HR
def Ok (w0 : World) (tv : Value) (ts : List Tok) (b : Nat) (F : FuncId) (m : M Nat) : Prop :=
 ∀ qs w U st, TSt w0 tv ts b qs w U st → m st ≠ .error .out → Calls Tryz.prog F #[bL b] w (aG w0 tv ts b qs idR (m st) w U)
def Hj (B : Nat) (l : List Nat) (v : Value) (w : World) (U : Rl) : Prop := Mh B l v w U ∧ l ≠ []
end
section
variable {w0 : World} {tv : Value} {ts : List Tok} {b : Nat} {qs : List Nat} {w : World} {U : Rl} {st : PS} {wc : World} {Uc : Rl} {stc : PS}
theorem Cur.cl {α β : Type} {V : α → Value → World → Rl → Prop} {m : M α} {f : α → M β} {R : Except Flt (β × PS)} {Q : Ending → World → Prop} (hc : Cur w0 tv ts b qs w U wc Uc stc) (HR : R = (m >>= f) stc)
 (good : ∀ x st' v w' U', V x v w' U' → RowKit.Hid (Fr wc Uc w' U') → RowKit.Hid (Cur w0 tv ts b qs w U w' U' st') → RowKit.Hid (R = f x st') → Q (.returned v) w')
 (bad : ∀ ln cl kd w', RowKit.Hid (∀ V' : β → Value → World → Rl → Prop, aG w0 tv ts b qs V' R w U (zV ln cl kd) w') → Q (zV ln cl kd) w' := by intro ln cl kd w9 HD; first | exact ⟨rfl, HD.out _⟩ | (go_wp2_with fail; exact ⟨rfl, HD.out _⟩)) :
 ∀ e w', aG w0 tv ts b qs V (m stc) wc Uc e w' → Q e w' := fun e w' h => by
 rcases hc.call h HR with ⟨x, st', v, U', rfl, h1, h2, h3, h4⟩ | ⟨l, c, k, rfl, -, h2⟩
 · exact good x st' v w' U' h1 h3 h2 h4
 · exact bad l c k w' h2
theorem Cur.ls {α : Type} {V : α → Value → World → Rl → Prop} {m : M α} {R : Except Flt (α × PS)} {Q : Ending → World → Prop} (hc : Cur w0 tv ts b qs w U wc Uc stc) (HR : R = m stc)
 (good : ∀ x v w' U', V x v w' U' → RowKit.Hid (aG w0 tv ts b qs V R w U (.returned v) w') → Q (.returned v) w')
 (bad : ∀ ln cl kd w', RowKit.Hid (aG w0 tv ts b qs V R w U (zV ln cl kd) w') → Q (zV ln cl kd) w' := by intro ln cl kd w9 HD; first | exact ⟨rfl, HD.out⟩ | (go_wp2_with fail; exact ⟨rfl, HD.out⟩)) :
 ∀ e w', aG w0 tv ts b qs V (m stc) wc Uc e w' → Q e w' := fun e w' h => by
 rcases hc.last h HR with ⟨x, v, U', rfl, h1, h2⟩ | ⟨l, c, k, rfl, h2⟩
 · exact good x v w' U' h1 h2
 · exact bad l c k w' h2
theorem Cur.ats (h : Cur w0 tv ts b qs w U wc Uc stc) (HT : Tks w0 tv ts) : (∃ nv dv : Value, wc.cell? ⟨b, 1, none⟩ = some (.int .i64 stc.pos)) ∧ wc.frozen? ⟨b, 1, none⟩ = false ∧ stc.pos ≤ ts.length ∧ ts.length ≤ 4398046511104 := by
 obtain ⟨nv, dv, -, c1, -, -, -, -, hf⟩ := h.p.reads;exact ⟨⟨nv, dv, c1⟩, hf 1, h.p.pos, HT.len⟩
end
section
variable {α : Type} {R : Except Flt (α × PS)} {A B : M α} {s : PS}
theorem spt (h : R = (if (true : Bool) = true then A else B) s) : R = A s := h
theorem spf (h : R = (if (false : Bool) = true then A else B) s) : R = B s := h
end
section
variable {w0 : World} {tv : Value} {ts : List Tok} {b : Nat} {qs : List Nat} {w : World} {U : Rl} {st : PS} {L : Low}
theorem Aw (HT : Tks w0 tv ts) (HLow : bW w0 tv ts b L) (hp : TSt w0 tv ts b qs w U st) (hne : rB ts L st ≠ .error .out) :
 Calls Tryz.prog 214 #[bL b] w (aG w0 tv ts b qs idR (rB ts L st) w U) := by
 obtain ⟨R, hR⟩ : ∃ R, rB ts L st = R := ⟨_, rfl⟩;rw [hR] at hne ⊢;have HNE := κ hne;unfold rB at hR;have HR := κ hR.symm;have HC := κ (Cur.start hp);clear hR hne hp;go_enter Tryz.func214, Tryz.ntmps214;go_wp2_with fail;refine (HLow.pat HC.p (aC HR HNE)).mono (HC.cl HR ?_);rintro x1 st1 v1 w1 U1 rfl HF1 HC HR;go_wp2_with fail;refine (bf HT HC.p [61, 62]).mono (HC.cl HR ?_);rintro x2 st2 v2 w2 U2 rfl HF2 HC HR;go_wp2_with fail;refine (HLow.exp HC.p (aC HR HNE)).mono (HC.cl HR ?_);rintro x3 st3 v3 w3 U3 rfl HF3 HC HR;go_wp2_with fail;have ho_ := dX HR HNE;have hlt := ho_.1;have HR := κ ho_.2;clear ho_;refine (fN HC.p x1 hlt).mono ?_;rintro e w4 ⟨rfl, hb4⟩;replace HC := κ (HC.below hb4);have HB4 := κ hb4;clear hb4;clear hlt;go_wp2_with fail;have hl := HC.lit [x1, x3] _ rfl (by unfold maxLen; simp);refine (aS hl.1.p (ofP x1 st3) 27 [] [x1, x3] _ hl.2.1 hl.2.2 (by simp) (HR.out ▸ HNE.out)).mono (hl.1.ls HR.out ?_);rintro x5 v5 w5 U5 rfl HFIN;clear hl;go_wp2_with fail;go_ret;exact HFIN
theorem BJ (HT : Tks w0 tv ts) (HLow : bW w0 tv ts b L) (hp : TSt w0 tv ts b qs w U st) (hne : bindM ts L st ≠ .error .out) :
 Calls Tryz.prog 97 #[bL b] w (aG w0 tv ts b qs idR (bindM ts L st) w U) := by
 obtain ⟨R, hR⟩ : ∃ R, bindM ts L st = R := ⟨_, rfl⟩;rw [hR] at hne ⊢;have HNE := κ hne;unfold bindM at hR;have HR := κ hR.symm;have HC := κ (Cur.start hp);clear hR hne hp;go_enter Tryz.func97, Tryz.ntmps97;go_wp2_with fail;refine (HLow.pat HC.p (aC HR HNE)).mono (HC.cl HR ?_);rintro x1 st1 v1 w1 U1 rfl HF1 HC HR;go_wp2_with fail;refine (bf HT HC.p [61]).mono (HC.cl HR ?_);rintro x2 st2 v2 w2 U2 rfl HF2 HC HR;go_wp2_with fail;refine (HLow.exp HC.p (aC HR HNE)).mono (HC.cl HR ?_);rintro x3 st3 v3 w3 U3 rfl HF3 HC HR;go_wp2_with fail;have ho_ := dX HR HNE;have hlt := ho_.1;have HR := κ ho_.2;clear ho_;refine (fN HC.p x1 hlt).mono ?_;rintro e w4 ⟨rfl, hb4⟩;replace HC := κ (HC.below hb4);have HB4 := κ hb4;clear hb4;clear hlt;go_wp2_with fail;have hl := HC.lit [x1, x3] _ rfl (by unfold maxLen; simp);refine (aS hl.1.p (ofP x1 st3) 53 [] [x1, x3] _ hl.2.1 hl.2.2 (by simp) (HR.out ▸ HNE.out)).mono (hl.1.ls HR.out ?_);rintro x5 v5 w5 U5 rfl HFIN;clear hl;go_wp2_with fail;go_ret;exact HFIN
theorem xg (HT : Tks w0 tv ts) (HLow : bW w0 tv ts b L) (i : Nat) (hp : TSt w0 tv ts b qs w U st) (hne : eD ts L 37 (ts.length + 1) i st ≠ .error .out) :
 Calls Tryz.prog 210 #[bL b, .int .i64 i] w (aG w0 tv ts b qs idR (eD ts L 37 (ts.length + 1) i st) w U) := by
 obtain ⟨R, hR⟩ : ∃ R, eD ts L 37 (ts.length + 1) i st = R := ⟨_, rfl⟩;rw [hR] at hne ⊢;have HNE := κ hne;have HR := κ hR.symm;have HC := κ (Cur.start hp);clear hR hne hp;go_enter Tryz.func210, Tryz.ntmps210;go_wp2_with fail;go_loopg [1] (ts.length + 1) (fun g v wr => ∃ e st' U', v = .int .i64 (e : Nat) ∧ Cur w0 tv ts b qs w U wr U' st' ∧ R = eD ts L 37 g e st')
 case atStart => exact ⟨i, st, U, rfl, HC, HR⟩
 case round =>
  obtain ⟨e1, st', U', rfl, hc, hr⟩ := hrel;cases gk with
  | zero => exact absurd hr HNE
  | succ fu =>
   unfold eD at hr;have HR := κ hr;have HC := κ hc;clear hr hc;go_wp2_with fail;refine (aI HT HC.p _).mono (HC.cl HR ?_);rintro x2 st2 v2 w2 U2 rfl HF2 HC HR;cases x2
   · first | replace HR := κ (spt HR.out) | replace HR := κ (spf HR.out)
     go_wp2_with fail;go_ret;exact aG.good HR rfl rfl HC.p HC.f
   · first | replace HR := κ (spt HR.out) | replace HR := κ (spf HR.out)
     have ho_ := dX HR HNE;have hlt := ho_.1;have HR := κ ho_.2;clear ho_;go_wp2_with fail;refine (fN HC.p e1 hlt).mono ?_;rintro e w3 ⟨rfl, hb3⟩;replace HC := κ (HC.below hb3);have HB3 := κ hb3;clear hb3;go_wp2_with fail;refine (HLow.ty HC.p (aC HR HNE)).mono (HC.cl HR ?_);rintro x4 st4 v4 w4 U4 rfl HF4 HC HR;clear hlt;go_wp2_with fail;have hl := HC.lit [e1, x4] _ rfl (by unfold maxLen; simp);refine (aS hl.1.p (ofP e1 st2) 37 [] [e1, x4] _ hl.2.1 hl.2.2 (by simp) (aC HR.out HNE.out)).mono (hl.1.cl HR.out ?_);rintro x5 st5 v5 w5 U5 rfl HF5 HC HR;clear hl;go_wp2_with fail;go_roundg fu
     case measure => omega
     case rel => exact ⟨x5, st5, U5, rfl, HC, HR⟩
theorem G1 (HT : Tks w0 tv ts) (hla : Ok w0 tv ts b 175 (fE ts L)) (hp : TSt w0 tv ts b qs w U st) (hne : Et ts L st ≠ .error .out) :
 Calls Tryz.prog 132 #[bL b] w (aG w0 tv ts b qs idR (Et ts L st) w U) := by
 obtain ⟨R, hR⟩ : ∃ R, Et ts L st = R := ⟨_, rfl⟩;rw [hR] at hne ⊢;have HNE := κ hne;unfold Et at hR;have HR := κ hR.symm;have HC := κ (Cur.start hp);clear hR hne hp;go_enter Tryz.func132, Tryz.ntmps132;go_wp2_with fail;refine (jv HT HC.p (aC HR HNE)).mono (HC.cl HR ?_);rintro x1 st1 v1 w1 U1 rfl HF1 HC HR;go_wp2_with fail;refine (hla _ _ _ _ HC.p (aC HR HNE)).mono (HC.cl HR ?_);rintro x2 st2 v2 w2 U2 rfl HF2 HC HR;go_wp2_with fail;refine (ij HC.p (aC HR HNE)).mono (HC.cl HR ?_);rintro x3 st3 v3 w3 U3 rfl HF3 HC HR;go_wp2_with fail;go_ret;exact aG.good HR rfl rfl HC.p HC.f
theorem sU (HT : Tks w0 tv ts) (HLow : bW w0 tv ts b L) (s : Int × Int) (n : Bytes) (hp : TSt w0 tv ts b qs w U st) (hne : kT ts L s n st ≠ .error .out) :
 Calls Tryz.prog 142 #[bL b, .agg #[.int .i64 s.1, .int .i64 s.2], str n] w (aG w0 tv ts b qs idR (kT ts L s n st) w U) := by
 obtain ⟨R, hR⟩ : ∃ R, kT ts L s n st = R := ⟨_, rfl⟩;rw [hR] at hne ⊢;have HNE := κ hne;have HR : RowKit.Hid (R = (aX ts [111, 102] >>= fun c => if c = true then (L.ty >>= fun t => aV s 62 n [t]) else aV s 62 n []) st) := hR.symm;have HC := κ (Cur.start hp);clear hR hne hp;go_enter Tryz.func142, Tryz.ntmps142;go_wp2_with fail;have HS := κ (Loc.new HC #[.int .i64 s.1, .int .i64 s.2] 109);refine (aI HT (HC.alloc _).p _).mono ((HC.alloc _).cl HR ?_);rintro x1 st1 v1 w1 U1 rfl HF1 HC HR;replace HS := κ (HS.step HF1);have s0 := HS.cell 0 _ rfl;have s1 := HS.cell 1 _ rfl;cases x1
 · replace HR : RowKit.Hid (R = aV s 62 n [] st1) := HR.out;go_wp2_with fail;refine (bK HC.p s 62 n [] (Ints.nil _) (Im.nil _ _) (by simp) (HR.out ▸ HNE.out)).mono (HC.ls HR.out ?_);rintro x2 v2 w2 U2 rfl HFIN;go_wp2_with fail;go_ret;exact HFIN
 · replace HR : RowKit.Hid (R = (L.ty >>= fun t => aV s 62 n [t]) st1) := HR.out;go_wp2_with fail;go_region_with (first | (go_at_call 139; refine (HLow.ty HC.p.drew (aC HR.out HNE.out)).mono ?_; intro e w2 hq2; rcases (HC.drew).call hq2 HR.out with ⟨x2, st2, v2, U2, rfl, rfl, hc2, hf2, hr2⟩ | ⟨ln, cl, kd, rfl, hb2, hd2⟩; rotate_left; exact ⟨rfl, hd2 _⟩; replace HS := κ (HS.drew.step hf2); have HF2 := κ hf2; clear HR HC hq2 hf2; have HC := κ hc2; have HR := κ hr2; clear hc2 hr2; have s20 := HS.cell 0 _ rfl; have s21 := HS.cell 1 _ rfl; have s22 := ay s20; have s23 := ay s21) | (go_at_call 63;have hl := HC.lit [x2] _ rfl (by unfold maxLen; simp); refine (bK hl.1.p s 62 n [x2] hl.2.1 hl.2.2 (by simp) (HR.out ▸ HNE.out)).mono ?_; intro e w3 hq3; rcases (hl.1).last hq3 HR.out with ⟨x3, v3, U3, rfl, rfl, hd3⟩ | ⟨ln, cl, kd, rfl, hd3⟩; rotate_left; exact ⟨rfl, hd3⟩; have HFIN := κ hd3; clear hd3 hq3; clear hl))
   all_goals go_wp2_with fail
   all_goals go_ret
   all_goals exact HFIN
end
section
variable {w0 : World} {tv : Value} {ts : List Tok} {b : Nat} {qs : List Nat} {w : World} {U : Rl} {st : PS} {L : Low}
theorem RU {p : Prop} (h : p := by
 have hpu := (HC.alloc _).push (n := l.length + 1) (cap := cap2) (fun k e => (HL.lt k e).1) HL.out.2 (ξF _) hgr2 hgb2;have HC5 := κ hpu.1;have HL5 : RowKit.Hid (LR w.heap.size w5 U3 (.slice (some ⟨g2, 0, none⟩) (l.length + 1) cap2) ((l ++ [x3]).map Int.ofNat)) := ⟨by simpa using hrow2, hpu.2⟩;clear hpu hrow2 hgr2 hgb2 hgl2;go_roundg fu
 case measure => omega
 case rel => exact ⟨l ++ [x3], st3, U3, HL5.out, by simp; omega, by simp, HC5.out, HR.out⟩
 ) : p := h
theorem jB (HT : Tks w0 tv ts) (F : Nat) (one : M Nat) (eg : ∀ (args : Array Value) (w : World), (callFunc F args).run Tryz.prog w = .ok (.enter F args) w) (hF : Ok w0 tv ts b F one) (hp : TSt w0 tv ts b qs w U st) (hne : Kiln.andM ts one st ≠ .error .out) :
 Calls Tryz.prog 96 #[bL b, .func (.func F) #[bL b] #[]] w (aG w0 tv ts b qs (Hj w.heap.size) (Kiln.andM ts one st) w U) := by
 obtain ⟨R, hR⟩ : ∃ R, Kiln.andM ts one st = R := ⟨_, rfl⟩;rw [hR] at hne ⊢;have HNE := κ hne;unfold Kiln.andM at hR;have HR := κ hR.symm;have HC := κ (Cur.start hp);clear hR hne hp;go_enter Tryz.func96, Tryz.ntmps96;go_wp2_with fail;refine (hF _ _ _ _ HC.p (aC HR HNE)).mono (HC.cl HR ?_);rintro x1 st1 v1 w1 U1 rfl HF1 HC HR;go_wp2_with fail;have HL := κ (LR.lit (B := w.heap.size) (w := w1) (U := U1) [(x1 : Int)] #[.int .i64 x1] rfl HC.size (HC.p.zero (ξF _)) (by unfold maxLen; simp));go_loopg [5] (ts.length + 1) (fun g v wr => ∃ l st' U', LR w.heap.size wr U' v (l.map Int.ofNat) ∧ l.length ≤ 1099511627776 ∧ l ≠ [] ∧ Cur w0 tv ts b qs w U wr U' st' ∧ R = (dw ts [97, 110, 100] one g l) st')
 case atStart => exact ⟨[x1], st1, U1, HL.out, by simp, by simp, HC.alloc _, HR.out⟩
 case round =>
  obtain ⟨l, st', U', hl, hll, hln, hc, hr⟩ := hrel;cases gk with
  | zero => exact absurd hr HNE
  | succ fu =>
   have HR := κ hr;have HC := κ hc;have HL := κ hl;have HLL := κ (ξc hll hln);clear hr hc hl hll hln;replace HR := κ (yj HR);go_wp2_with fail;refine (aI HT HC.p [97, 110, 100]).mono (HC.cl HR ?_);rintro x2 st2 v2 w2 U2 rfl HF2 HC HR;replace HL := κ (HL.step HF2);cases x2
   · first | replace HR := κ (spt HR.out) | replace HR := κ (spf HR.out)
     go_wp2_with fail;go_ret;exact aG.good HR rfl ⟨⟨HL, HLL.out.1⟩, HLL.out.2⟩ HC.p HC.f
   · first | replace HR := κ (spt HR.out) | replace HR := κ (spf HR.out)
     go_wp2_with fail;refine (hF _ _ _ _ HC.p (aC HR HNE)).mono (HC.cl HR ?_);rintro x3 st3 v3 w3 U3 rfl HF3 HC HR;replace HL := κ (HL.step HF3);have hroom_ := bD HR HNE;have hroom := hroom_.1;replace HR := κ (hroom_.2);clear hroom_;obtain ⟨j0, hj, hj0, hj1, hj2⟩ := info_parts Tryz.infoInt;have HJ := κ (ξc hj (ξc hj0 (ξc hj1 hj2)));clear hj hj0 hj1 hj2;have hbs := HC.size;go_wp2_with (first | (at_builtin; refine ψm _ rfl (.tmp 11) (.tmp 14) 39 rfl w.heap.size 3 j0 (.int .i64 0) 1 8 Tryz.underlying39 HJ.out.1 HJ.out.2.1 HJ.out.2.2.1 HJ.out.2.2.2 rfl (by decide) _ (l.map Int.ofNat).length _ rfl (HL.out.1.alloc _) ⟨w3.heap.size, 0, none⟩ 1 1 [.int .i64 x3] rfl rfl (ξW (ψe _ _)) (bP _) (by decide) (by simp; unfold maxLen; omega) (by simp; omega) (by simp; omega) _ rfl ?_; intro g2 cap2 w5 hrow2 hgr2 hgb2 hgl2));exact RU
theorem nS (HT : Tks w0 tv ts) (HLow : bW w0 tv ts b L) (hp : TSt w0 tv ts b qs w U st) (hne : kR ts L st ≠ .error .out) :
 Calls Tryz.prog 177 #[bL b] w (aG w0 tv ts b qs (Hj w.heap.size) (kR ts L st) w U) := by
 obtain ⟨R, hR⟩ : ∃ R, kR ts L st = R := ⟨_, rfl⟩;rw [hR] at hne ⊢;have HNE := κ hne;unfold kR at hR;have HR := κ hR.symm;have HC := κ (Cur.start hp);clear hR hne hp;go_enter Tryz.func177, Tryz.ntmps177;go_wp2_with fail;refine (Aw HT HLow HC.p (aC HR HNE)).mono (HC.cl HR ?_);rintro x1 st1 v1 w1 U1 rfl HF1 HC HR;go_wp2_with fail;have HL := κ (LR.lit (B := w.heap.size) (w := w1) (U := U1) [(x1 : Int)] #[.int .i64 x1] rfl HC.size (HC.p.zero (ξF _)) (by unfold maxLen; simp));go_loopg [3] (ts.length + 1) (fun g v wr => ∃ l st' U', LR w.heap.size wr U' v (l.map Int.ofNat) ∧ l.length ≤ 1099511627776 ∧ l ≠ [] ∧ Cur w0 tv ts b qs w U wr U' st' ∧ R = (dw ts [124] (rB ts L) g l) st')
 case atStart => exact ⟨[x1], st1, U1, HL.out, by simp, by simp, HC.alloc _, HR.out⟩
 case round =>
  obtain ⟨l, st', U', hl, hll, hln, hc, hr⟩ := hrel;cases gk with
  | zero => exact absurd hr HNE
  | succ fu =>
   have HR := κ hr;have HC := κ hc;have HL := κ hl;have HLL := κ (ξc hll hln);clear hr hc hl hll hln;replace HR := κ (yj HR);go_wp2_with fail;refine (aI HT HC.p [124]).mono (HC.cl HR ?_);rintro x2 st2 v2 w2 U2 rfl HF2 HC HR;replace HL := κ (HL.step HF2);cases x2
   · first | replace HR := κ (spt HR.out) | replace HR := κ (spf HR.out)
     go_wp2_with fail;go_ret;exact aG.good HR rfl ⟨⟨HL, HLL.out.1⟩, HLL.out.2⟩ HC.p HC.f
   · first | replace HR := κ (spt HR.out) | replace HR := κ (spf HR.out)
     go_wp2_with fail;refine (Aw HT HLow HC.p (aC HR HNE)).mono (HC.cl HR ?_);rintro x3 st3 v3 w3 U3 rfl HF3 HC HR;replace HL := κ (HL.step HF3);have hroom_ := bD HR HNE;have hroom := hroom_.1;replace HR := κ (hroom_.2);clear hroom_;obtain ⟨j0, hj, hj0, hj1, hj2⟩ := info_parts Tryz.infoInt;have HJ := κ (ξc hj (ξc hj0 (ξc hj1 hj2)));clear hj hj0 hj1 hj2;have hbs := HC.size;go_wp2_with (first | (at_builtin; refine ψm _ rfl (.tmp 9) (.tmp 12) 39 rfl w.heap.size 3 j0 (.int .i64 0) 1 8 Tryz.underlying39 HJ.out.1 HJ.out.2.1 HJ.out.2.2.1 HJ.out.2.2.2 rfl (by decide) _ (l.map Int.ofNat).length _ rfl (HL.out.1.alloc _) ⟨w3.heap.size, 0, none⟩ 1 1 [.int .i64 x3] rfl rfl (ξW (ψe _ _)) (bP _) (by decide) (by simp; unfold maxLen; omega) (by simp; omega) (by simp; omega) _ rfl ?_; intro g2 cap2 w5 hrow2 hgr2 hgb2 hgl2));exact RU
end
section
variable {w0 : World} {tv : Value} {ts : List Tok} {b : Nat} {qs : List Nat} {w : World} {U : Rl} {st : PS} {L : Low}
theorem FC (HT : Tks w0 tv ts) (h1 : Ok w0 tv ts b 259 (eG ts L)) (hp : TSt w0 tv ts b qs w U st) (hne : nY ts L st ≠ .error .out) :
 Calls Tryz.prog 213 #[bL b] w (aG w0 tv ts b qs idR (nY ts L st) w U) := by
 obtain ⟨R, hR⟩ : ∃ R, nY ts L st = R := ⟨_, rfl⟩;rw [hR] at hne ⊢;have HNE := κ hne;unfold nY at hR;have HR := κ hR.symm;have HC := κ (Cur.start hp);clear hR hne hp;go_enter Tryz.func213, Tryz.ntmps213;go_wp2_with fail;refine (h1 _ _ _ _ HC.p (aC HR HNE)).mono (HC.cl HR ?_);rintro x1 st1 v1 w1 U1 rfl HF1 HC HR;go_wp2_with fail;go_loopg [3] (ts.length + 1) (fun g v wr => ∃ e st' U', v = .int .i64 (e : Nat) ∧ Cur w0 tv ts b qs w U wr U' st' ∧ R = (jY ts [97, 110, 100, 97, 108, 115, 111] 19 (eG ts L) g e) st')
 case atStart => exact ⟨x1, st1, U1, rfl, HC, HR⟩
 case round =>
  obtain ⟨e1, st', U', rfl, hc, hr⟩ := hrel;cases gk with
  | zero => exact absurd hr HNE
  | succ fu =>
   unfold jY at hr;have HR := κ hr;have HC := κ hc;clear hr hc;go_wp2_with fail;refine (aI HT HC.p [97, 110, 100, 97, 108, 115, 111]).mono (HC.cl HR ?_);rintro x2 st2 v2 w2 U2 rfl HF2 HC HR;cases x2
   · first | replace HR := κ (spt HR.out) | replace HR := κ (spf HR.out)
     go_wp2_with fail;go_ret;exact aG.good HR rfl rfl HC.p HC.f
   · first | replace HR := κ (spt HR.out) | replace HR := κ (spf HR.out)
     have ho_ := dX HR HNE;have hlt := ho_.1;have HR := κ ho_.2;clear ho_;go_wp2_with fail;refine (fN HC.p e1 hlt).mono ?_;rintro e w3 ⟨rfl, hb3⟩;replace HC := κ (HC.below hb3);have HB3 := κ hb3;clear hb3;clear hlt;go_wp2_with fail;refine (h1 _ _ _ _ HC.p (aC HR HNE)).mono (HC.cl HR ?_);rintro x4 st4 v4 w4 U4 rfl HF4 HC HR;go_wp2_with fail;have hl := HC.lit [e1, x4] _ rfl (by unfold maxLen; simp);refine (aS hl.1.p (ofP e1 st2) 19 [] [e1, x4] _ hl.2.1 hl.2.2 (by simp) (aC HR.out HNE.out)).mono (hl.1.cl HR.out ?_);rintro x9 st9 v9 w9 U9 rfl HF9 HC HR;clear hl;go_wp2_with fail;go_roundg fu
     case measure => omega
     case rel => exact ⟨x9, st9, U9, rfl, HC, HR⟩
theorem JL (HT : Tks w0 tv ts) (h1 : Ok w0 tv ts b 213 (nY ts L)) (hp : TSt w0 tv ts b qs w U st) (hne : Kiln.orM ts L st ≠ .error .out) :
 Calls Tryz.prog 176 #[bL b] w (aG w0 tv ts b qs idR (Kiln.orM ts L st) w U) := by
 obtain ⟨R, hR⟩ : ∃ R, Kiln.orM ts L st = R := ⟨_, rfl⟩;rw [hR] at hne ⊢;have HNE := κ hne;unfold Kiln.orM at hR;have HR := κ hR.symm;have HC := κ (Cur.start hp);clear hR hne hp;go_enter Tryz.func176, Tryz.ntmps176;go_wp2_with fail;refine (h1 _ _ _ _ HC.p (aC HR HNE)).mono (HC.cl HR ?_);rintro x1 st1 v1 w1 U1 rfl HF1 HC HR;go_wp2_with fail;go_loopg [3] (ts.length + 1) (fun g v wr => ∃ e st' U', v = .int .i64 (e : Nat) ∧ Cur w0 tv ts b qs w U wr U' st' ∧ R = (jY ts [111, 114, 101, 108, 115, 101] 20 (nY ts L) g e) st')
 case atStart => exact ⟨x1, st1, U1, rfl, HC, HR⟩
 case round =>
  obtain ⟨e1, st', U', rfl, hc, hr⟩ := hrel;cases gk with
  | zero => exact absurd hr HNE
  | succ fu =>
   unfold jY at hr;have HR := κ hr;have HC := κ hc;clear hr hc;go_wp2_with fail;refine (aI HT HC.p [111, 114, 101, 108, 115, 101]).mono (HC.cl HR ?_);rintro x2 st2 v2 w2 U2 rfl HF2 HC HR;cases x2
   · first | replace HR := κ (spt HR.out) | replace HR := κ (spf HR.out)
     go_wp2_with fail;go_ret;exact aG.good HR rfl rfl HC.p HC.f
   · first | replace HR := κ (spt HR.out) | replace HR := κ (spf HR.out)
     have ho_ := dX HR HNE;have hlt := ho_.1;have HR := κ ho_.2;clear ho_;go_wp2_with fail;refine (fN HC.p e1 hlt).mono ?_;rintro e w3 ⟨rfl, hb3⟩;replace HC := κ (HC.below hb3);have HB3 := κ hb3;clear hb3;clear hlt;go_wp2_with fail;refine (h1 _ _ _ _ HC.p (aC HR HNE)).mono (HC.cl HR ?_);rintro x4 st4 v4 w4 U4 rfl HF4 HC HR;go_wp2_with fail;have hl := HC.lit [e1, x4] _ rfl (by unfold maxLen; simp);refine (aS hl.1.p (ofP e1 st2) 20 [] [e1, x4] _ hl.2.1 hl.2.2 (by simp) (aC HR.out HNE.out)).mono (hl.1.cl HR.out ?_);rintro x9 st9 v9 w9 U9 rfl HF9 HC HR;clear hl;go_wp2_with fail;go_roundg fu
     case measure => omega
     case rel => exact ⟨x9, st9, U9, rfl, HC, HR⟩
theorem Iw (HT : Tks w0 tv ts) (h1 : Ok w0 tv ts b 292 (j4 ts L)) (hp : TSt w0 tv ts b qs w U st) (hne : Dl ts L st ≠ .error .out) :
 Calls Tryz.prog 280 #[bL b] w (aG w0 tv ts b qs idR (Dl ts L st) w U) := by
 obtain ⟨R, hR⟩ : ∃ R, Dl ts L st = R := ⟨_, rfl⟩;rw [hR] at hne ⊢;have HNE := κ hne;unfold Dl at hR;have HR := κ hR.symm;have HC := κ (Cur.start hp);clear hR hne hp;go_enter Tryz.func280, Tryz.ntmps280;go_wp2_with fail;refine (h1 _ _ _ _ HC.p (aC HR HNE)).mono (HC.cl HR ?_);rintro x1 st1 v1 w1 U1 rfl HF1 HC HR;go_wp2_with fail;go_loopg [3] (ts.length + 1) (fun g v wr => ∃ e st' U', v = .int .i64 (e : Nat) ∧ Cur w0 tv ts b qs w U wr U' st' ∧ R = (Gf ts L g e) st')
 case atStart => exact ⟨x1, st1, U1, rfl, HC, HR⟩
 case round =>
  obtain ⟨e1, st', U', rfl, hc, hr⟩ := hrel;cases gk with
  | zero => exact absurd hr HNE
  | succ fu =>
   unfold Gf at hr;have HR := κ hr;have HC := κ hc;clear hr hc;go_wp2_with fail;replace HR := κ (aK (g := iG ts) HR);refine (Dg HT HC.p).mono ?_;rintro e w2 ⟨rfl, hb2⟩;replace HC := κ (HC.below hb2);have HB2 := κ hb2;clear hb2;obtain ⟨A, hA⟩ : ∃ A, iG ts st' = A := ⟨_, rfl⟩;rw [hA] at HR ⊢;clear hA;cases A
   · first | replace HR := κ (spt HR.out) | replace HR := κ (spf HR.out)
     go_wp2_with fail;go_ret;exact aG.good HR rfl rfl HC.p HC.f
   · first | replace HR := κ (spt HR.out) | replace HR := κ (spf HR.out)
     have ho_ := dX HR HNE;have hlt := ho_.1;have HR := κ ho_.2;clear ho_;go_wp2_with fail;refine (fN HC.p e1 hlt).mono ?_;rintro e w3 ⟨rfl, hb3⟩;replace HC := κ (HC.below hb3);have HB3 := κ hb3;clear hb3;clear hlt;go_wp2_with fail;refine (h1 _ _ _ _ HC.p (aC HR HNE)).mono (HC.cl HR ?_);rintro x4 st4 v4 w4 U4 rfl HF4 HC HR;go_wp2_with fail;have hl := HC.lit [e1, x4] _ rfl (by unfold maxLen; simp);refine (aS hl.1.p (ofP e1 st') 17 [] [e1, x4] _ hl.2.1 hl.2.2 (by simp) (aC HR.out HNE.out)).mono (hl.1.cl HR.out ?_);rintro x9 st9 v9 w9 U9 rfl HF9 HC HR;clear hl;go_wp2_with fail;go_roundg fu
     case measure => omega
     case rel => exact ⟨x9, st9, U9, rfl, HC, HR⟩
theorem zR {fu e1 : Nat} {f : Nat → M Nat} {R : Except Flt (Nat × PS)} (HR : R = (gy ts L (fu + 1) e1 >>= f) st) :
 R = (aX ts [104, 97, 110, 100, 108, 101] >>= fun c => if c = true then (ofM e1 >>= fun s => kR ts L >>= fun l => aV s 21 [] (e1 :: l) >>= fun e => gy ts L fu e >>= f) else f e1) st := by
 rw [HR];rw [show gy ts L (fu + 1) e1 = (aX ts [104, 97, 110, 100, 108, 101] >>= fun c => if c = true then (ofM e1 >>= fun s => kR ts L >>= fun l => aV s 21 [] (e1 :: l) >>= fun e => gy ts L fu e) else pure e1) from rfl];rw [aA];apply aH;intro c st1;cases c
 · rfl
 · simp only [↓reduceIte];rw [aA]; apply aH; intro s st2;rw [aA]; apply aH; intro l st3;rw [aA]
theorem H6 (HT : Tks w0 tv ts) (HLow : bW w0 tv ts b L) (h1 : Ok w0 tv ts b 176 (Kiln.orM ts L)) (hp : TSt w0 tv ts b qs w U st) (hne : Fa ts L st ≠ .error .out) :
 Calls Tryz.prog 134 #[bL b] w (aG w0 tv ts b qs idR (Fa ts L st) w U) := by
 obtain ⟨R, hR⟩ : ∃ R, Fa ts L st = R := ⟨_, rfl⟩;rw [hR] at hne ⊢;have HNE := κ hne;unfold Fa at hR;have HR := κ hR.symm;have HC := κ (Cur.start hp);clear hR hne hp;go_enter Tryz.func134, Tryz.ntmps134;go_wp2_with fail;refine (jv HT HC.p (aC HR HNE)).mono (HC.cl HR ?_);rintro x10 st10 v10 w10 U10 rfl HF10 HC HR;go_wp2_with fail;refine (h1 _ _ _ _ HC.p (aC HR HNE)).mono (HC.cl HR ?_);rintro x1 st1 v1 w1 U1 rfl HF1 HC HR;go_wp2_with fail;replace HR : RowKit.Hid (R = (gy ts L (ts.length + 1) x1 >>= fun e => dh >>= fun _ => pure e) st1) := HR.out;go_loopg [3] (ts.length + 1) (fun g v wr => ∃ e st' U', v = .int .i64 (e : Nat) ∧ Cur w0 tv ts b qs w U wr U' st' ∧ R = (gy ts L g e >>= fun e => dh >>= fun _ => pure e) st')
 case atStart => exact ⟨x1, st1, U1, rfl, HC, HR⟩
 case round =>
  obtain ⟨e1, st', U', rfl, hc, hr⟩ := hrel;cases gk with
  | zero => exact absurd hr HNE
  | succ fu =>
   have HR := κ hr;have HC := κ hc;clear hr hc;go_wp2_with fail;replace HR := κ (zR HR);refine (aI HT HC.p [104, 97, 110, 100, 108, 101]).mono (HC.cl HR ?_);rintro x2 st2 v2 w2 U2 rfl HF2 HC HR;cases x2
   · first | replace HR := κ (spt HR.out) | replace HR := κ (spf HR.out)
     go_wp2_with fail;refine (ij HC.p (aC HR HNE)).mono (HC.cl HR ?_);rintro x5 st5 v5 w5 U5 rfl HF5 HC HR;go_wp2_with fail;go_ret;exact aG.good HR rfl rfl HC.p HC.f
   · first | replace HR := κ (spt HR.out) | replace HR := κ (spf HR.out)
     have ho_ := dX HR HNE;have hlt := ho_.1;have HR := κ ho_.2;clear ho_;go_wp2_with fail;refine (fN HC.p e1 hlt).mono ?_;rintro e w3 ⟨rfl, hb3⟩;replace HC := κ (HC.below hb3);have HB3 := κ hb3;clear hb3;clear hlt;go_wp2_with fail;have HLE := κ (LR.lit (B := w.heap.size) (w := w3) (U := U2) [(e1 : Int)] #[.int .i64 e1] rfl HC.size (HC.p.zero (ξF _)) (by unfold maxLen; simp));refine (nS HT HLow (HC.alloc _).p (aC HR HNE)).mono ((HC.alloc _).cl HR ?_);rintro x4 st4 v4 w4 U4 hv4 HF4 HC HR;replace HLE := κ (HLE.step HF4);obtain ⟨⟨hlr, hll⟩, hln⟩ := hv4;have hlp : 0 < x4.length := ξ6.2 hln;obtain ⟨g0, cap0, rfl, hg0, hg1⟩ := World.ownsRow.form hlr.1 (by simpa using hlp);have HLC := κ (show ∀ (j : Nat) u, ((x4.map Int.ofNat).map (Value.int .i64))[j]? = some u → w4.cell? ((⟨g0, 0, none⟩ : Addr).add j) = some u from fun j u hu => hlr.1.cells (g := g0) rfl j u hu);clear hlr hg0 hg1;rw [ξ4];obtain ⟨j0, hj, hj0, hj1, hj2⟩ := info_parts Tryz.infoInt;have HJ := κ (ξc hj (ξc hj0 (ξc hj1 hj2)));clear hj hj0 hj1 hj2 hln;have hbs := HC.size;go_wp2_with (first | (at_builtin; refine ψm _ rfl (.tmp 15) (.tmp 17) 39 rfl w.heap.size 3 j0 (.int .i64 0) 1 8 Tryz.underlying39 HJ.out.1 HJ.out.2.1 HJ.out.2.2.1 HJ.out.2.2.2 rfl (by decide) _ 1 [.int .i64 e1] rfl HLE.out.1 ⟨g0, 0, none⟩ x4.length cap0 ((x4.map Int.ofNat).map (Value.int .i64)) rfl (by simp) HLC.out (AO _) hlp (by unfold maxLen; omega) (by omega) (by omega) _ rfl ?_; intro g2 cap2 w5 hrow2 hgr2 hgb2 hgl2));have hpu := HC.push (n := 1 + x4.length) (cap := cap2) (fun k e => (HLE.lt k e).1) HLE.out.2 (ξF _) hgr2 hgb2;have HLE5 : RowKit.Hid (LR w.heap.size w5 U4 (.slice (some ⟨g2, 0, none⟩) (1 + x4.length) cap2) ((e1 :: x4).map Int.ofNat)) := ⟨by simpa [Nat.add_comm] using hrow2, hpu.2⟩;clear HLE HLC HC hrow2 hgr2 hgb2 hgl2 hbs HJ;have HC := κ hpu.1;clear hpu;have hl := HC.own HLE5;refine (aS hl.1.p (ofP e1 st2) 21 [] (e1 :: x4) _ hl.2.1 hl.2.2 (by simp; omega) (aC HR.out HNE.out)).mono (hl.1.cl HR.out ?_);rintro x9 st9 v9 w9 U9 rfl HF9 HC HR;clear hl;go_wp2_with fail;go_roundg fu
     case measure => omega
     case rel => exact ⟨x9, st9, U9, rfl, HC, HR⟩
end
section
variable {w0 : World} {tv : Value} {ts : List Tok} {b : Nat} {qs : List Nat} {w : World} {U : Rl} {st : PS} {L : Low}
theorem qZ {n : Nat} {β : Type} {f : Unit → M β} {R : Except Flt (β × PS)} (HR : R = (cu ts n >>= f) st) (hne : R ≠ .error .out) (hl : ts.length ≤ 4398046511104) : n ≤ 4398046511104 := by
 by_cases h : st.pos + n ≤ ts.length
 · omega
 · exact absurd (HR.trans (dB (by unfold cu; rw [ψh h]))) hne
theorem AP {w w' : World} {o : Obj} (h : Below (w.alloc o).heap.size (w.alloc o) w') : w'.heap[w.heap.size]? = some o := (h.block _ (by simp)).trans (ψe w o)
theorem Ri {p : Prop} (h : p := by
 refine (iT HT HC.p).mono ?_;rintro e w9 ⟨rfl, hb9⟩;have HB9 := κ hb9; clear hb9;go_wp2_with fail;exact ⟨rfl, aG.bad HR rfl (HC.p.base.trans (HB9.mono HC.p.base.size))⟩
 ) : p := h
theorem bI (HT : Tks w0 tv ts) (hp : TSt w0 tv ts b qs w U st) :
 Calls Tryz.prog 138 #[bL b] w (aG w0 tv ts b qs M7 (aW ts st) w U) := by
 obtain ⟨R, hR⟩ : ∃ R, aW ts st = R := ⟨_, rfl⟩;rw [hR];unfold aW at hR;have HR := κ hR.symm;have HC := κ (Cur.start hp);clear hR hp;go_enter Tryz.func138, Tryz.ntmps138;go_wp2_with fail;refine (aU HT HC.p 0 (by omega)).mono ?_;rintro e w2 ⟨⟨pv, rfl, hs⟩, hb2⟩;have hc2 := HC.below hb2;clear HC hb2;have HC := κ hc2;clear hc2;obtain ⟨t, ht⟩ : ∃ t, aB ts 0 st = t := ⟨_, rfl⟩;rw [ht] at hs ⊢;(try rw [ht] at HR)
 have HTS := κ (ht ▸ bC HT 0 st);have HTT := κ ht;clear ht;have HP := κ hs;obtain ⟨a, cap, rfl, -⟩ := hs;unfold tkV;have HTK := κ (Loc.new HC #[.int .i64 t.kind, str t.text, .slice a t.path.length cap, .int .i64 t.line, .int .i64 t.col] 32);replace HC := κ (HC.alloc (.cells #[.int .i64 t.kind, str t.text, .slice a t.path.length cap, .int .i64 t.line, .int .i64 t.col] 32));go_wp2_with fail;refine (fD t _ w0 HP).mono ?_;rintro e w3 ⟨rfl, hb3⟩;replace HC := κ (HC.below hb3);replace HTK := κ (HTK.below hb3);have HB3 := κ hb3;clear hb3;cases hn : cJ t
 · replace HR := HR.out;simp only [hn, ξh, ↓reduceIte] at HR;replace HR := κ HR;go_wp2_with fail;exact Ri
 · replace HR := HR.out;simp only [hn, ξh, ↓reduceIte] at HR;replace HR := κ HR;have hlt := Hh (k := 0) (st := st) (ts := ts) (by rw [HTT.out]; exact hn);have t0 := HTK.cell 0 _ rfl;have t1 := HTK.cell 1 _ rfl;have t2 := HTK.cell 2 _ rfl;have t5 := fun x => (HTK.setb HC (i := 1) x).cell 1 _ rfl;obtain ⟨nv_, dv_, -, c1_, -, -, -, -, hf_⟩ := HC.p.reads;have hf1_ := hf_ 1;have hpos_ := HC.p.pos;have hlen_ := HT.len;clear hf_;go_wp2_with fail;go_ret;exact aG.good HR rfl rfl (HC.p.setPos (st.pos + 1) (by omega)) (HC.f.trans (HC.p.frame 1 _))
theorem vH (HT : Tks w0 tv ts) (hp : TSt w0 tv ts b qs w U st) :
 Calls Tryz.prog 220 #[bL b] w fun e w' => e = .returned (.bool (iC ts st)) ∧ Below w.heap.size w w' := by
 have HK := κ (aU HT hp 0 (by omega));obtain ⟨P, hP⟩ : ∃ P, iC ts st = P := ⟨_, rfl⟩;rw [hP];unfold iC at hP;generalize aB ts 0 st = t at *;clear hp;go_enter Tryz.func220, Tryz.ntmps220;go_wp2_with fail;refine HK.mono ?_;rintro e w1 ⟨⟨pv, rfl, hs⟩, hb1⟩;have HB1 := κ hb1; clear hb1;have HP := κ hs;obtain ⟨a, cap, rfl, -⟩ := hs;unfold tkV;go_wp2_with fail;refine (fD t _ w0 HP).mono ?_;rintro e w3 ⟨rfl, hb3⟩;have HB3 := κ ((bQ HB1 _).trans (hb3.mono (bQ HB1 (.cells #[.int .i64 t.kind, str t.text, .slice a t.path.length cap, .int .i64 t.line, .int .i64 t.col] 32)).size));have z3 := AP hb3;have z31 : w3.cell? ⟨w1.heap.size, 1, none⟩ = some (str t.text) := bO z3 1 _ rfl;clear hb3 z3;cases hn : cJ t
 · rw [hn] at hP;have HPP := κ hP.symm; clear hP;go_wp2_with fail;go_ret;exact ⟨by rw [HPP.out]; rfl, HB3.out⟩
 · rw [hn] at hP;have HPP := κ hP.symm; clear hP;go_wp2_with fail;go_ret;exact ⟨by rw [HPP.out]; rfl, HB3.out⟩
theorem rY (HT : Tks w0 tv ts) (hp : TSt w0 tv ts b qs w U st) (hb : qd ts st = true) :
 Calls Tryz.prog 281 #[bL b] w fun e w' => e = .returned (str (dF ts st)) ∧ Below w.heap.size w w' := by
 have HK := κ (aU HT hp 0 (by omega));obtain ⟨P, hP⟩ : ∃ P, dF ts st = P := ⟨_, rfl⟩;rw [hP];unfold dF at hP;unfold qd at hb;generalize aB ts 0 st = t at *;clear hp;go_enter Tryz.func281, Tryz.ntmps281;go_wp2_with fail;refine HK.mono ?_;rintro e w1 ⟨⟨pv, rfl, hs⟩, hb1⟩;have HB1 := κ hb1; clear hb1;have HP := κ hs;obtain ⟨a, cap, rfl, -⟩ := hs;unfold tkV;go_wp2_with fail;refine (fD t _ w0 HP).mono ?_;rintro e w3 ⟨rfl, hb3⟩;have HB3 := κ ((bQ HB1 _).trans (hb3.mono (bQ HB1 (.cells #[.int .i64 t.kind, str t.text, .slice a t.path.length cap, .int .i64 t.line, .int .i64 t.col] 32)).size));have z3 := AP hb3;have z30 : w3.cell? ⟨w1.heap.size, 0, none⟩ = some (.int .i64 t.kind) := bO z3 0 _ rfl;have z31 : w3.cell? ⟨w1.heap.size, 1, none⟩ = some (str t.text) := bO z3 1 _ rfl;clear hb3 z3 HK;cases hn : cJ t
 · simp only [hn, ξh, ↓reduceIte] at hP;cases hk : (t.kind == 4)
   · simp only [hk, Bool.false_and, ξh, ↓reduceIte] at hP;have HPP := κ hP.symm; clear hP hb;have hk2 : (t.kind != 4) = true := by simp [bne, hk]
     go_wp2_with fail;go_ret;exact ⟨by rw [HPP.out]; rfl, HB3.out⟩
   · have hk2 : (t.kind != 4) = false := by simp [bne, hk]
     cases htx : t.text with
     | nil => rw [hk, htx] at hb; simp at hb
     | cons c r =>
      rw [htx] at z31 hP;simp only [hk, Bool.true_and, List.getD_cons_zero] at hP;have hq0 : (0 : Int) < ((c :: r).length : Int) := by simp
      have e0 : ∀ h : 0 < (⟨(c :: r).toArray⟩ : ByteArray).size, (⟨(c :: r).toArray⟩ : ByteArray)[0]'h = c := fun _ => rfl;by_cases h1 : c.toNat < 49
      · have HPP := κ (show P = [] by rw [← hP]; simp [show ¬ 49 ≤ c.toNat by omega]);have hb1 : (c.toNat : Int) < 49 := by omega
        clear hP;go_wp2_with fail;go_ret;exact ⟨by rw [HPP.out]; rfl, HB3.out⟩
      · have hb1 : ¬ (c.toNat : Int) < 49 := by omega
        by_cases h2 : 57 < c.toNat
        · have HPP := κ (show P = [] by rw [← hP]; simp [show ¬ c.toNat ≤ 57 by omega]);have hb2 : 57 < (c.toNat : Int) := by omega
          clear hP;go_wp2_with fail;go_ret;exact ⟨by rw [HPP.out]; rfl, HB3.out⟩
        · have HPP := κ (show P = c :: r by rw [← hP]; simp [show 49 ≤ c.toNat by omega, show c.toNat ≤ 57 by omega]);have hb2 : ¬ 57 < (c.toNat : Int) := by omega
          clear hP;go_wp2_with fail;go_ret;exact ⟨by rw [HPP.out]; rfl, HB3.out⟩
 · simp only [hn, ↓reduceIte] at hP;have HPP := κ hP.symm; clear hP hb;go_wp2_with fail;go_ret;exact ⟨by rw [HPP.out]; rfl, HB3.out⟩
end
section
variable {w0 : World} {tv : Value} {ts : List Tok} {b : Nat} {qs : List Nat} {w : World} {U : Rl} {st : PS} {L : Low}
theorem kC (HT : Tks w0 tv ts) (hp : TSt w0 tv ts b qs w U st) (hne : cK ts st ≠ .error .out) :
 Calls Tryz.prog 282 #[bL b] w (aG w0 tv ts b qs M7 (cK ts st) w U) := by
 obtain ⟨R, hR⟩ : ∃ R, cK ts st = R := ⟨_, rfl⟩;rw [hR] at hne ⊢;unfold cK at hR;cases hb : qd ts st
 · simp only [hb, ξh, ↓reduceIte] at hR;exact absurd hR.symm hne
 simp only [hb, ↓reduceIte] at hR;have HR := κ hR.symm;have HC := κ (Cur.start hp);clear hR hp hne;go_enter Tryz.func282, Tryz.ntmps282;go_wp2_with fail;refine (rY HT HC.p hb).mono ?_;rintro e w1 ⟨rfl, hb1⟩;have hc1 := HC.below hb1;clear HC hb1 hb;have HC := κ hc1;clear hc1;by_cases hl : dF ts st = []
 · have hr_ : R = jK ts st := by rw [HR.out]; simp [hl]
   have HR := κ hr_;clear hr_;rw [hl];go_wp2_with fail;exact Ri
 · have hlt : st.pos + 0 < ts.length := by
    rcases Nat.lt_or_ge (st.pos + 0) ts.length with h | h
    · exact h
    · refine absurd ?_ hl;unfold dF aB;rw [ξr, ξx h]; rfl
   have hr_ : R = .ok (dF ts st, { st with pos := st.pos + 1 }) := by rw [HR.out]; simp [hl]
   have HR := κ hr_;clear hr_;have hl2 : (dF ts st == []) = false := by rw [ξY]; exact hl
   obtain ⟨lb, hlb⟩ : ∃ lb, dF ts st = lb := ⟨_, rfl⟩;rw [hlb] at HR hl hl2 ⊢;clear hlb hl;obtain ⟨⟨nv_, dv_, c1_⟩, hf1_, hpos_, hlen_⟩ := HC.ats HT;go_wp2_with fail;go_ret;exact aG.good HR rfl rfl (HC.p.setPos (st.pos + 1) (by omega)) (HC.f.trans (HC.p.frame 1 _))
theorem RS {p : Prop} (h : p := by
 clear hk;have t0 := HTK.cell 0 _ rfl;have t1 := HTK.cell 1 _ rfl;have t2 := HTK.cell 2 _ rfl;have t5 := fun x => (HTK.setb HC (i := 1) x).cell 1 _ rfl;obtain ⟨nv_, dv_, -, c1_, -, -, -, -, hf_⟩ := HC.p.reads;have hf1_ := hf_ 1;have hpos_ := HC.p.pos;have hlen_ := HT.len;clear hf_;go_wp2_with fail;clear t0 t1 t2 t5;clear c1_ hf1_ hpos_ hlen_;exact Ri
 ) : p := h
theorem lU (HT : Tks w0 tv ts) (hp : TSt w0 tv ts b qs w U st) (hne : iY ts st ≠ .error .out) :
 Calls Tryz.prog 182 #[bL b] w (aG w0 tv ts b qs idR (iY ts st) w U) := by
 obtain ⟨R, hR⟩ : ∃ R, iY ts st = R := ⟨_, rfl⟩;rw [hR] at hne ⊢;have HNE := κ hne;unfold iY at hR;have HR := κ hR.symm;have HC := κ (Cur.start hp);clear hR hne hp;go_enter Tryz.func182, Tryz.ntmps182;go_wp2_with fail;replace HR := κ (aK (g := ak ts) HR);refine (aY HT HC.p).mono ?_;rintro e w1 ⟨rfl, hb1⟩;replace HC := κ (HC.below hb1);have HB1 := κ hb1;clear hb1;unfold dc;go_wp2_with fail;replace HR := κ (aK (g := aB ts 0) HR);refine (aU HT HC.p 0 (by omega)).mono ?_;rintro e w2 ⟨⟨pv, rfl, hs⟩, hb2⟩;have hc2 := HC.below hb2;clear HC hb2;have HC := κ hc2;clear hc2;obtain ⟨t, ht⟩ : ∃ t, aB ts 0 st = t := ⟨_, rfl⟩;rw [ht] at hs ⊢;(try rw [ht] at HR)
 have HTS := κ (ht ▸ bC HT 0 st);have HTT := κ ht;clear ht;have HP := κ hs;obtain ⟨a, cap, rfl, -⟩ := hs;unfold tkV;have HSZ := κ HC.size;have HS := κ ((Loc.new HC #[.int .i64 (ak ts st).1, .int .i64 (ak ts st).2] 109).alloc (.cells #[.int .i64 t.kind, str t.text, .slice a t.path.length cap, .int .i64 t.line, .int .i64 t.col] 32));have HTK := κ (Loc.new (HC.alloc (.cells #[.int .i64 (ak ts st).1, .int .i64 (ak ts st).2] 109)) #[.int .i64 t.kind, str t.text, .slice a t.path.length cap, .int .i64 t.line, .int .i64 t.col] 32);rw [show (w2.alloc (.cells #[.int .i64 (ak ts st).1, .int .i64 (ak ts st).2] 109)).heap.size = w2.heap.size + 1 from by simp] at HTK;replace HC := κ ((HC.alloc (.cells #[.int .i64 (ak ts st).1, .int .i64 (ak ts st).2] 109)).alloc (.cells #[.int .i64 t.kind, str t.text, .slice a t.path.length cap, .int .i64 t.line, .int .i64 t.col] 32));cases hk : (t.kind == 3)
 · replace HR := HR.out;simp only [hk, ξh, ↓reduceIte] at HR;replace HR := κ HR;have hk2 : (t.kind != 3) = true := by simp [bne, hk]
   exact RS
 · replace HR := HR.out;simp only [hk, ξh, ↓reduceIte] at HR;replace HR := κ HR;have hk2 : (t.kind != 3) = false := by simp [bne, hk]
   clear hk;have s0 := HS.cell 0 _ rfl;have s1 := HS.cell 1 _ rfl;have s2 := fun x => (HS.setb HC (i := 1) x).cell 0 _ rfl;have s3 := fun x => (HS.setb HC (i := 1) x).cell 1 _ rfl;have t0 := HTK.cell 0 _ rfl;have t1 := HTK.cell 1 _ rfl;have t2 := HTK.cell 2 _ rfl;have t5 := fun x => (HTK.setb HC (i := 1) x).cell 1 _ rfl;obtain ⟨nv_, dv_, -, c1_, -, -, -, -, hf_⟩ := HC.p.reads;have hf1_ := hf_ 1;have hpos_ := HC.p.pos;have hlen_ := HT.len;clear hf_;go_wp2_with fail;clear s0 s1 s2 s3;clear t0 t1 t2 t5;clear c1_ hf1_ hpos_ hlen_;have hk_ := HC.skip (1) HR HNE;have HC := κ hk_.1;have HR := κ hk_.2;clear hk_;refine (bK HC.p (ak ts st) 40 t.text [] (Ints.nil _) (Im.nil _ _) (by simp) (HR.out ▸ HNE.out)).mono (HC.ls HR.out ?_);rintro x9 v9 w9 U9 rfl HFIN;go_wp2_with fail;go_ret;exact HFIN
theorem NdS.setPath {w : World} {U : Rl} {pv : Value} {pa : List Bytes} (hp : Strs w pv pa) (im : Im U pv 4) : ∀ {l : List Nd} {xs : List Value} (i : Nat), NdS w U l xs → NdS w U (l.modify i fun n => { n with path := pa }) (xs.set (6 * i + 2) pv)
 | [], xs, i, h => by
  have : xs = [] := h;subst this;cases i <;> rfl
 | n :: l, _, 0, ⟨pv', kv, ys, hx, h1, h2, h3, h4, hr⟩ => by
  subst hx;exact ⟨pv, kv, ys, by simp [ji], hp, im, h3, h4, hr⟩
 | n :: l, _, i + 1, ⟨pv', kv, ys, hx, h1, h2, h3, h4, hr⟩ => by
  subst hx;refine ⟨pv', kv, ys.set (6 * i + 2) pv, ?_, h1, h2, h3, h4, NdS.setPath hp im i hr⟩;rw [List.set_append];have e : (ji n pv' kv).length = 6 := rfl;rw [e, ψh (by omega), show 6 * (i + 1) + 2 - 6 = 6 * i + 2 by omega]
theorem TSt.setPath (h : TSt w0 tv ts b qs w U st) {g cap n i : Nat} {pv : Value} {pa : List Bytes} (hg : w.cell? ⟨b, 2, none⟩ = some (.slice (some ⟨g, 0, none⟩) n cap)) (hi : i < st.nodes.length) (hp : Strs w pv pa) (im : Im U pv 4) :
 TSt w0 tv ts b qs (w.setCell ⟨g, i * 6 + 2, none⟩ pv) U { st with nodes := st.nodes.modify i fun n => { n with path := pa } } ∧ w.frozen? ⟨g, i * 6 + 2, none⟩ = false ∧ U g = 2 ∧ w0.heap.size ≤ g ∧ g < w.heap.size ∧ ∃ x0, w.cell? ⟨g, i * 6 + 2, none⟩ = some x0 := by
 obtain ⟨nv, dv, xs, h⟩ := h;have hb := h.blk;have e : nv = .slice (some ⟨g, 0, none⟩) n cap := by
  simp [World.cell?, hb] at hg; exact hg
 subst e;have hn := h.nrow;obtain rfl : n = st.nodes.length := by
  rcases id hn.2 with ⟨e, _⟩ | ⟨g', cap', cur, e, _⟩
  · simp at e
  · simp only [ξR] at e; exact e.2.1
 have hg2 : U g = 2 := h.nim g rfl;have hlt := hn.lt g rfl;have hub := h.ub;have hw : ∀ k, k ≠ g → (w.setCell ⟨g, i * 6 + 2, none⟩ pv).heap[k]? = w.heap[k]? := fun k hk => ψf w _ k _ hk;refine ⟨⟨.slice (some ⟨g, 0, none⟩) st.nodes.length cap, dv, xs.set (6 * i + 2) pv, ?_⟩, hn.frozenAt _, hg2, hlt.1, hlt.2, ?_⟩;rotate_left
 · have hxl := h.nds.len;rw [hn.cellAt (i * 6 + 2) (by omega)];exact ⟨_, ξw (by omega)⟩
 have hsz : (w.setCell ⟨g, i * 6 + 2, none⟩ pv).heap.size = w.heap.size := by simp [World.setCell]
 refine ⟨h.base.setCell hlt.1 _, fun k hk => ⟨(h.hi k hk).1, by rw [hsz]; exact (h.hi k hk).2⟩, h.ub, (hw b (by rintro rfl; omega)).trans hb, ?_, ?_, h.nim, cE h.drow (fun k e => hw k (by rintro rfl; have := h.dim _ e; omega)), h.dim,
  h.sc.keep (fun k e _ => ⟨hw k (by rintro rfl; omega), rfl⟩), h.deep, h.pos, h.opn, by simpa using h.many, h.dle, fun k e => (h.fz k e).keep (hw k (by rintro rfl; omega))⟩
 · have := (hn.stored (i * 6 + 2) pv).1;rw [show i * 6 + 2 = 6 * i + 2 by omega] at this ⊢;simpa using this
 · exact (NdS.setPath hp im i h.nds).keep fun k e => ⟨hw k (by rintro rfl; omega), e⟩
theorem Cur.setPath {wc : World} {Uc : Rl} {stc : PS} (h : Cur w0 tv ts b qs w U wc Uc stc) {g cap n i : Nat} {pv : Value} {pa : List Bytes} (hg : wc.cell? ⟨b, 2, none⟩ = some (.slice (some ⟨g, 0, none⟩) n cap)) (hi : i < stc.nodes.length) (hp : Strs wc pv pa) (im : Im Uc pv 4) :
 Cur w0 tv ts b qs w U (wc.setCell ⟨g, i * 6 + 2, none⟩ pv) Uc { stc with nodes := stc.nodes.modify i fun n => { n with path := pa } } := by
 obtain ⟨h1, -, h3, -, -, -⟩ := h.p.setPath hg hi hp im;refine ⟨h1, h.f.setCell (p := ⟨g, i * 6 + 2, none⟩) ?_ pv, h.le⟩;show w.heap.size ≤ g ∨ U g ≠ 0;by_cases hu : U g = 0
 · refine .inl ?_;rcases Nat.lt_or_ge g w.heap.size with hl | hl
   · have := h.f.sub g hl hu; omega
   · exact hl
 · exact .inr hu
theorem TSt.nrowAt (h : TSt w0 tv ts b qs w U st) (hn : st.nodes ≠ []) : ∃ g cap, w.cell? ⟨b, 2, none⟩ = some (.slice (some ⟨g, 0, none⟩) st.nodes.length cap) := by
 obtain ⟨nv, dv, xs, h⟩ := h;have hb := h.blk;obtain ⟨g, cap, rfl, -⟩ := h.nrow.form (ξ6.2 hn);exact ⟨g, cap, by simp [World.cell?, hb]⟩
theorem l8 {s : Int × Int} {k : Int} {text : Bytes} {kids : List Nat} {i : Nat} {st' : PS} (h : aV s k text kids st = .ok (i, st')) : i < st'.nodes.length ∧ st'.nodes ≠ [] := by
 unfold aV at h;split at h
 · cases h
 split at h
 · cases h
 split at h
 · cases h
 split at h
 · cases h
 · simp only [ξm, ξP] at h;obtain ⟨rfl, rfl⟩ := h;exact ⟨by simp, by simp⟩
theorem Tryz.uStrs : Tryz.prog.underlying 30 = some (.slice 9) := by kernel_rfl
end
section
variable {w0 : World} {tv : Value} {ts : List Tok} {b : Nat} {qs : List Nat} {w : World} {U : Rl} {st : PS} {L : Low}
theorem Cur.callE {wc : World} {Uc : Rl} {stc : PS} {α β : Type} {V : α → Value → World → Rl → Prop} {m : M α} {f : α → M β} {R : Except Flt (β × PS)} {e : Ending} {w' : World} (hc : Cur w0 tv ts b qs w U wc Uc stc) (h : aG w0 tv ts b qs V (m stc) wc Uc e w') (HR : R = (m >>= f) stc) :
 (∃ x st' v U', e = .returned v ∧ (V x v w' U' ∧ m stc = .ok (x, st')) ∧ Cur w0 tv ts b qs w U w' U' st' ∧ Fr wc Uc w' U' ∧ R = f x st') ∨
 (∃ l c k, e = zV l c k ∧ aG w0 tv ts b qs (fun (_ : β) _ _ _ => True) R w U e w' ∧ ∀ V' : β → Value → World → Rl → Prop, aG w0 tv ts b qs V' R w U e w') := by
 cases hm : m stc with
 | error g =>
  rcases hc.call h HR with ⟨x, st', v, U', h1, h2, h3, h4, h5⟩ | h6
  · rw [hm] at h;cases g with
    | out => exact h.elim
    | stop l c k => obtain ⟨h7, -⟩ := h; rw [h1] at h7; cases h7
  · exact .inr h6
 | ok y =>
  rcases hc.call h HR with ⟨x, st', v, U', h1, h2, h3, h4, h5⟩ | h6
  · have h0 := h;rw [hm] at h0;obtain ⟨v2, U2, k1, k2, k3, k4⟩ := h0;exact .inl ⟨y.1, y.2, v2, U2, k1, ⟨k2, rfl⟩, hc.next k3 k4, k4, HR.trans (bind_ok hm)⟩
  · obtain ⟨l, c, k, h7, -⟩ := h6;rw [hm] at h;obtain ⟨v2, U2, k1, -⟩ := h;rw [k1] at h7; cases h7
theorem iB {ops : Array Oper} {o : Oper} {a : Act} {w : World} {K : Act → World → Prop} {Q : Exit → Act → World → Prop} {E : Prop} (hgd : o.guard = none) (s x : Operand)
 (ho : o.op = .call { callee := .builtin .append, args := #[s, x], argTypes := #[30, 30] }) (hs : a.eval s = .slice none 0 0) {pv : Value} (hx : a.eval x = pv) {l : List Bytes} (hl : Strs w pv l) (hn : l.length ≤ 1099511627776)
 (h : ∀ (ao : Option Addr) (c : Nat) w', Strs w' (.slice ao l.length c) l → w.grownBy w' none → (∀ k, (Value.slice ao l.length c).ownBlock = some k → k = w.heap.size ∧ Fz w' k) → K (a.put o.dst (.slice ao l.length c)) w') :
 if Region.wanted o (yielded ops a.tmps) = true then Oper.wp Tryz.prog o a w K Q else E := by
 obtain ⟨j0, hj, hj0, hj1, hj2⟩ := info_parts Tryz.infoStr;obtain ⟨ao, cap, rfl, hc, hc2⟩ := id hl;cases l with
 | nil =>
  have hw : Region.wanted o (yielded ops a.tmps) = true := by simp [Region.wanted, hgd]
  rw [ψi hw];have hsrc : Src Tryz.prog j0.size 30 (.slice ao ([] : List Bytes).length cap) 0 [] w := by
   refine ⟨.inl ⟨_, Tryz.uStrs⟩, fun _ => rfl, ?_, ?_, by simp, fun _ h => by cases h⟩
   · cases ao with
     | none => exact run_firstCells_none w _ 0 0 cap
     | some p => exact run_firstCells_some w _ 0 p 0 cap [] (by simp) (fun j u h => by simp at h)
   · cases ao with
     | none => exact run_firstCells_none w.drew _ 0 0 cap
     | some p => exact run_firstCells_some w.drew _ 0 p 0 cap [] (by simp) (fun j u h => by simp at h)
  have hrun := run_append_nothing (P := Tryz.prog) w 30 30 o.type 9 j0 Tryz.uStrs hj none 0 0 (ξF _) _ hsrc;unfold Oper.wp execOp;simp only [ho, resolve, invoke, builtin, Sem.run_bind, Sem.run_pure, Result.andThen_ok, List.map_toArray, List.map_cons, List.map_nil, hs, hx, hrun];exact h none 0 w (Strs.nil w) ⟨rfl, rfl, rfl, ξF _, fun _ _ _ => rfl⟩ (fun k e => by simp [Value.ownBlock] at e)
 | cons y r =>
  obtain ⟨pb, off, rfl, hcell⟩ := hc2 (by simp);refine ψj w hgd s x 30 ho w.heap.size 9 j0 (.string ⟨#[]⟩) 1 16 Tryz.uStrs hj hj0 hj1 hj2 rfl (by decide) (.slice none 0 0) 0 [] hs (ξX w _ _ 1) ⟨pb, off, none⟩ (y :: r).length cap ((y :: r).map str) hx (by simp)
   (fun j u hu => ?_) (fun u hu => ?_) (by simp) (by unfold maxLen; omega) (by omega) (ξF _) w.heap.size rfl fun g c w' h1 h2 h3 h4 => ?_
  · rw [ξ0] at hu;obtain ⟨z, hz, rfl⟩ := ξN.1 hu;have := hcell j z hz;unfold Addr.add;split
    · rename_i h0; subst h0; simpa using this
    · exact this
  · obtain ⟨z, -, rfl⟩ := List.mem_map.1 hu;rfl
  · rw [Nat.zero_add, List.nil_append] at h1;rw [Nat.zero_add];have hg : g = w.heap.size := by
     rcases h3 with h3 | h3
     · simp [Value.ownBlock] at h3
     · exact h3
    refine h (some ⟨g, 0, none⟩) c w' ?_ (by simpa [Value.ownBlock] using h2) (fun k e => by simp only [Value.ownBlock, ξO] at e; subst e; exact ⟨hg, Fz.row h1 _ rfl⟩);have hcap : (y :: r).length ≤ c := by
     rcases id h1.2 with ⟨e, _⟩ | ⟨g', cap', cur, e, _, _, hle, _⟩
     · simp at e
     · simp only [ξR] at e; omega
    refine ⟨_, c, rfl, hcap, fun _ => ⟨g, 0, rfl, fun j z hz => ?_⟩⟩;have := h1.cells (g := g) rfl j (str z) (by rw [ξ0, hz]; rfl);rw [Nat.zero_add, ← iA]; exact this
theorem qV (HT : Tks w0 tv ts) (k : Nat) (st : PS) : (aB ts k st).path.length ≤ 1099511627776 := by
 unfold aB;rcases Nat.lt_or_ge (st.pos + k) ts.length with h1 | h1
 · rw [ξr, ξw h1];exact HT.pth _ (List.getElem_mem h1)
 · rw [ξr, ξx h1];simp [qq]
theorem Cur.grownNone {wc : World} {Uc : Rl} {stc : PS} (h : Cur w0 tv ts b qs w U wc Uc stc) {w2 : World} (hg : wc.grownBy w2 none) : Cur w0 tv ts b qs w U w2 Uc stc :=
 ⟨h.p.grown hg (fun k e => by cases e), h.f.grown hg (fun k e => by cases e), h.le⟩
theorem Cur.giveNew {wc : World} {Uc : Rl} {stc : PS} {v : Value} (h : Cur w0 tv ts b qs w U wc Uc stc) (hv : ∀ k, v.ownBlock = some k → Uc k = 0 ∧ w.heap.size ≤ k ∧ Fz wc k) : Cur w0 tv ts b qs w U wc (Uc.give v 4) stc := by
 unfold Rl.give;cases hb : v.ownBlock with
 | none => exact h
 | some k =>
  obtain ⟨h1, h2, h3⟩ := hv k hb;exact ⟨h.p.take h1 ⟨ξG h.le h2, h3.lt⟩ (fun _ => h3), h.f.set (.inl h2), h.le⟩
theorem Cur.pathDone {wc wl : World} {Uc : Rl} {stc : PS} (h : Cur w0 tv ts b qs w U wc Uc stc) {g gc n i : Nat} {v : Value} {pa : List Bytes} (hg : wc.cell? ⟨b, 2, none⟩ = some (.slice (some ⟨g, 0, none⟩) n gc)) (hi : i < stc.nodes.length) (hgr : wc.drew.grownBy wl none)
 (hs : Strs wl v pa) (ho : ∀ k, v.ownBlock = some k → k = wc.drew.heap.size ∧ Fz wl k) :
 ∃ U', Cur w0 tv ts b qs w U (wl.setCell ⟨g, i * 6 + 2, none⟩ v) U' { stc with nodes := stc.nodes.modify i fun n => { n with path := pa } } ∧ wl.cell? ⟨b, 2, none⟩ = some (.slice (some ⟨g, 0, none⟩) n gc) ∧ wl.frozen? ⟨g, i * 6 + 2, none⟩ = false ∧ (∃ x0, wl.cell? ⟨g, i * 6 + 2, none⟩ = some x0) ∧
  (wl.setCell ⟨g, i * 6 + 2, none⟩ v).cell? ⟨b, 2, none⟩ = some (.slice (some ⟨g, 0, none⟩) n gc) ∧ (∀ (k : Nat) j x, Uc k = 0 → wc.cell? ⟨k, j, none⟩ = some x → wl.cell? ⟨k, j, none⟩ = some x ∧ (wl.setCell ⟨g, i * 6 + 2, none⟩ v).cell? ⟨k, j, none⟩ = some x) ∧
  (∀ k cs T, Loc wc Uc k cs T → Loc (wl.setCell ⟨g, i * 6 + 2, none⟩ v) U' k cs T) := by
 have hsz : wc.drew.heap.size = wc.heap.size := rfl;have h1 := h.drew.grownNone hgr;have h2 := h1.giveNew (v := v) fun k e => by
  obtain ⟨e1, e2⟩ := ho k e;rw [hsz] at e1;subst e1;exact ⟨h.p.zero (ξF _), h.size, e2⟩
 have hbel : Below wc.heap.size wc wl := ((show Below wc.heap.size wc wc.drew from ⟨rfl, rfl, rfl, ξF _, fun _ _ => rfl⟩).grown hgr (ξF _) (fun k e => by cases e));have hgl := cell_later hbel hg;obtain ⟨k1, k2, k3, k4, k5, k6⟩ := h2.p.setPath hgl hi hs (Im.give Uc v 4);have hgv : v.ownBlock ≠ some g := fun e => by
  have := (ho g e).1;rw [hsz] at this;have h6 := h.p.zero (k := g) (by omega);obtain ⟨-, -, k3', -, -, -⟩ := h.p.setPath (pv := .slice none 0 0) (pa := []) hg hi (Strs.nil _) (Im.nil _ _);omega
 have hcell : ∀ (k : Nat) j x, k ≠ g → wc.cell? ⟨k, j, none⟩ = some x → wl.cell? ⟨k, j, none⟩ = some x ∧ (wl.setCell ⟨g, i * 6 + 2, none⟩ v).cell? ⟨k, j, none⟩ = some x := fun k j x hk hx => by
  have e := cell_later hbel hx;refine ⟨e, ?_⟩;have : (wl.setCell ⟨g, i * 6 + 2, none⟩ v).heap[k]? = wl.heap[k]? := ψf wl _ k _ hk;exact (World.cell?_of_block (w := wl) (a := ⟨k, j, none⟩) this).trans e
 rw [wJ hgv] at k3;have hub := h.p.ub;refine ⟨_, h2.setPath hgl hi hs (Im.give Uc v 4), hgl, k2, k6, (hcell b 2 _ (by rintro rfl; omega) hg).2, fun k j x hk hx => hcell k j x (by rintro rfl; omega) hx, fun k cs T hl => ?_⟩;have hkg : k ≠ g := by rintro rfl; have := hl.2; omega
 have hkl := hl.lt;refine ⟨(ψf wl _ k _ hkg).trans ((hbel.block k hkl).trans hl.1), ?_⟩;refine (wJ fun e => ?_).trans hl.2;have := (ho k e).1;rw [hsz] at this;omega
theorem kK (HT : Tks w0 tv ts) (k : Int) (hp : TSt w0 tv ts b qs w U st) (hne : jV ts k st ≠ .error .out) :
 Calls Tryz.prog 103 #[bL b, .int .i64 k] w (aG w0 tv ts b qs idR (jV ts k st) w U) := by
 obtain ⟨R, hR⟩ : ∃ R, jV ts k st = R := ⟨_, rfl⟩;rw [hR] at hne ⊢;have HNE := κ hne;unfold jV at hR;have HR := κ hR.symm;have HC := κ (Cur.start hp);clear hR hne hp;go_enter Tryz.func103, Tryz.ntmps103;go_wp2_with fail;replace HR := κ (aK (g := ak ts) HR);refine (aY HT HC.p).mono ?_;rintro e w1 ⟨rfl, hb1⟩;replace HC := κ (HC.below hb1);have HB1 := κ hb1;clear hb1;unfold dc;go_wp2_with fail;replace HR := κ (aK (g := aB ts 0) HR);refine (aU HT HC.p 0 (by omega)).mono ?_;rintro e w2 ⟨⟨pv, rfl, hs⟩, hb2⟩;have hc2 := HC.below hb2;clear HC hb2;have HC := κ hc2;clear hc2;obtain ⟨t, ht⟩ : ∃ t, aB ts 0 st = t := ⟨_, rfl⟩;rw [ht] at hs ⊢;(try rw [ht] at HR)
 have HTS := κ (ht ▸ bC HT 0 st);have HTT := κ ht;clear ht;have HP := κ hs;obtain ⟨a, cap, rfl, -⟩ := hs;unfold tkV;have HSZ := κ HC.size;have HS := κ ((Loc.new HC #[.int .i64 (ak ts st).1, .int .i64 (ak ts st).2] 109).alloc (.cells #[.int .i64 t.kind, str t.text, .slice a t.path.length cap, .int .i64 t.line, .int .i64 t.col] 32));have HTK := κ (Loc.new (HC.alloc (.cells #[.int .i64 (ak ts st).1, .int .i64 (ak ts st).2] 109)) #[.int .i64 t.kind, str t.text, .slice a t.path.length cap, .int .i64 t.line, .int .i64 t.col] 32);rw [show (w2.alloc (.cells #[.int .i64 (ak ts st).1, .int .i64 (ak ts st).2] 109)).heap.size = w2.heap.size + 1 from by simp] at HTK;replace HC := κ ((HC.alloc (.cells #[.int .i64 (ak ts st).1, .int .i64 (ak ts st).2] 109)).alloc (.cells #[.int .i64 t.kind, str t.text, .slice a t.path.length cap, .int .i64 t.line, .int .i64 t.col] 32));cases hk : (t.kind == 2)
 · replace HR := HR.out;simp only [hk, ξh, ↓reduceIte] at HR;replace HR := κ HR;have hk2 : (t.kind != 2) = true := by simp [bne, hk]
   exact RS
 · replace HR := HR.out;simp only [hk, ξh, ↓reduceIte] at HR;replace HR := κ HR;have hk2 : (t.kind != 2) = false := by simp [bne, hk]
   clear hk;have s0 := HS.cell 0 _ rfl;have s1 := HS.cell 1 _ rfl;have s2 := fun x => (HS.setb HC (i := 1) x).cell 0 _ rfl;have s3 := fun x => (HS.setb HC (i := 1) x).cell 1 _ rfl;have t0 := HTK.cell 0 _ rfl;have t1 := HTK.cell 1 _ rfl;have t2 := HTK.cell 2 _ rfl;have t5 := fun x => (HTK.setb HC (i := 1) x).cell 1 _ rfl;obtain ⟨nv_, dv_, -, c1_, -, -, -, -, hf_⟩ := HC.p.reads;have hf1_ := hf_ 1;have hpos_ := HC.p.pos;have hlen_ := HT.len;clear hf_;go_wp2_with fail;clear s0 s1 s2 s3;clear t0 t1 t2 t5;clear c1_ hf1_ hpos_ hlen_;have HTK := κ (HTK.setb HC (i := 1) (.int .i64 ((st.pos : Int) + 1)));have hk_ := HC.skip (1) HR HNE;have HC := κ hk_.1;have HR := κ hk_.2;clear hk_;refine (bK HC.p (ak ts st) k t.text [] (Ints.nil _) (Im.nil _ _) (by simp) (aC HR.out HNE.out)).mono ?_;intro e w9 hq9;rcases HC.callE hq9 HR with ⟨x9, st9, v9, U9, rfl, ⟨rfl, hE⟩, hc9, hf9, hr9⟩ | ⟨ln, cl, kd, rfl, hb9, hd9⟩;rotate_left
   · clear hq9 hb9;have HD := κ hd9; clear hd9;go_wp2_with fail;exact ⟨rfl, HD _⟩
   replace HTK := κ (HTK.step hf9);have HF9 := κ hf9;clear HR HC hq9 hf9;have HC := κ hc9;have HR := κ hr9;clear hc9 hr9;go_wp2_with fail;obtain ⟨g, gc, hg⟩ := HC.p.nrowAt (l8 hE).2;have hi := (l8 hE).1;have HG := κ (ξc hg hi);have hil : (x9 : Int) < (st9.nodes.length : Int) := by omega
   have t2 : w9.cell? ⟨w2.heap.size + 1, 2, none⟩ = some (.slice a t.path.length cap) := HTK.cell 2 _ rfl;have HP9 := κ (HP.below HC.p.base);have HPL := κ (show t.path.length ≤ 1099511627776 from HTT.out ▸ qV HT 0 _);clear hE hi;refine ψn (S := (fun W => W.cell? ⟨b, 2, none⟩ = some (.slice (some ⟨g, 0, none⟩) st9.nodes.length gc) ∧ W.cell? ⟨w2.heap.size + 1, 2, none⟩ = some (.slice a t.path.length cap))) (by kernel_rfl) (by exact ⟨hg, t2⟩) (fun hH0 => ?_);refine tk 0 hH0 ?_;refine tk 1 hH0 ?_;refine tk 2 hH0 ?_;refine tk 3 hH0 ?_;refine tk 4 hH0 ?_;refine tk 5 hH0 ?_;refine tk 6 hH0 ?_;(try simp only [z0, zz])
   refine rk 7 fun K hK => ?_;refine iB rfl (.const (Value.slice none 0 0)) (.tmp 36) rfl (by first | rfl | simp [Act.eval]) (by first | (simp [Act.eval]; done) | (simp [Act.eval]; rfl) | rfl) HP9.out HPL.out ?_;intro ao9 c9 wl hs9 hg9 ho9;obtain ⟨U9', hcf, hgl, hfz, ⟨x0, hx0⟩, hgs, hcl, hlo⟩ := HC.pathDone HG.out.1 HG.out.2 hg9 hs9 ho9;have HCF := κ hcf;have HCL := κ hcl;clear hcf hs9 hg9 ho9 hcl hlo;refine hK _ _ (by exact ⟨hgl, (HCL _ 2 _ HTK.out.2 t2).1⟩) fun hH1 => ?_;clear hK K hH0;(try simp only [z0, zz])
   refine tk 8 hH1 ?_;refine tk 9 hH1 ?_;(try simp only [z0, zz])
   refine rk 10 fun K hK => ?_;(try simp only [zz])
   go_simp;refine hK _ _ (by exact ⟨hgs, (HCL _ 2 _ HTK.out.2 t2).2⟩) fun hH2 => ?_;clear hK K hH1;(try simp only [z0, zz])
   refine ψk (by kernel_rfl) ?_ _;go_wp2_with fail;go_ret;exact aG.good HR rfl rfl HCF.p HCF.f
end
end Go.Proofs.YtbchkldhnjahaaaGreatDoor
namespace Kiln
theorem qW {α : Type} {ks : List α} {t : Nat} {k : α} (ht : ks[t]? = some k) : ks.take (t + 1) = ks.take t ++ [k] := by
 rw [List.take_add_one, ht]; rfl
end Kiln
namespace Go.Proofs.YtbchkldhnjahaaaGreatDoor
open Go.RowKit Kiln
open Go.Proofs
theorem Ints.below {w w' : World} {v : Value} {l : List Int} (h : Ints w v l) (hb : Below w.heap.size w w') : Ints w' v l := by
 obtain ⟨a, cap, rfl, hlc, hcm, hl⟩ := h;refine ⟨a, cap, rfl, hlc, hcm, fun hne => ?_⟩;obtain ⟨b, off, rfl, hx⟩ := hl hne;exact ⟨b, off, rfl, fun i x hi => cell_later hb (hx i x hi)⟩
def NdT (w : World) (v : Value) (l : List Nd) : Prop :=
 ∃ a cap, v = .slice a l.length cap ∧ (l ≠ [] → ∃ b off, a = some ⟨b, off, none⟩ ∧ ∀ (i : Nat) n, l[i]? = some n → ∃ pv kv, Strs w pv n.path ∧ Ints w kv n.kids ∧ ∀ (j : Nat) x, (ji n pv kv)[j]? = some x → w.cell? ⟨b, off + (6 * i + j), none⟩ = some x)
theorem NdT.below {w w' : World} {v : Value} {l : List Nd} (h : NdT w v l) (hb : Below w.heap.size w w') : NdT w' v l := by
 obtain ⟨a, cap, hv, hl⟩ := h;refine ⟨a, cap, hv, fun hne => ?_⟩;obtain ⟨b, off, ha, hx⟩ := hl hne;refine ⟨b, off, ha, fun i u hi => ?_⟩;obtain ⟨pv, kv, hs, hk, hc⟩ := hx i u hi;exact ⟨pv, kv, hs.below hb, hk.below hb, fun j x hj => cell_later hb (hc j x hj)⟩
theorem NdT.nil (w : World) : NdT w (.slice none 0 0) [] := ⟨none, 0, rfl, fun h => absurd rfl h⟩
theorem EJ {w : World} {B : Nat} {U : Rl} {v : Value} {l : List Nd} {xs : List Value} (ho : w.ownsRow B 41 6 v l.length xs) (ht : NdS w U l xs) : NdT w v l := by
 rcases id ho.2 with ⟨rfl, h0⟩ | ⟨g, cap, cur, rfl, _⟩
 · have : l = [] := ξq h0;subst this;exact NdT.nil w
 · refine ⟨_, cap, rfl, fun _ => ⟨g, 0, rfl, fun i u hi => ?_⟩⟩;obtain ⟨pv, kv, hs, _, hk, _, hc⟩ := ht.at i u hi;refine ⟨pv, kv, hs, hk, fun j x hj => ?_⟩;have := ho.cells (g := g) rfl (6 * i + j) x (hc j x hj);rw [Nat.zero_add, ← iA]; exact this
theorem NdT.one {w : World} {v : Value} {l : List Nd} (h : NdT w v l) {i : Nat} {n : Nd} (hi : l[i]? = some n) :
 ∃ b off cap pv kv, v = .slice (some ⟨b, off, none⟩) l.length cap ∧ Strs w pv n.path ∧ Ints w kv n.kids ∧ ∀ (j : Nat) x, (ji n pv kv)[j]? = some x → ∀ q, q = off + i * 6 + j → w.cell? ⟨b, q, none⟩ = some x := by
 obtain ⟨a, cap, rfl, hl⟩ := h;obtain ⟨b, off, rfl, hx⟩ := hl (by rintro rfl; simp at hi);obtain ⟨pv, kv, hs, hk, hc⟩ := hx i n hi;exact ⟨b, off, cap, pv, kv, rfl, hs, hk, fun j x hj q hq => by subst hq; rw [show off + i * 6 + j = off + (6 * i + j) by omega]; exact hc j x hj⟩
end Go.Proofs.YtbchkldhnjahaaaGreatDoor
