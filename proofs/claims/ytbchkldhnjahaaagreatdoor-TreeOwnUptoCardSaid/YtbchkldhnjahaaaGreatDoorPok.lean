/- Part of the proof. Conditions: those of each theorem. -/
import Derived.Maps.OwnRows
import Derived.Test.YtbchkldhnjahaaaGreatDoorPoa
import Derived.Test.YtbchkldhnjahaaaGreatDoorPoi
import Derived.Test.YtbchkldhnjahaaaGreatDoorPoj
set_option maxRecDepth 100000
set_option maxHeartbeats 40000000
namespace Go.Proofs.YtbchkldhnjahaaaGreatDoor
open Go.RowKit Kiln
open Go.Proofs
section
variable {w0 : World} {tv : Value} {ts : List Tok} {b : Nat} {qs : List Nat} {w : World} {U : Rl} {st : PS} {L : Low}
structure Kds (wc : World) (Uc : Rl) (v : Value) (l : List Nat) : Prop where
 ints : Ints wc v (l.map Int.ofNat)
 im : Im Uc v 4
theorem Kds.below {wc w' : World} {Uc : Rl} {v : Value} {l : List Nat} (h : Kds wc Uc v l) (hb : Below wc.heap.size wc w') : Kds w' Uc v l := ⟨h.ints.below hb, h.im⟩
theorem Kds.alloc {wc : World} {Uc : Rl} {v : Value} {l : List Nat} (h : Kds wc Uc v l) (o : Obj) : Kds (wc.alloc o) Uc v l := h.below (bQ (ξf _ _) o)
theorem Kds.setb {wc : World} {Uc : Rl} {stc : PS} {v : Value} {l : List Nat} (h : Kds wc Uc v l) (hc : Cur w0 tv ts b qs w U wc Uc stc) {i : Nat} (x : Value) : Kds (wc.setCell ⟨b, i, none⟩ x) Uc v l :=
 ⟨h.ints.keep fun k e => ψf wc _ k x (by rintro rfl; have h1 := hc.p.ub; have h2 := h.im _ e; exact absurd (h1.symm.trans h2) (by decide)), h.im⟩
theorem Kds.off {wc : World} {Uc : Rl} {v : Value} {l : List Nat} (h : Kds wc Uc v l) {L i : Nat} (hL : Uc L = 0) (x : Value) : Kds (wc.setCell ⟨L, i, none⟩ x) Uc v l :=
 ⟨h.ints.keep fun k e => ψf wc _ k x (by rintro rfl; have h2 := h.im _ e; exact absurd (hL.symm.trans h2) (by decide)), h.im⟩
theorem Loc.set2 {wc : World} {Uc : Rl} {L : Nat} {a c : Value} {T : TypeId} (h : Loc wc Uc L #[a, c] T) (x y : Value) : Loc ((wc.setCell ⟨L, 0, none⟩ x).setCell ⟨L, 1, none⟩ y) Uc L #[x, y] T := by
 have h1 := ψg wc L 0 _ T x h.1;exact ⟨ψg _ L 1 _ T y h1, h.2⟩
theorem Loc.offL {wc : World} {Uc : Rl} {L M i : Nat} {cs : Array Value} {T : TypeId} (h : Loc wc Uc L cs T) (hM : L ≠ M) (x : Value) : Loc (wc.setCell ⟨M, i, none⟩ x) Uc L cs T :=
 ⟨(ψf wc _ L x hM).trans h.1, h.2⟩
theorem Cur.off {wc : World} {Uc : Rl} {stc : PS} (h : Cur w0 tv ts b qs w U wc Uc stc) {L i : Nat} (hL : Uc L = 0) (hge : w.heap.size ≤ L) (x : Value) : Cur w0 tv ts b qs w U (wc.setCell ⟨L, i, none⟩ x) Uc stc :=
 ⟨h.p.off (p := ⟨L, i, none⟩) (ξG h.le hge) hL x, h.f.setCell (p := ⟨L, i, none⟩) (.inl hge) x, h.le⟩
theorem Loc.frozen {wc : World} {Uc : Rl} {L : Nat} {cs : Array Value} {T : TypeId} (h : Loc wc Uc L cs T) (i : Nat) : wc.frozen? ⟨L, i, none⟩ = false := frozen_of_row wc L i _ _ h.1
theorem Kds.form {wc : World} {Uc : Rl} {v : Value} {l : List Nat} (h : Kds wc Uc v l) : ∃ a cap, v = .slice a l.length cap ∧ ∀ (i : Nat) x, l[i]? = some x → ∃ b off, a = some ⟨b, off, none⟩ ∧ wc.cell? ⟨b, off + i, none⟩ = some (.int .i64 x) := by
 obtain ⟨a, cap, e, hx⟩ := dP h.ints;exact ⟨a, cap, by rw [e, ξ4], fun i x hi => hx i x (by rw [ξ0, hi]; rfl)⟩
theorem RQ {p : Prop} (h : p := by
 intro e w9 hq9;rcases HC.callE hq9 HR with ⟨x9, st9, v9, U9, rfl, ⟨rfl, hE⟩, hc9, hf9, hr9⟩ | ⟨ln, cl, kd, rfl, hb9, hd9⟩;rotate_left
 · clear hq9 hb9;have HD := κ hd9; clear hd9;go_wp2_with fail;exact ⟨rfl, HD _⟩
 replace HTK := κ (HTK.step hf9);have HF9 := κ hf9;clear HR HC hq9 hf9;have HC := κ hc9;have HR := κ hr9;clear hc9 hr9;go_wp2_with fail;obtain ⟨g, gc, hg⟩ := HC.p.nrowAt (l8 hE).2;have hi := (l8 hE).1;have HG := κ (ξc hg hi);have hil : (x9 : Int) < (st9.nodes.length : Int) := by omega
 have t2 : w9.cell? ⟨w2.heap.size + 1, 2, none⟩ = some (.slice a t.path.length cap) := HTK.cell 2 _ rfl;have HP9 := κ (HP.below HC.p.base);have HPL := κ (show t.path.length ≤ 1099511627776 from HTT.out ▸ qV HT 0 _);clear hE hi;refine ψn (S := (fun W => W.cell? ⟨b, 2, none⟩ = some (.slice (some ⟨g, 0, none⟩) st9.nodes.length gc) ∧ W.cell? ⟨w2.heap.size + 1, 2, none⟩ = some (.slice a t.path.length cap))) (by kernel_rfl) (by exact ⟨hg, t2⟩) (fun hH0 => ?_);refine tk 0 hH0 ?_;refine tk 1 hH0 ?_;refine tk 2 hH0 ?_;refine tk 3 hH0 ?_;refine tk 4 hH0 ?_;refine tk 5 hH0 ?_;refine tk 6 hH0 ?_;(try simp only [z0, zz])
 refine rk 7 fun K hK => ?_;refine iB rfl (.const (Value.slice none 0 0)) (.tmp 48) rfl (by first | rfl | simp [Act.eval]) (by first | (simp [Act.eval]; done) | (simp [Act.eval]; rfl) | rfl) HP9.out HPL.out ?_;intro ao9 c9 wl hs9 hg9 ho9;obtain ⟨U9', hcf, hgl, hfz, ⟨x0, hx0⟩, hgs, hcl, hlo⟩ := HC.pathDone HG.out.1 HG.out.2 hg9 hs9 ho9;have HCF := κ hcf;have HCL := κ hcl;clear hcf hs9 hg9 ho9 hcl hlo;refine hK _ _ (by exact ⟨hgl, (HCL _ 2 _ HTK.out.2 t2).1⟩) fun hH1 => ?_;clear hK K hH0;(try simp only [z0, zz])
 refine tk 8 hH1 ?_;refine tk 9 hH1 ?_;(try simp only [z0, zz])
 refine rk 10 fun K hK => ?_;(try simp only [zz])
 go_simp;refine hK _ _ (by exact ⟨hgs, (HCL _ 2 _ HTK.out.2 t2).2⟩) fun hH2 => ?_;clear hK K hH1;(try simp only [z0, zz])
 refine ψk (by kernel_rfl) ?_ _;go_wp2_with fail;go_ret;exact aG.good HR rfl rfl HCF.p HCF.f
 ) : p := h
theorem Rf {p : Prop} (h : p := by
 refine (iT HT HC.p).mono ?_;rintro e w9 ⟨rfl, hb9⟩;have HB9 := κ hb9; clear hb9;go_wp2_with fail;exact ⟨rfl, aG.bad HR rfl (HC.p.base.trans (HB9.mono HC.p.base.size))⟩
 ) : p := h
theorem qU (HT : Tks w0 tv ts) (args : List Nat) (av : Value) (hi : Kds w U av args) (hl : args.length ≤ 2199023255552) (hp : TSt w0 tv ts b qs w U st) (hne : iZ ts args st ≠ .error .out) :
 Calls Tryz.prog 262 #[bL b, av] w (aG w0 tv ts b qs idR (iZ ts args st) w U) := by
 have HK := κ hi;have HLL := κ hl;clear hi hl;obtain ⟨R, hR⟩ : ∃ R, iZ ts args st = R := ⟨_, rfl⟩;rw [hR] at hne ⊢;have HNE := κ hne;unfold iZ at hR;have HR := κ hR.symm;have HC := κ (Cur.start hp);clear hR hne hp;obtain ⟨kao, kcap, rfl, hkx⟩ := HK.form;have HKX := κ hkx;clear hkx;go_enter Tryz.func262, Tryz.ntmps262;go_wp2_with fail;replace HR := κ (aK (g := ak ts) HR);refine (aY HT HC.p).mono ?_;rintro e w1 ⟨rfl, hb1⟩;replace HC := κ (HC.below hb1);replace HK := κ (HK.below hb1);have HB1 := κ hb1;clear hb1;unfold dc;go_wp2_with fail;replace HR := κ (aK (g := aB ts 0) HR);refine (aU HT HC.p 0 (by omega)).mono ?_;rintro e w2 ⟨⟨pv, rfl, hs⟩, hb2⟩;have hc2 := HC.below hb2;replace HK := κ (HK.below hb2);clear HC hb2;have HC := κ hc2;clear hc2;obtain ⟨t, ht⟩ : ∃ t, aB ts 0 st = t := ⟨_, rfl⟩;rw [ht] at hs ⊢;(try rw [ht] at HR)
 have HTS := κ (ht ▸ bC HT 0 st);have HTT := κ ht;clear ht;have HP := κ hs;obtain ⟨a, cap, rfl, -⟩ := hs;unfold tkV;have HSZ := κ HC.size;have HS := κ ((Loc.new HC #[.int .i64 (ak ts st).1, .int .i64 (ak ts st).2] 109).alloc (.cells #[.int .i64 t.kind, str t.text, .slice a t.path.length cap, .int .i64 t.line, .int .i64 t.col] 32));have HTK := κ (Loc.new (HC.alloc (.cells #[.int .i64 (ak ts st).1, .int .i64 (ak ts st).2] 109)) #[.int .i64 t.kind, str t.text, .slice a t.path.length cap, .int .i64 t.line, .int .i64 t.col] 32);rw [show (w2.alloc (.cells #[.int .i64 (ak ts st).1, .int .i64 (ak ts st).2] 109)).heap.size = w2.heap.size + 1 from by simp] at HTK;have hc3 := (HC.alloc (.cells #[.int .i64 (ak ts st).1, .int .i64 (ak ts st).2] 109)).alloc (.cells #[.int .i64 t.kind, str t.text, .slice a t.path.length cap, .int .i64 t.line, .int .i64 t.col] 32);replace HK := κ (HK.alloc (.cells #[.int .i64 (ak ts st).1, .int .i64 (ak ts st).2] 109));replace HK := κ (HK.alloc (.cells #[.int .i64 t.kind, str t.text, .slice a t.path.length cap, .int .i64 t.line, .int .i64 t.col] 32));have HC := κ hc3;clear hc3;have HGE := κ (show w.heap.size ≤ w2.heap.size from HSZ);replace HR := κ (aK (g := iC ts) HR);cases hk : (t.kind == 2)
 · have hk2 : (t.kind != 2) = true := by simp [bne, hk]
   replace HR := HR.out;simp only [hk2, Bool.true_or, ξh, ↓reduceIte] at HR;replace HR := κ HR;clear hk;have t0 := HTK.cell 0 _ rfl;have t1 := HTK.cell 1 _ rfl;have t2 := HTK.cell 2 _ rfl;have t5 := fun x => (HTK.setb HC (i := 1) x).cell 1 _ rfl;obtain ⟨nv_, dv_, -, c1_, -, -, -, -, hf_⟩ := HC.p.reads;have hf1_ := hf_ 1;have hpos_ := HC.p.pos;have hlen_ := HT.len;clear hf_;go_wp2_with fail;clear t0 t1 t2 t5;clear c1_ hf1_ hpos_ hlen_;exact Rf
 have hk2 : (t.kind != 2) = false := by simp [bne, hk]
 replace HR := HR.out;simp only [hk2, Bool.false_or, ξh, ↓reduceIte] at HR;replace HR := κ HR;clear hk;go_wp2_with fail;refine (vH HT HC.p).mono ?_;rintro e w4 ⟨rfl, hb4⟩;replace HC := κ (HC.below hb4);replace HS := κ (HS.below hb4);replace HTK := κ (HTK.below hb4);replace HK := κ (HK.below hb4);have HB4 := κ hb4;clear hb4;obtain ⟨B, hB⟩ : ∃ B, iC ts st = B := ⟨_, rfl⟩;rw [hB] at HR ⊢;clear hB;cases B;rotate_left
 · first | replace HR := κ (spt HR.out) | replace HR := κ (spf HR.out)
   go_wp2_with fail;exact Rf
 first | replace HR := κ (spt HR.out) | replace HR := κ (spf HR.out)
 cases args with
 | nil =>
  have s0 := HS.cell 0 _ rfl;have s1 := HS.cell 1 _ rfl;have s2 := fun x => (HS.setb HC (i := 1) x).cell 0 _ rfl;have s3 := fun x => (HS.setb HC (i := 1) x).cell 1 _ rfl;have t0 := HTK.cell 0 _ rfl;have t1 := HTK.cell 1 _ rfl;have t2 := HTK.cell 2 _ rfl;have t5 := fun x => (HTK.setb HC (i := 1) x).cell 1 _ rfl;obtain ⟨nv_, dv_, -, c1_, -, -, -, -, hf_⟩ := HC.p.reads;have hf1_ := hf_ 1;have hpos_ := HC.p.pos;have hlen_ := HT.len;clear hf_;go_wp2_with fail;clear s0 s1 s2 s3;clear t0 t1 t2 t5;clear c1_ hf1_ hpos_ hlen_;have hr_ : R = (cu ts 1 >>= fun _ => aV (ak ts st) 41 t.text [] >>= fun i => setPath i t.path >>= fun _ => pure i) st := HR.out;have HR := κ hr_;clear hr_;have HTK := κ (HTK.setb HC (i := 1) (.int .i64 ((st.pos : Int) + 1)));have HK := κ (HK.setb HC (i := 1) (.int .i64 ((st.pos : Int) + 1)));have hk_ := HC.skip (1) HR HNE;have HC := κ hk_.1;have HR := κ hk_.2;clear hk_;refine (bK HC.p (ak ts st) 41 t.text [] HK.ints HK.im HLL (aC HR HNE)).mono ?_;exact RQ
 | cons x r =>
  obtain ⟨kb, koff, rfl, kc⟩ := HKX.out 0 x rfl;have hr_ : R = (ofM x >>= fun s => cu ts 1 >>= fun _ => aV s 41 t.text (x :: r) >>= fun i => setPath i t.path >>= fun _ => pure i) st := HR.out;have HR := κ hr_;clear hr_;have hkn : (0 : Int) < ((x :: r).length : Int) := by simp
  have kc2 : w4.cell? ⟨kb, koff, none⟩ = some (.int .i64 x) := by
   obtain ⟨a', c', e, h⟩ := HK.form;simp only [ξR] at e;obtain ⟨b', o', e', hc'⟩ := h 0 x rfl;rw [← e.1] at e';simp only [ξO, Addr.mk.injEq] at e';obtain ⟨rfl, rfl, -⟩ := e';exact hc'
  have ho_ := dX HR HNE;have hlt := ho_.1;have HR := κ ho_.2;clear ho_;go_wp2_with fail;refine (fN HC.p x hlt).mono ?_;rintro e w5 ⟨rfl, hb5⟩;replace HC := κ (HC.below hb5);replace HS := κ (HS.below hb5);replace HTK := κ (HTK.below hb5);replace HK := κ (HK.below hb5);have HB5 := κ hb5;clear hb5;clear hlt kc kc2 HB5 HKX;have f0 := HS.frozen 0;have f1 := HS.frozen 1;have s00 := HS.cell 0 _ rfl;have s01 := HS.cell 1 _ rfl;have hge : w.heap.size ≤ w2.heap.size := HGE.out;have hc6 := (HC.off (i := 0) HS.out.2 hge (.int .i64 (ofP x st).1)).off (i := 1) HS.out.2 hge (.int .i64 (ofP x st).2);have hs6 := HS.set2 (.int .i64 (ofP x st).1) (.int .i64 (ofP x st).2);have htk6 := (HTK.offL (i := 0) (M := w2.heap.size) (by omega) (.int .i64 (ofP x st).1)).offL (i := 1) (M := w2.heap.size) (by omega) (.int .i64 (ofP x st).2);have hk6 := (HK.off (i := 0) HS.out.2 (.int .i64 (ofP x st).1)).off (i := 1) HS.out.2 (.int .i64 (ofP x st).2);have HC := κ hc6;have HS := κ hs6;have HTK := κ htk6;have HK := κ hk6;clear hc6 hs6 htk6 hk6 hge;unfold dc;have s0 := HS.cell 0 _ rfl;have s1 := HS.cell 1 _ rfl;have s2 := fun x => (HS.setb HC (i := 1) x).cell 0 _ rfl;have s3 := fun x => (HS.setb HC (i := 1) x).cell 1 _ rfl;have t0 := HTK.cell 0 _ rfl;have t1 := HTK.cell 1 _ rfl;have t2 := HTK.cell 2 _ rfl;have t5 := fun x => (HTK.setb HC (i := 1) x).cell 1 _ rfl;obtain ⟨nv_, dv_, -, c1_, -, -, -, -, hf_⟩ := HC.p.reads;have hf1_ := hf_ 1;have hpos_ := HC.p.pos;have hlen_ := HT.len;clear hf_;go_wp2_with fail;clear f0 f1 s00 s01;clear s0 s1 s2 s3;clear t0 t1 t2 t5;clear c1_ hf1_ hpos_ hlen_;have HTK := κ (HTK.setb HC (i := 1) (.int .i64 ((st.pos : Int) + 1)));have HK := κ (HK.setb HC (i := 1) (.int .i64 ((st.pos : Int) + 1)));have hk_ := HC.skip (1) HR HNE;have HC := κ hk_.1;have HR := κ hk_.2;clear hk_;refine (bK HC.p (ofP x st) 41 t.text (x :: r) HK.ints HK.im HLL (aC HR HNE)).mono ?_;exact RQ
end
section
variable {w0 : World} {tv : Value} {ts : List Tok} {b : Nat} {qs : List Nat} {w : World} {U : Rl} {st : PS} {L : Low}
theorem Loc.beside {wc w2 : World} {Uc : Rl} {B k : Nat} {cs : Array Value} {T : TypeId} {v : Value} {l : List Int} (h : Loc wc Uc k cs T) (hv : LR B wc Uc v l) (hL : k < B) (hg : wc.grownBy w2 v.ownBlock) : Loc w2 Uc k cs T :=
 ⟨(hg.block k h.lt (fun e => by have := (hv.lt k e.symm).1; omega)).trans h.1, h.2⟩
theorem Loc.besideT {wc w2 : World} {Uc : Rl} {B k : Nat} {cs : Array Value} {T : TypeId} {v : Value} {l : List Int} (h : Loc wc Uc k cs T) (hv : LR B wc Uc v l) (hT : T ≠ 3) (hg : wc.grownBy w2 v.ownBlock) : Loc w2 Uc k cs T :=
 ⟨(hg.block k h.lt (fun e => by
  rcases id hv.1.2 with ⟨e1, _⟩ | ⟨g, cap, cur, e1, _, h2, _⟩
  · rw [e1] at e; simp [Value.ownBlock] at e
  · rw [e1] at e;simp only [Value.ownBlock, ξO] at e;subst e;rw [h.1] at h2;simp only [ξO, Obj.cells.injEq] at h2;exact hT h2.2.1)).trans h.1, h.2⟩
theorem Loc.lits {wc : World} {Uc : Rl} {k r : Nat} {cs : Array Value} {T : TypeId} {o : Obj} (h : Loc wc Uc k cs T) : Loc (wc.alloc o) (Uc.set wc.heap.size r) k cs T := (h.alloc o).set (Nat.ne_of_lt h.lt)
theorem LR.lits {wc : World} {Uc : Rl} {B r : Nat} {v : Value} {l : List Int} {o : Obj} (h : LR B wc Uc v l) : LR B (wc.alloc o) (Uc.set wc.heap.size r) v l :=
 ⟨h.1.alloc o, fun k e => (Rl.set_other (Nat.ne_of_lt (h.lt k e).2)).trans (h.2 k e)⟩
theorem LR.below {B : Nat} {wc w' : World} {Uc : Rl} {v : Value} {l : List Int} (h : LR B wc Uc v l) (hb : Below wc.heap.size wc w') : LR B w' Uc v l :=
 ⟨cE h.1 fun k e => hb.block k (h.lt k e).2, h.2⟩
theorem LR.drew {B : Nat} {wc : World} {Uc : Rl} {v : Value} {l : List Int} (h : LR B wc Uc v l) : LR B wc.drew Uc v l := h
theorem LR.low {B B' : Nat} {wc : World} {Uc : Rl} {v : Value} {l : List Int} (h : LR B wc Uc v l) (hB : B' ≤ B) : LR B' wc Uc v l := ⟨h.1.mono hB, h.2⟩
theorem LR.setb {B : Nat} {wc : World} {Uc : Rl} {stc : PS} {v : Value} {l : List Int} (h : LR B wc Uc v l) (hc : Cur w0 tv ts b qs w U wc Uc stc) {i : Nat} (x : Value) : LR B (wc.setCell ⟨b, i, none⟩ x) Uc v l := h.step (hc.p.frame i x)
theorem yL {sign : Bytes} {part : M Nat} {f : Nat} {l : List Nat} {R : Except Flt (List Nat × PS)} (HR : R = jq ts sign part (f + 1) l st) :
 R = (dA ts >>= fun s => cK ts >>= fun text => bF ts sign >>= fun _ => part >>= fun e => aV s 28 text [e] >>= fun i => cA l >>= fun _ => aX ts [44] >>= fun c => if c = true then jq ts sign part f (l ++ [i]) else (bF ts [125] >>= fun _ => pure (l ++ [i]))) st := HR
theorem uZ (HT : Tks w0 tv ts) (sign : Bytes) (F : Nat) (part : M Nat) (eg : ∀ (args : Array Value) (w : World), (callFunc F args).run Tryz.prog w = .ok (.enter F args) w) (hF : Ok w0 tv ts b F part) (hp : TSt w0 tv ts b qs w U st) (hne : jo ts sign part st ≠ .error .out) :
 Calls Tryz.prog 283 #[bL b, str sign, .func (.func F) #[bL b] #[]] w (aG w0 tv ts b qs (Mh w.heap.size) (jo ts sign part st) w U) := by
 obtain ⟨R, hR⟩ : ∃ R, jo ts sign part st = R := ⟨_, rfl⟩;rw [hR] at hne ⊢;have HNE := κ hne;unfold jo at hR;have HR := κ hR.symm;have HC := κ (Cur.start hp);clear hR hne hp;go_enter Tryz.func283, Tryz.ntmps283;go_wp2_with fail;refine (aI HT HC.p [125]).mono (HC.cl HR ?_);rintro x1 st1 v1 w1 U1 rfl HF1 HC HR;cases x1;rotate_left
 · first | replace HR := κ (spt HR.out) | replace HR := κ (spf HR.out)
   go_wp2_with fail;go_ret;exact aG.good HR.out rfl ⟨LR.nil _ _ _, by simp⟩ HC.p HC.f
 first | replace HR := κ (spt HR.out) | replace HR := κ (spf HR.out)
 go_wp2_with fail;go_loopg [7] (ts.length + 1) (fun g v wr => ∃ l st' U', LR w.heap.size wr U' v (l.map Int.ofNat) ∧ l.length ≤ 1099511627776 ∧ Cur w0 tv ts b qs w U wr U' st' ∧ R = (jq ts sign part g l) st')
 case atStart => exact ⟨[], st1, U1, LR.nil _ _ _, by simp, HC.out, HR.out⟩
 case round =>
  obtain ⟨l, st', U', hl, hll, hc, hr⟩ := hrel;cases gk with
  | zero => exact absurd hr HNE
  | succ fu =>
   have HR := κ hr;have HC := κ hc;have HL := κ hl;have HLL := κ hll;clear hr hc hl hll;replace HR := κ (yL HR);go_wp2_with fail;replace HR := κ (aK (g := ak ts) HR);refine (aY HT HC.p).mono ?_;rintro e w1 ⟨rfl, hb1⟩;replace HC := κ (HC.below hb1);replace HL := κ (HL.below hb1);have HB1 := κ hb1;clear hb1;obtain ⟨wh, hwh⟩ : ∃ wh, w1 = wh := ⟨_, rfl⟩;rw [hwh] at HC HL ⊢;clear hwh;unfold dc;go_wp2_with fail;have HS := κ (Loc.new HC #[.int .i64 (ak ts st').1, .int .i64 (ak ts st').2] 109);have hc_ := HC.alloc (.cells #[.int .i64 (ak ts st').1, .int .i64 (ak ts st').2] 109);replace HL := κ (HL.alloc (.cells #[.int .i64 (ak ts st').1, .int .i64 (ak ts st').2] 109));have HC := κ hc_;clear hc_;refine (kC HT HC.p (aC HR HNE)).mono (HC.cl HR ?_);rintro x3 st3 v3 w3 U3 rfl HF3 HC HR;replace HL := κ (HL.step HF3);replace HS := κ (HS.step HF3);go_wp2_with fail;refine (bf HT HC.p sign).mono (HC.cl HR ?_);rintro x4 st4 v4 w4 U4 rfl HF4 HC HR;replace HL := κ (HL.step HF4);replace HS := κ (HS.step HF4);go_wp2_with fail;have s0 := HS.cell 0 _ rfl;have s1 := HS.cell 1 _ rfl;refine ψn (S := (fun W => W.cell? ⟨wh.heap.size, 0, none⟩ = some (.int .i64 (ak ts st').1) ∧ W.cell? ⟨wh.heap.size, 1, none⟩ = some (.int .i64 (ak ts st').2))) (by kernel_rfl) (by exact ⟨s0, s1⟩) (fun hH0 => ?_);refine tk 0 hH0 ?_;refine tk 1 hH0 ?_;refine tk 2 hH0 ?_;refine tk 3 hH0 ?_;refine tk 4 hH0 ?_;(try simp only [z0, zz])
   refine rk 5 fun K hK => ?_;(try simp only [zz])
   go_simp;refine (hF _ _ _ _ HC.p.drew (aC HR HNE)).mono (HC.drew.cl HR ?_);rintro x5 st5 v5 w5 U5 rfl HF5 HC HR;replace HL := κ (HL.drew.step HF5);replace HS := κ (HS.drew.step HF5);go_wp2_with fail;refine hK _ _ (by exact ⟨HS.cell 0 _ rfl, HS.cell 1 _ rfl⟩) fun hH1 => ?_;clear hK K hH0;(try simp only [z0, zz])
   refine rk 6 fun K hK => ?_;(try simp only [zz])
   go_simp;refine hK _ _ (by exact ⟨ay (HS.cell 0 _ rfl) _, ay (HS.cell 1 _ rfl) _⟩) fun hH2 => ?_;clear hK K hH1;(try simp only [z0, zz])
   refine rk 7 fun K hK => ?_;(try simp only [zz])
   go_simp;have hl := HC.lit [x5] _ rfl (by unfold maxLen; simp);refine (bK hl.1.p (ak ts st') 28 x3 [x5] hl.2.1 hl.2.2 (by simp) (aC HR.out HNE.out)).mono (hl.1.cl HR.out ?_);rintro x7 st7 v7 w7 U7 rfl HF7 HC HR;replace HL := κ (HL.lits.step HF7);replace HS := κ (HS.lits.step HF7);clear hl;go_wp2_with fail;refine hK _ _ (by exact ⟨HS.cell 0 _ rfl, HS.cell 1 _ rfl⟩) fun hH3 => ?_;clear hK K hH2;(try simp only [z0, zz])
   refine rk 8 fun K hK => ?_;(try simp only [zz])
   go_simp;refine hK _ _ (by exact ⟨ay (HS.cell 0 _ rfl) _, ay (HS.cell 1 _ rfl) _⟩) fun hH4 => ?_;clear hK K hH3;(try simp only [z0, zz])
   refine rk 9 fun K hK => ?_;have hroom_ := bD HR HNE;have hroom := hroom_.1;replace HR := κ (hroom_.2);clear hroom_;obtain ⟨j0, hj, hj0, hj1, hj2⟩ := info_parts Tryz.infoInt;have HJ := κ (ξc hj (ξc hj0 (ξc hj1 hj2)));clear hj hj0 hj1 hj2;have hbs := HC.size;have hll := HLL.out;refine ψj _ rfl (.tmp 20) (.tmp 28) 39 rfl (w.heap.size) 3 j0 (.int .i64 0) 1 8 Tryz.underlying39 HJ.out.1 HJ.out.2.1 HJ.out.2.2.1 HJ.out.2.2.2 rfl (by decide) _ (l.map Int.ofNat).length _ (by simp [Act.eval]; try rfl) (HL.out.1.alloc _) ⟨w7.heap.size, 0, none⟩ 1 1 [.int .i64 x7] (by simp [Act.eval]; try rfl) rfl (ξW (ψe _ _)) (bP _) (by decide) (by first | (simp [maxLen]; done) | (simp; unfold maxLen; omega)) (by first | (simp; done) | (simp; omega)) (by first | (simp; done) | (simp; omega)) _ rfl ?_;intro g2 cap2 w5 hrow2 hgr2 hgb2 hgl2;have hpu := (HC.alloc _).push (n := l.length + 1) (cap := cap2) (fun k e => (HL.lt k e).1) HL.out.2 (by omega) hgr2 hgb2;have hl5 : LR (w.heap.size) w5 U7 (.slice (some ⟨g2, 0, none⟩) (l.length + 1) cap2) ((l ++ [x7]).map Int.ofNat) := ⟨by simpa using hrow2, hpu.2⟩;replace HS := κ ((HS.alloc _).besideT (HL.step ((Fr.refl w7 U7).alloc _)) (by decide) hgr2);clear HC HL hrow2 hgr2 hgb2 hgl2 hbs HJ;have HC := κ hpu.1;have HL := κ hl5;clear hpu hl5;refine hK _ _ (by exact ⟨HS.cell 0 _ rfl, HS.cell 1 _ rfl⟩) fun hH5 => ?_;clear hK K hH4;(try simp only [z0, zz])
   refine tk 10 hH5 ?_;(try simp only [z0, zz])
   refine ψk (by kernel_rfl) ?_ _;go_wp2_with fail;refine (aI HT HC.p [44]).mono (HC.cl HR ?_);rintro x9 st9 v9 w9 U9 rfl HF9 HC HR;replace HL := κ (HL.step HF9);cases x9
   · first | replace HR := κ (spt HR.out) | replace HR := κ (spf HR.out)
     go_wp2_with fail;refine (bf HT HC.p [125]).mono (HC.cl HR ?_);rintro x10 st10 v10 w10 U10 rfl HF10 HC HR;replace HL := κ (HL.step HF10);go_wp2_with fail;go_ret;exact aG.good HR.out rfl ⟨HL.out, by simp; omega⟩ HC.p HC.f
   · first | replace HR := κ (spt HR.out) | replace HR := κ (spf HR.out)
     go_wp2_with fail;go_roundg fu
     case measure => omega
     case rel => exact ⟨l ++ [x7], st9, U9, HL.out, by simp; omega, HC.out, HR.out⟩
theorem dO {sign : Bytes} {one : M Nat} {f : Nat} {l : List Nat} {β : Type} {k : List Nat → M β} {R : Except Flt (β × PS)} (HR : R = (dw ts sign one (f + 1) l >>= k) st) :
 R = (aX ts sign >>= fun b => if b = true then (one >>= fun i => cA l >>= fun _ => dw ts sign one f (l ++ [i]) >>= k) else k l) st := by
 rw [HR, show dw ts sign one (f + 1) l = (aX ts sign >>= fun b => if b = true then (one >>= fun i => cA l >>= fun _ => dw ts sign one f (l ++ [i])) else pure l) from rfl];rw [aA];refine aH fun c st1 => ?_;cases c
 · rfl
 · show M.bnd (one >>= fun i => cA l >>= fun _ => dw ts sign one f (l ++ [i])) k st1 = _;have e := aA one (fun i => cA l >>= fun _ => dw ts sign one f (l ++ [i])) k st1;refine e.trans (aH fun i st2 => ?_);exact aA (cA l) (fun _ => dw ts sign one f (l ++ [i])) k st2
theorem RO {p : Prop} (h : p := by
 have hpu := (HC.alloc _).push (n := l.length + 1) (cap := cap2) (fun k e => (HL.lt k e).1) HL.out.2 (by omega) hgr2 hgb2;have hl5 : LR (w.heap.size) w5 U3 (.slice (some ⟨g2, 0, none⟩) (l.length + 1) cap2) ((l ++ [x3]).map Int.ofNat) := ⟨by simpa using hrow2, hpu.2⟩;clear HC HL hrow2 hgr2 hgb2 hgl2 hbs HJ;have HC := κ hpu.1;have HL := κ hl5;clear hpu hl5;go_roundg fu
 case measure => omega
 case rel => exact ⟨l ++ [x3], st3, U3, HL.out, by simp; omega, HC.out, HR.out⟩
 ) : p := h
theorem wC (HT : Tks w0 tv ts) (end_ : Bytes) (F : Nat) (part : M Nat) (eg : ∀ (args : Array Value) (w : World), (callFunc F args).run Tryz.prog w = .ok (.enter F args) w) (hF : Ok w0 tv ts b F part) (hp : TSt w0 tv ts b qs w U st) (hne : oF ts end_ part st ≠ .error .out) :
 Calls Tryz.prog 217 #[bL b, str end_, .func (.func F) #[bL b] #[]] w (aG w0 tv ts b qs (Mh w.heap.size) (oF ts end_ part st) w U) := by
 obtain ⟨R, hR⟩ : ∃ R, oF ts end_ part st = R := ⟨_, rfl⟩;rw [hR] at hne ⊢;have HNE := κ hne;unfold oF at hR;have HR := κ hR.symm;have HC := κ (Cur.start hp);clear hR hne hp;go_enter Tryz.func217, Tryz.ntmps217;go_wp2_with fail;refine (aI HT HC.p end_).mono (HC.cl HR ?_);rintro x1 st1 v1 w1 U1 rfl HF1 HC HR;cases x1;rotate_left
 · first | replace HR := κ (spt HR.out) | replace HR := κ (spf HR.out)
   go_wp2_with fail;go_ret;exact aG.good HR.out rfl ⟨LR.nil _ _ _, by simp⟩ HC.p HC.f
 first | replace HR := κ (spt HR.out) | replace HR := κ (spf HR.out)
 go_wp2_with fail;refine (hF _ _ _ _ HC.p (aC HR HNE)).mono (HC.cl HR ?_);rintro x1 st1 v1 w1 U1 rfl HF1 HC HR;have HL := κ (LR.nil w.heap.size w1 U1);have hll : ([] : List Nat).length ≤ 1099511627776 := by simp
 obtain ⟨v0, hv0⟩ : ∃ v0, v0 = Value.slice none 0 0 := ⟨_, rfl⟩;rw [← hv0] at HL ⊢;clear hv0;obtain ⟨j0, hj, hj0, hj1, hj2⟩ := info_parts Tryz.infoInt;have HJ := κ (ξc hj (ξc hj0 (ξc hj1 hj2)));clear hj hj0 hj1 hj2;have hbs := HC.size;go_wp2_with (first | (at_builtin; refine ψm _ rfl (.tmp 12) (.tmp 15) 39 rfl (w.heap.size) 3 j0 (.int .i64 0) 1 8 Tryz.underlying39 HJ.out.1 HJ.out.2.1 HJ.out.2.2.1 HJ.out.2.2.2 rfl (by decide) _ (([] : List Nat).map Int.ofNat).length _ rfl (HL.out.1.alloc _) ⟨w1.heap.size, 0, none⟩ 1 1 [.int .i64 x1] rfl rfl (ξW (ψe _ _)) (bP _) (by decide) (by first | (simp [maxLen]; done) | (simp; unfold maxLen; omega)) (by first | (simp; done) | (simp; omega)) (by first | (simp; done) | (simp; omega)) _ rfl ?_; intro g2 cap2 w5 hrow2 hgr2 hgb2 hgl2));have hpu := (HC.alloc _).push (n := ([] : List Nat).length + 1) (cap := cap2) (fun k e => (HL.lt k e).1) HL.out.2 (by omega) hgr2 hgb2;have hl5 : LR (w.heap.size) w5 U1 (.slice (some ⟨g2, 0, none⟩) (([] : List Nat).length + 1) cap2) ((([] : List Nat) ++ [x1]).map Int.ofNat) := ⟨by simpa using hrow2, hpu.2⟩;clear HC HL hrow2 hgr2 hgb2 hgl2 hbs HJ;have HC := κ hpu.1;have HL := κ hl5;clear hpu hl5;go_loopg [7] (ts.length + 1) (fun g v wr => ∃ l st' U', LR (w.heap.size) wr U' v (l.map Int.ofNat) ∧ l.length ≤ 1099511627776 ∧ Cur w0 tv ts b qs w U wr U' st' ∧ R = (dw ts [44] part g l >>= fun l => (bF ts end_ >>= fun _ => pure l)) st')
 case atStart => exact ⟨[x1], st1, U1, HL.out, by simp, HC.out, HR.out⟩
 case round =>
  obtain ⟨l, st', U', hl, hll, hc, hr⟩ := hrel;cases gk with
  | zero => exact absurd hr HNE
  | succ fu =>
   have HR := κ hr;have HC := κ hc;have HL := κ hl;have HLL := κ hll;clear hr hc hl hll;replace HR := κ (dO HR);go_wp2_with fail;refine (aI HT HC.p [44]).mono (HC.cl HR ?_);rintro x2 st2 v2 w2 U2 rfl HF2 HC HR;replace HL := κ (HL.step HF2);cases x2
   · first | replace HR := κ (spt HR.out) | replace HR := κ (spf HR.out)
     go_wp2_with fail;refine (bf HT HC.p end_).mono (HC.cl HR ?_);rintro x4 st4 v4 w4 U4 rfl HF4 HC HR;replace HL := κ (HL.step HF4);go_wp2_with fail;go_ret;exact aG.good HR rfl ⟨HL, HLL⟩ HC.p HC.f
   · first | replace HR := κ (spt HR.out) | replace HR := κ (spf HR.out)
     go_wp2_with fail;refine (hF _ _ _ _ HC.p (aC HR HNE)).mono (HC.cl HR ?_);rintro x3 st3 v3 w3 U3 rfl HF3 HC HR;replace HL := κ (HL.step HF3);have hll := HLL.out;have hroom_ := bD HR HNE;have hroom := hroom_.1;replace HR := κ (hroom_.2);clear hroom_;obtain ⟨j0, hj, hj0, hj1, hj2⟩ := info_parts Tryz.infoInt;have HJ := κ (ξc hj (ξc hj0 (ξc hj1 hj2)));clear hj hj0 hj1 hj2;have hbs := HC.size;go_wp2_with (first | (at_builtin; refine ψm _ rfl (.tmp 19) (.tmp 22) 39 rfl (w.heap.size) 3 j0 (.int .i64 0) 1 8 Tryz.underlying39 HJ.out.1 HJ.out.2.1 HJ.out.2.2.1 HJ.out.2.2.2 rfl (by decide) _ (l.map Int.ofNat).length _ rfl (HL.out.1.alloc _) ⟨w3.heap.size, 0, none⟩ 1 1 [.int .i64 x3] rfl rfl (ξW (ψe _ _)) (bP _) (by decide) (by first | (simp [maxLen]; done) | (simp; unfold maxLen; omega)) (by first | (simp; done) | (simp; omega)) (by first | (simp; done) | (simp; omega)) _ rfl ?_; intro g2 cap2 w5 hrow2 hgr2 hgb2 hgl2));exact RO
theorem RP {p : Prop} (h : p := by
 replace HR := HR.out;simp only [ξh, ↓reduceIte] at HR;replace HR := κ HR;go_wp2_with fail;refine (HLow.exp HC.p (aC HR HNE)).mono (HC.cl HR ?_);rintro x3 st3 v3 w3 U3 rfl HF3 HC HR;replace HL := κ (HL.step HF3);replace HS := κ (HS.step HF3);have hll := HLL.out;have hroom_ := bD HR HNE;have hroom := hroom_.1;replace HR := κ (hroom_.2);clear hroom_;obtain ⟨j0, hj, hj0, hj1, hj2⟩ := info_parts Tryz.infoInt;have HJ := κ (ξc hj (ξc hj0 (ξc hj1 hj2)));clear hj hj0 hj1 hj2;have hbs := HC.size;go_wp2_with (first | (at_builtin; refine ψm _ rfl (.tmp 21) (.tmp 24) 39 rfl (w.heap.size + 1) 3 j0 (.int .i64 0) 1 8 Tryz.underlying39 HJ.out.1 HJ.out.2.1 HJ.out.2.2.1 HJ.out.2.2.2 rfl (by decide) _ (l.map Int.ofNat).length _ rfl (HL.out.1.alloc _) ⟨w3.heap.size, 0, none⟩ 1 1 [.int .i64 x3] rfl rfl (ξW (ψe _ _)) (bP _) (by decide) (by first | (simp [maxLen]; done) | (simp; unfold maxLen; omega)) (by first | (simp; done) | (simp; omega)) (by first | (simp; done) | (simp; omega)) _ rfl ?_; intro g2 cap2 w5 hrow2 hgr2 hgb2 hgl2));have hpu := (HC.alloc _).push (n := l.length + 1) (cap := cap2) (fun k e => (HL.lt k e).1) HL.out.2 (by omega) hgr2 hgb2;have hl5 : LR (w.heap.size + 1) w5 U3 (.slice (some ⟨g2, 0, none⟩) (l.length + 1) cap2) ((l ++ [x3]).map Int.ofNat) := ⟨by simpa using hrow2, hpu.2⟩;replace HS := κ ((HS.alloc _).besideT (HL.step ((Fr.refl w3 U3).alloc _)) (by decide) hgr2);clear HC HL hrow2 hgr2 hgb2 hgl2 hbs HJ;have HC := κ hpu.1;have HL := κ hl5;clear hpu hl5;go_roundg fu
 case measure => omega
 case rel => exact ⟨l ++ [x3], st3, U3, HL.out, by simp; omega, HS.out, HC.out, HR.out⟩
 ) : p := h
theorem Rh {p : Prop} (h : p := by
 have hr_ : R = (pure (l.getD 0 0) : M Nat) st4 := by rw [HR.out]; simp [h1]
 have HR := κ hr_;clear hr_;obtain ⟨i0, rfl⟩ : ∃ i0, l = [i0] := List.length_eq_one_iff.1 h1;obtain ⟨ka, kcap, rfl, kc⟩ := dP HL.ints;obtain ⟨kb, ko, rfl, kc0⟩ := kc 0 i0 rfl;have kc1 : w4.cell? ⟨kb, ko, none⟩ = some (.int .i64 i0) := kc0;go_wp2_with fail;go_ret;exact aG.good HR rfl rfl HC.p HC.f
 ) : p := h
theorem Ez (HT : Tks w0 tv ts) (HLow : bW w0 tv ts b L) (s : Int × Int) (hp : TSt w0 tv ts b qs w U st) (hne : mV ts L s st ≠ .error .out) :
 Calls Tryz.prog 299 #[bL b, .agg #[.int .i64 s.1, .int .i64 s.2]] w (aG w0 tv ts b qs idR (mV ts L s st) w U) := by
 obtain ⟨R, hR⟩ : ∃ R, mV ts L s st = R := ⟨_, rfl⟩;rw [hR] at hne ⊢;have HNE := κ hne;unfold mV at hR;have HR := κ hR.symm;have HC := κ (Cur.start hp);clear hR hne hp;go_enter Tryz.func299, Tryz.ntmps299;go_wp2_with fail;have HS := κ (Loc.new HC #[.int .i64 s.1, .int .i64 s.2] 109);replace HC := κ (HC.alloc (.cells #[.int .i64 s.1, .int .i64 s.2] 109));refine (aI HT HC.p [41]).mono (HC.cl HR ?_);rintro x1 st1 v1 w1 U1 rfl HF1 HC HR;replace HS := κ (HS.step HF1);cases x1;rotate_left
 · replace HR := HR.out;simp only [ξh, ↓reduceIte] at HR;replace HR := κ HR;have s0 := HS.cell 0 _ rfl;have s1 := HS.cell 1 _ rfl;go_wp2_with fail;clear s0 s1;refine (bK HC.p s 13 [] [] (Ints.nil _) (Im.nil _ _) (by simp) (HR.out ▸ HNE.out)).mono (HC.ls HR.out ?_);rintro x9 v9 w9 U9 rfl HFIN;go_wp2_with fail;go_ret;exact HFIN
 replace HR := HR.out;simp only [ξh, ↓reduceIte] at HR;replace HR := κ HR;go_wp2_with fail;refine (HLow.exp HC.p (aC HR HNE)).mono (HC.cl HR ?_);rintro x2 st2 v2 w2 U2 rfl HF2 HC HR;replace HS := κ (HS.step HF2);have HL := κ (LR.lit (B := w.heap.size + 1) (w := w2) (U := U2) [(x2 : Int)] #[.int .i64 x2] rfl (by have := HS.lt; omega) (HC.p.zero (ξF _)) (by unfold maxLen; simp));have hc_ := HC.alloc (.cells #[.int .i64 x2] 3);have hs_ := HS.alloc (.cells #[.int .i64 x2] 3);have HC := κ hc_;have HS := κ hs_;clear hc_ hs_;go_wp2_with fail;replace HR := κ (aK (g := isP ts 0 [59]) HR);refine (gq HT HC.p 0 (by omega) [59]).mono ?_;rintro e w5 ⟨rfl, hb5⟩;replace HC := κ (HC.below hb5);replace HL := κ (HL.below hb5);replace HS := κ (HS.below hb5);have HB5 := κ hb5;clear hb5;obtain ⟨B, hB⟩ : ∃ B, isP ts 0 [59] st2 = B := ⟨_, rfl⟩;rw [hB] at HR ⊢;clear hB;cases B
 · replace HR := HR.out;simp only [ξh, ↓reduceIte] at HR;replace HR := κ HR;have hr_ : R = (dw ts [44] L.exp (ts.length + 1) [x2] >>= fun l => bF ts [41] >>= fun _ => if (l.length == 1) = true then pure (l.getD 0 0) else aV s 13 [] l) st2 := HR.out;have HR := κ hr_;clear hr_;go_wp2_with fail;go_loopg [5] (ts.length + 1) (fun g v wr => ∃ l st' U', LR (w.heap.size + 1) wr U' v (l.map Int.ofNat) ∧ l.length ≤ 1099511627776 ∧ Loc wr U' w.heap.size #[.int .i64 s.1, .int .i64 s.2] 109 ∧ Cur w0 tv ts b qs w U wr U' st' ∧ R = (dw ts [44] L.exp g l >>= fun l => (bF ts [41] >>= fun _ => if (l.length == 1) = true then pure (l.getD 0 0) else aV s 13 [] l)) st')
   case atStart => exact ⟨[x2], st2, U2, HL.out, by simp, HS.out, HC.out, HR.out⟩
   case round =>
    obtain ⟨l, st', U', hl, hll, hHS, hc, hr⟩ := hrel;cases gk with
    | zero => exact absurd hr HNE
    | succ fu =>
     have HR := κ hr;have HC := κ hc;have HL := κ hl;have HLL := κ hll;have HS := κ hHS;clear hHS;clear hr hc hl hll;replace HR := κ (dO HR);go_wp2_with fail;refine (aI HT HC.p [44]).mono (HC.cl HR ?_);rintro x2 st2 v2 w2 U2 rfl HF2 HC HR;replace HL := κ (HL.step HF2);replace HS := κ (HS.step HF2);cases x2
     · replace HR := HR.out;simp only [ξh, ↓reduceIte] at HR;replace HR := κ HR;go_wp2_with fail;refine (bf HT HC.p [41]).mono (HC.cl HR ?_);rintro x4 st4 v4 w4 U4 rfl HF4 HC HR;replace HL := κ (HL.step HF4);replace HS := κ (HS.step HF4);by_cases h1 : l.length = 1
       · exact Rh
       · have hr_ : R = aV s 13 [] l st4 := by rw [HR.out]; simp [h1]
         have HR := κ hr_;clear hr_;obtain ⟨ka, kcap, rfl, -⟩ := dP HL.ints;rw [ξ4] at HL ⊢;have h1i : ((l.length : Int) == 1) = false := by rw [ξY]; omega
         have s0 := HS.cell 0 _ rfl;have s1 := HS.cell 1 _ rfl;go_wp2_with fail;clear s0 s1 h1i;have hl := HC.own (HL.low (by omega));have hll := HLL.out;refine (bK hl.1.p s 13 [] l hl.2.1 hl.2.2 (by omega) (HR.out ▸ HNE.out)).mono (hl.1.ls HR.out ?_);rintro x9 v9 w9 U9 rfl HFIN;go_wp2_with fail;go_ret;exact HFIN
     · exact RP
 · replace HR := HR.out;simp only [ξh, ↓reduceIte] at HR;replace HR := κ HR;have hr_ : R = (dw ts [59] L.exp (ts.length + 1) [x2] >>= fun l => bF ts [41] >>= fun _ => if (l.length == 1) = true then pure (l.getD 0 0) else aV s 15 [] l) st2 := HR.out;have HR := κ hr_;clear hr_;go_wp2_with fail;go_loopg [5] (ts.length + 1) (fun g v wr => ∃ l st' U', LR (w.heap.size + 1) wr U' v (l.map Int.ofNat) ∧ l.length ≤ 1099511627776 ∧ Loc wr U' w.heap.size #[.int .i64 s.1, .int .i64 s.2] 109 ∧ Cur w0 tv ts b qs w U wr U' st' ∧ R = (dw ts [59] L.exp g l >>= fun l => (bF ts [41] >>= fun _ => if (l.length == 1) = true then pure (l.getD 0 0) else aV s 15 [] l)) st')
   case atStart => exact ⟨[x2], st2, U2, HL.out, by simp, HS.out, HC.out, HR.out⟩
   case round =>
    obtain ⟨l, st', U', hl, hll, hHS, hc, hr⟩ := hrel;cases gk with
    | zero => exact absurd hr HNE
    | succ fu =>
     have HR := κ hr;have HC := κ hc;have HL := κ hl;have HLL := κ hll;have HS := κ hHS;clear hHS;clear hr hc hl hll;replace HR := κ (dO HR);go_wp2_with fail;refine (aI HT HC.p [59]).mono (HC.cl HR ?_);rintro x2 st2 v2 w2 U2 rfl HF2 HC HR;replace HL := κ (HL.step HF2);replace HS := κ (HS.step HF2);cases x2
     · replace HR := HR.out;simp only [ξh, ↓reduceIte] at HR;replace HR := κ HR;go_wp2_with fail;refine (bf HT HC.p [41]).mono (HC.cl HR ?_);rintro x4 st4 v4 w4 U4 rfl HF4 HC HR;replace HL := κ (HL.step HF4);replace HS := κ (HS.step HF4);by_cases h1 : l.length = 1
       · exact Rh
       · have hr_ : R = aV s 15 [] l st4 := by rw [HR.out]; simp [h1]
         have HR := κ hr_;clear hr_;obtain ⟨ka, kcap, rfl, -⟩ := dP HL.ints;rw [ξ4] at HL ⊢;have h1i : ((l.length : Int) == 1) = false := by rw [ξY]; omega
         have s0 := HS.cell 0 _ rfl;have s1 := HS.cell 1 _ rfl;go_wp2_with fail;clear s0 s1 h1i;have hl := HC.own (HL.low (by omega));have hll := HLL.out;refine (bK hl.1.p s 15 [] l hl.2.1 hl.2.2 (by omega) (HR.out ▸ HNE.out)).mono (hl.1.ls HR.out ?_);rintro x9 v9 w9 U9 rfl HFIN;go_wp2_with fail;go_ret;exact HFIN
     · exact RP
end
section
variable {w0 : World} {tv : Value} {ts : List Tok} {b : Nat} {qs : List Nat} {w : World} {U : Rl} {st : PS} {L : Low}
theorem y9 (HT : Tks w0 tv ts) (hat : Ok w0 tv ts b 261 (qg ts L)) (hp : TSt w0 tv ts b qs w U st) (hne : dL ts L st ≠ .error .out) :
 Calls Tryz.prog 219 #[bL b] w (aG w0 tv ts b qs idR (dL ts L st) w U) := by
 obtain ⟨R, hR⟩ : ∃ R, dL ts L st = R := ⟨_, rfl⟩;rw [hR] at hne ⊢;have HNE := κ hne;unfold dL at hR;have HR := κ hR.symm;have HC := κ (Cur.start hp);clear hR hne hp;go_enter Tryz.func219, Tryz.ntmps219;go_wp2_with fail;refine (hat _ _ _ _ HC.p (aC HR HNE)).mono (HC.cl HR ?_);rintro x1 st1 v1 w1 U1 rfl HF1 HC HR;go_wp2_with fail;go_loopg [3] (ts.length + 1) (fun g v wr => ∃ e st' U', v = .int .i64 (e : Nat) ∧ Cur w0 tv ts b qs w U wr U' st' ∧ R = (gV ts g e) st')
 case atStart => exact ⟨x1, st1, U1, rfl, HC, HR⟩
 case round =>
  obtain ⟨e1, st', U', rfl, hc, hr⟩ := hrel;cases gk with
  | zero => exact absurd hr HNE
  | succ fu =>
   unfold gV at hr;have HR := κ hr;have HC := κ hc;clear hr hc;go_wp2_with fail;replace HR := κ (aK (g := aB ts 0) HR);replace HR := κ (aK (g := iC ts) HR);refine (aU HT HC.p 0 (by omega)).mono ?_;rintro e w2 ⟨⟨pv, rfl, hs⟩, hb2⟩;have hc2 := HC.below hb2;clear HC hb2;have HC := κ hc2;clear hc2;obtain ⟨t, ht⟩ : ∃ t, aB ts 0 st' = t := ⟨_, rfl⟩;rw [ht] at hs ⊢;(try rw [ht] at HR)
   have HTS := κ (ht ▸ bC HT 0 st');have HTT := κ ht;clear ht;have HP := κ hs;obtain ⟨a, cap, rfl, -⟩ := hs;unfold tkV;have hfl : ∀ w, (Instr.field 32 (.agg #[.int .i64 t.kind, str t.text, .slice a t.path.length cap, .int .i64 t.line, .int .i64 t.col]) 0).run Tryz.prog w = .ok (.int .i64 t.kind) w := fun _ => by kernel_rfl
   cases hk : (t.kind == 2)
   · replace HR := HR.out;simp only [hk, Bool.false_and, ξh, ↓reduceIte] at HR;replace HR := κ HR;go_wp2_with fail;go_ret;exact aG.good HR rfl rfl HC.p HC.f
   replace HR := HR.out;simp only [hk, Bool.true_and, ξh, ↓reduceIte] at HR;replace HR := κ HR;go_wp2_with fail;refine (vH HT HC.p).mono ?_;rintro e w3 ⟨rfl, hb3⟩;replace HC := κ (HC.below hb3);have HB3 := κ hb3;clear hb3;obtain ⟨B, hB⟩ : ∃ B, iC ts st' = B := ⟨_, rfl⟩;rw [hB] at HR ⊢;clear hB hk;cases B;rotate_left
   · replace HR := HR.out;simp only [Bool.not_true, ξh, ↓reduceIte] at HR;replace HR := κ HR;go_wp2_with fail;go_ret;exact aG.good HR rfl rfl HC.p HC.f
   replace HR := HR.out;simp only [Bool.not_false, ξh, ↓reduceIte] at HR;replace HR := κ HR;go_wp2_with fail;have hl := HC.lit [e1] _ rfl (by unfold maxLen; simp);refine (qU HT [e1] _ ⟨hl.2.1, hl.2.2⟩ (by simp) hl.1.p (aC HR.out HNE.out)).mono (hl.1.cl HR.out ?_);rintro x9 st9 v9 w9 U9 rfl HF9 HC HR;clear hl;go_wp2_with fail;go_roundg fu
   case measure => omega
   case rel => exact ⟨x9, st9, U9, rfl, HC, HR⟩
theorem vR {f : Nat} {l : List Nat} {β : Type} {k : List Nat → M β} {R : Except Flt (β × PS)} (HR : R = (eF ts L (f + 1) l >>= k) st) :
 R = (if iC ts st = true then (cu ts 1 >>= fun _ => dL ts L >>= fun i => cA l >>= fun _ => eF ts L f (l ++ [i]) >>= k) st else k l st) := by
 rw [HR, show eF ts L (f + 1) l = (Gx ts >>= fun b => if b = true then (cu ts 1 >>= fun _ => dL ts L >>= fun i => cA l >>= fun _ => eF ts L f (l ++ [i])) else pure l) from rfl];rw [aA];show ((if iC ts st = true then (cu ts 1 >>= fun _ => dL ts L >>= fun i => cA l >>= fun _ => eF ts L f (l ++ [i])) else pure l) >>= k) st = _;cases iC ts st
 · rfl
 · simp only [↓reduceIte];refine (aA _ _ k st).trans (aH fun _ s1 => ?_);refine (aA _ _ k s1).trans (aH fun i s2 => ?_);exact aA _ _ k s2
theorem xL (HT : Tks w0 tv ts) (hap : Ok w0 tv ts b 219 (dL ts L)) (hp : TSt w0 tv ts b qs w U st) (hne : fC ts L st ≠ .error .out) :
 Calls Tryz.prog 183 #[bL b] w (aG w0 tv ts b qs idR (fC ts L st) w U) := by
 obtain ⟨R, hR⟩ : ∃ R, fC ts L st = R := ⟨_, rfl⟩;rw [hR] at hne ⊢;have HNE := κ hne;unfold fC at hR;have HR := κ hR.symm;have HC := κ (Cur.start hp);clear hR hne hp;go_enter Tryz.func183, Tryz.ntmps183;go_wp2_with fail;refine (hap _ _ _ _ HC.p (aC HR HNE)).mono (HC.cl HR ?_);rintro x1 st1 v1 w1 U1 rfl HF1 HC HR;have HL := κ (LR.lit (B := w.heap.size) (w := w1) (U := U1) [(x1 : Int)] #[.int .i64 x1] rfl HC.size (HC.p.zero (ξF _)) (by unfold maxLen; simp));go_wp2_with fail;go_loopg [3] (ts.length + 1) (fun g v wr => ∃ l st' U', LR w.heap.size wr U' v (l.map Int.ofNat) ∧ l.length ≤ 1099511627776 ∧ l ≠ [] ∧ Cur w0 tv ts b qs w U wr U' st' ∧ R = (eF ts L g l >>= fun l => (if (l.length == 1) = true then pure (l.getD 0 0) else (ofM (l.getD 0 0) >>= fun s => aV s 42 [] l))) st')
 case atStart => exact ⟨[x1], st1, U1, HL.out, by simp, by simp, HC.alloc _, HR.out⟩
 case round =>
  obtain ⟨l, st', U', hl, hll, hne_, hc, hr⟩ := hrel;cases gk with
  | zero => exact absurd hr HNE
  | succ fu =>
   have HR := κ hr;have HC := κ hc;have HL := κ hl;have HLL := κ hll;have HNL := κ hne_;clear hr hc hl hll hne_;replace HR := κ (vR HR);go_wp2_with fail;refine (vH HT HC.p).mono ?_;rintro e w2 ⟨rfl, hb2⟩;replace HC := κ (HC.below hb2);replace HL := κ (HL.below hb2);have HB2 := κ hb2;clear hb2;obtain ⟨B, hB⟩ : ∃ B, iC ts st' = B := ⟨_, rfl⟩;rw [hB] at HR ⊢;clear hB;cases B
   · replace HR := HR.out;simp only [ξh, ↓reduceIte] at HR;replace HR := κ HR;by_cases h1 : l.length = 1
     · have hr_ : R = (pure (l.getD 0 0) : M Nat) st' := by rw [HR.out]; simp [h1]
       have HR := κ hr_;clear hr_;obtain ⟨i0, rfl⟩ : ∃ i0, l = [i0] := List.length_eq_one_iff.1 h1;obtain ⟨ka, kcap, rfl, kc⟩ := dP HL.ints;obtain ⟨kb, ko, rfl, kc0⟩ := kc 0 i0 rfl;have kc1 : w2.cell? ⟨kb, ko, none⟩ = some (.int .i64 i0) := kc0;go_wp2_with fail;go_ret;exact aG.good HR rfl rfl HC.p HC.f
     · obtain ⟨i0, r, rfl⟩ : ∃ i0 r, l = i0 :: r := List.exists_cons_of_ne_nil HNL;have hr_ : R = (ofM i0 >>= fun s => aV s 42 [] (i0 :: r)) st' := by rw [HR.out, ψh (show ¬ ((i0 :: r).length == 1) = true by simpa using h1)]; rfl
       have HR := κ hr_;clear hr_;have ho_ := dX HR HNE;have hlt := ho_.1;have HR := κ ho_.2;clear ho_;obtain ⟨ka, kcap, rfl, kc⟩ := dP HL.ints;obtain ⟨kb, ko, rfl, kc0⟩ := kc 0 i0 rfl;have kc1 : w2.cell? ⟨kb, ko, none⟩ = some (.int .i64 i0) := kc0;rw [ξ4] at HL ⊢;have h1i : (((r.length : Int) + 1) == 1) = false := by rw [ξY]; simp only [ξ2] at h1; omega
       have h0i : (0 : Int) < (r.length : Int) + 1 := by omega
       clear kc kc0;go_wp2_with fail;refine (fN HC.p i0 hlt).mono ?_;rintro e w4 ⟨rfl, hb4⟩;replace HC := κ (HC.below hb4);replace HL := κ (HL.below hb4);have HB4 := κ hb4;clear hb4;clear hlt kc1 h1i h0i;go_wp2_with fail;have hl := HC.own HL;have hll := HLL.out;refine (aS hl.1.p (ofP i0 st') 42 [] (i0 :: r) _ hl.2.1 hl.2.2 (by omega) (HR.out ▸ HNE.out)).mono (hl.1.ls HR.out ?_);rintro x9 v9 w9 U9 rfl HFIN;go_wp2_with fail;go_ret;exact HFIN
   · replace HR := HR.out;simp only [ξh, ↓reduceIte] at HR;replace HR := κ HR;obtain ⟨⟨nv_, dv_, c1_⟩, hf1_, hpos_, hlen_⟩ := HC.ats HT;go_wp2_with fail;clear c1_ hf1_ hpos_ hlen_;have HL := κ (HL.setb HC (i := 1) (.int .i64 ((st'.pos : Int) + 1)));have hk_ := HC.skip (1) HR HNE;have HC := κ hk_.1;have HR := κ hk_.2;clear hk_;refine (hap _ _ _ _ HC.p (aC HR HNE)).mono (HC.cl HR ?_);rintro x3 st3 v3 w3 U3 rfl HF3 HC HR;replace HL := κ (HL.step HF3);have hll := HLL.out;have hroom_ := bD HR HNE;have hroom := hroom_.1;replace HR := κ (hroom_.2);clear hroom_;obtain ⟨j0, hj, hj0, hj1, hj2⟩ := info_parts Tryz.infoInt;have HJ := κ (ξc hj (ξc hj0 (ξc hj1 hj2)));clear hj hj0 hj1 hj2;have hbs := HC.size;go_wp2_with (first | (at_builtin; refine ψm _ rfl (.tmp 16) (.tmp 19) 39 rfl (w.heap.size) 3 j0 (.int .i64 0) 1 8 Tryz.underlying39 HJ.out.1 HJ.out.2.1 HJ.out.2.2.1 HJ.out.2.2.2 rfl (by decide) _ (l.map Int.ofNat).length _ rfl (HL.out.1.alloc _) ⟨w3.heap.size, 0, none⟩ 1 1 [.int .i64 x3] rfl rfl (ξW (ψe _ _)) (bP _) (by decide) (by first | (simp [maxLen]; done) | (simp; unfold maxLen; omega)) (by first | (simp; done) | (simp; omega)) (by first | (simp; done) | (simp; omega)) _ rfl ?_; intro g2 cap2 w5 hrow2 hgr2 hgb2 hgl2));have hpu := (HC.alloc _).push (n := l.length + 1) (cap := cap2) (fun k e => (HL.lt k e).1) HL.out.2 (by omega) hgr2 hgb2;have hl5 : LR (w.heap.size) w5 U3 (.slice (some ⟨g2, 0, none⟩) (l.length + 1) cap2) ((l ++ [x3]).map Int.ofNat) := ⟨by simpa using hrow2, hpu.2⟩;clear HC HL hrow2 hgr2 hgb2 hgl2 hbs HJ;have HC := κ hpu.1;have HL := κ hl5;clear hpu hl5;go_roundg fu
     case measure => omega
     case rel => exact ⟨l ++ [x3], st3, U3, HL.out, by simp; omega, by simp, HC.out, HR.out⟩
theorem I8 (HT : Tks w0 tv ts) (HLow : bW w0 tv ts b L) (hpr : Ok w0 tv ts b 183 (fC ts L)) (hp : TSt w0 tv ts b qs w U st) (hne : tyM ts L st ≠ .error .out) :
 Calls Tryz.prog 139 #[bL b] w (aG w0 tv ts b qs idR (tyM ts L st) w U) := by
 obtain ⟨R, hR⟩ : ∃ R, tyM ts L st = R := ⟨_, rfl⟩;rw [hR] at hne ⊢;have HNE := κ hne;unfold tyM at hR;have HR := κ hR.symm;have HC := κ (Cur.start hp);clear hR hne hp;go_enter Tryz.func139, Tryz.ntmps139;go_wp2_with fail;refine (jv HT HC.p (aC HR HNE)).mono (HC.cl HR ?_);rintro x1 st1 v1 w1 U1 rfl HF1 HC HR;go_wp2_with fail;refine (hpr _ _ _ _ HC.p (aC HR HNE)).mono (HC.cl HR ?_);rintro x2 st2 v2 w2 U2 rfl HF2 HC HR;go_wp2_with fail;have hr_ : R = (aX ts [45, 62] >>= fun c => (if c = true then (ofM x2 >>= fun s => L.ty >>= fun t => aV s 44 [] [x2, t]) else pure x2) >>= fun i => dh >>= fun _ => pure i) st2 := HR.trans (aA _ _ _ _);clear HR;have HR := κ hr_;clear hr_;refine (aI HT HC.p [45, 62]).mono (HC.cl HR ?_);rintro x3 st3 v3 w3 U3 rfl HF3 HC HR;cases x3
 · have hr_ : R = (dh >>= fun _ => pure x2) st3 := HR.out;clear HR;have HR := κ hr_;clear hr_;go_wp2_with fail;refine (ij HC.p (aC HR HNE)).mono (HC.cl HR ?_);rintro x4 st4 v4 w4 U4 rfl HF4 HC HR;go_wp2_with fail;go_ret;exact aG.good HR rfl rfl HC.p HC.f
 · have hr_ : R = (ofM x2 >>= fun s => L.ty >>= fun t => aV s 44 [] [x2, t] >>= fun i => dh >>= fun _ => pure i) st3 := by
    rw [HR.out];simp only [↓reduceIte];refine (aA _ _ _ _).trans (aH fun s s1 => ?_);exact aA _ _ _ s1
   clear HR;have HR := κ hr_;clear hr_;go_wp2_with fail;have ho_ := dX HR HNE;clear HR;have hlt := ho_.1;have HR := κ ho_.2;clear ho_;refine (fN HC.p x2 hlt).mono ?_;rintro e w4 ⟨rfl, hb4⟩;replace HC := κ (HC.below hb4);have HB4 := κ hb4;clear hb4;clear hlt;go_wp2_with fail;refine (HLow.ty HC.p (aC HR HNE)).mono (HC.cl HR ?_);rintro x5 st5 v5 w5 U5 rfl HF5 HC HR;go_wp2_with fail;have hl := HC.lit [x2, x5] _ rfl (by unfold maxLen; simp);refine (aS hl.1.p (ofP x2 st3) 44 [] [x2, x5] _ hl.2.1 hl.2.2 (by simp) (aC HR.out HNE.out)).mono (hl.1.cl HR.out ?_);rintro x6 st6 v6 w6 U6 rfl HF6 HC HR;clear hl;go_wp2_with fail;refine (ij HC.p (aC HR HNE)).mono (HC.cl HR ?_);rintro x7 st7 v7 w7 U7 rfl HF7 HC HR;go_wp2_with fail;go_ret;exact aG.good HR rfl rfl HC.p HC.f
theorem aQ {α : Type} {m : M α} {st : PS} {R : Except Flt (α × PS)} (HR : R = m st) : R = (m >>= fun x => pure x) st := by
 rw [HR]; show m st = M.bnd m (fun x => (pure x : M α)) st; unfold M.bnd; cases m st with
 | error e => rfl
 | ok p => rfl
theorem Loc.giveL {wc : World} {Uc : Rl} {B k r : Nat} {cs : Array Value} {T : TypeId} {v : Value} {l : List Int} (h : Loc wc Uc k cs T) (hv : LR B wc Uc v l) (hT : T ≠ 3) : Loc wc (Uc.give v r) k cs T := ⟨h.1, by
 refine (wJ fun e => ?_).trans h.2;rcases id hv.1.2 with ⟨e1, _⟩ | ⟨g, cap, cur, e1, _, h2, _⟩
 · rw [e1] at e; simp [Value.ownBlock] at e
 · rw [e1] at e;simp only [Value.ownBlock, ξO] at e;subst e;rw [h.1] at h2;simp only [ξO, Obj.cells.injEq] at h2;exact hT h2.2.1⟩
theorem Ir (HT : Tks w0 tv ts) (HLow : bW w0 tv ts b L) (hp : TSt w0 tv ts b qs w U st) (hne : qg ts L st ≠ .error .out) :
 Calls Tryz.prog 261 #[bL b] w (aG w0 tv ts b qs idR (qg ts L st) w U) := by
 obtain ⟨R, hR⟩ : ∃ R, qg ts L st = R := ⟨_, rfl⟩;rw [hR] at hne ⊢;have HNE := κ hne;unfold qg at hR;have HR := κ hR.symm;have HC := κ (Cur.start hp);clear hR hne hp;go_enter Tryz.func261, Tryz.ntmps261;go_wp2_with fail;replace HR := κ (aK (g := ak ts) HR);refine (aY HT HC.p).mono ?_;rintro e w1 ⟨rfl, hb1⟩;replace HC := κ (HC.below hb1);have HB1 := κ hb1;clear hb1;unfold dc;go_wp2_with fail;replace HR := κ (aK (g := aB ts 0) HR);refine (aU HT HC.p 0 (by omega)).mono ?_;rintro e w2 ⟨⟨pv, rfl, hs⟩, hb2⟩;have hc2 := HC.below hb2;clear HC hb2;have HC := κ hc2;clear hc2;obtain ⟨t, ht⟩ : ∃ t, aB ts 0 st = t := ⟨_, rfl⟩;rw [ht] at hs ⊢;(try rw [ht] at HR)
 have HTS := κ (ht ▸ bC HT 0 st);have HTT := κ ht;clear ht;have HP := κ hs;obtain ⟨a, cap, rfl, -⟩ := hs;unfold tkV;have HSZ := κ HC.size;have HS := κ ((Loc.new HC #[.int .i64 (ak ts st).1, .int .i64 (ak ts st).2] 109).alloc (.cells #[.int .i64 t.kind, str t.text, .slice a t.path.length cap, .int .i64 t.line, .int .i64 t.col] 32));have HTK := κ (Loc.new (HC.alloc (.cells #[.int .i64 (ak ts st).1, .int .i64 (ak ts st).2] 109)) #[.int .i64 t.kind, str t.text, .slice a t.path.length cap, .int .i64 t.line, .int .i64 t.col] 32);rw [show (w2.alloc (.cells #[.int .i64 (ak ts st).1, .int .i64 (ak ts st).2] 109)).heap.size = w2.heap.size + 1 from by simp] at HTK;replace HC := κ ((HC.alloc (.cells #[.int .i64 (ak ts st).1, .int .i64 (ak ts st).2] 109)).alloc (.cells #[.int .i64 t.kind, str t.text, .slice a t.path.length cap, .int .i64 t.line, .int .i64 t.col] 32));cases hk : (t.kind == 3);rotate_left
 · replace HR := HR.out;simp only [hk, ξh, ↓reduceIte] at HR;replace HR := κ HR;have t0 := HTK.cell 0 _ rfl;have t1 := HTK.cell 1 _ rfl;have t2 := HTK.cell 2 _ rfl;have t5 := fun x => (HTK.setb HC (i := 1) x).cell 1 _ rfl;obtain ⟨nv_, dv_, -, c1_, -, -, -, -, hf_⟩ := HC.p.reads;have hf1_ := hf_ 1;have hpos_ := HC.p.pos;have hlen_ := HT.len;clear hf_;go_wp2_with fail;clear t0 t1 t2 t5;clear c1_ hf1_ hpos_ hlen_;refine (lU HT HC.p (HR.out ▸ HNE.out)).mono (HC.ls HR.out ?_);rintro x9 v9 w9 U9 rfl HFIN;go_wp2_with fail;go_ret;exact HFIN
 replace HR := HR.out;simp only [hk, ξh, ↓reduceIte] at HR;replace HR := κ HR;cases hk2 : (t.kind == 2);rotate_left
 · replace HR := HR.out;simp only [hk2, ξh, ↓reduceIte] at HR;replace HR := κ HR;have t0 := HTK.cell 0 _ rfl;have t1 := HTK.cell 1 _ rfl;have t2 := HTK.cell 2 _ rfl;have t5 := fun x => (HTK.setb HC (i := 1) x).cell 1 _ rfl;obtain ⟨nv_, dv_, -, c1_, -, -, -, -, hf_⟩ := HC.p.reads;have hf1_ := hf_ 1;have hpos_ := HC.p.pos;have hlen_ := HT.len;clear hf_;go_wp2_with fail;clear t0 t1 t2 t5;clear c1_ hf1_ hpos_ hlen_;refine (qU HT [] _ ⟨Ints.nil _, Im.nil _ _⟩ (by simp) HC.p (HR.out ▸ HNE.out)).mono (HC.ls HR.out ?_);rintro x9 v9 w9 U9 rfl HFIN;go_wp2_with fail;go_ret;exact HFIN
 replace HR := HR.out;simp only [hk2, ξh, ↓reduceIte] at HR;replace HR := κ HR;have t0 := HTK.cell 0 _ rfl;have t1 := HTK.cell 1 _ rfl;have t2 := HTK.cell 2 _ rfl;have t5 := fun x => (HTK.setb HC (i := 1) x).cell 1 _ rfl;obtain ⟨nv_, dv_, -, c1_, -, -, -, -, hf_⟩ := HC.p.reads;have hf1_ := hf_ 1;have hpos_ := HC.p.pos;have hlen_ := HT.len;clear hf_;go_wp2_with fail;clear t0 t1 t2 t5;clear c1_ hf1_ hpos_ hlen_;clear HTK hk hk2;refine (aI HT HC.p [123]).mono (HC.cl HR ?_);rintro x1 st1 v1 w1 U1 rfl HF1 HC HR;replace HS := κ (HS.step HF1);cases x1;rotate_left
 · first | replace HR := κ (spt HR.out) | replace HR := κ (spf HR.out)
   go_wp2_with fail;have s0 := HS.cell 0 _ rfl;have s1 := HS.cell 1 _ rfl;have HSZ2 := κ HC.size;refine ψn (S := (fun W => W.cell? ⟨w2.heap.size, 0, none⟩ = some (.int .i64 (ak ts st).1) ∧ W.cell? ⟨w2.heap.size, 1, none⟩ = some (.int .i64 (ak ts st).2))) (by kernel_rfl) (by exact ⟨s0, s1⟩) (fun hH0 => ?_);refine tk 0 hH0 ?_;refine tk 1 hH0 ?_;refine tk 2 hH0 ?_;refine tk 3 hH0 ?_;refine tk 4 hH0 ?_;(try simp only [z0, zz])
   refine rk 5 fun K hK => ?_;(try simp only [zz])
   go_simp;refine (uZ HT [58] 139 L.ty (fun _ _ => rfl) (fun _ _ _ _ hp hne => HLow.ty hp hne) HC.p.drew (aC HR HNE)).mono (HC.drew.cl HR ?_);rintro x5 st5 v5 w5 U5 hv5 HF5 HC HR;replace HS := κ (HS.drew.step HF5);go_wp2_with fail;refine hK _ _ (by exact ⟨HS.cell 0 _ rfl, HS.cell 1 _ rfl⟩) fun hH1 => ?_;clear hK K hH0;(try simp only [z0, zz])
   refine rk 6 fun K hK => ?_;(try simp only [zz])
   go_simp;obtain ⟨hl5, hll5⟩ := hv5;replace HS := κ (HS.giveL (r := 4) hl5 (by decide));replace HR := κ (aQ HR);have hl := HC.own (hl5.low HSZ2);refine (aS hl.1.p (ak ts st) 43 [] x5 _ hl.2.1 hl.2.2 (by omega) (aC HR HNE)).mono (hl.1.cl HR ?_);rintro x6 st6 v6 w6 U6 rfl HF6 HC HR;replace HS := κ (HS.step HF6);clear hl;go_wp2_with fail;refine hK _ _ (by exact ⟨HS.cell 0 _ rfl, HS.cell 1 _ rfl⟩) fun hH2 => ?_;clear hK K hH1;(try simp only [z0, zz])
   refine tk 7 hH2 ?_;(try simp only [z0, zz])
   refine ψk (by kernel_rfl) ?_ _;go_wp2_with fail;go_ret;exact aG.good HR rfl rfl HC.p HC.f
 first | replace HR := κ (spt HR.out) | replace HR := κ (spf HR.out)
 go_wp2_with fail;refine (aI HT HC.p [40]).mono (HC.cl HR ?_);rintro x1 st1 v1 w1 U1 rfl HF1 HC HR;replace HS := κ (HS.step HF1);cases x1
 · first | replace HR := κ (spt HR.out) | replace HR := κ (spf HR.out)
   go_wp2_with fail;exact Rf
 · first | replace HR := κ (spt HR.out) | replace HR := κ (spf HR.out)
   go_wp2_with fail;have hr_ : R = (L.ty >>= fun i => dw ts [44] L.ty (ts.length + 1) [i] >>= fun l => bF ts [41] >>= fun _ => if (l.length == 1) = true then pure (l.getD 0 0) else iZ ts l) st1 := HR.trans (aA _ _ _ _);have HR := κ hr_;clear hr_;refine (HLow.ty HC.p (aC HR HNE)).mono (HC.cl HR ?_);rintro x5 st5 v5 w5 U5 rfl HF5 HC HR;replace HS := κ (HS.step HF5);have HL := κ (LR.lit (B := w.heap.size) (w := w5) (U := U5) [(x5 : Int)] #[.int .i64 x5] rfl HC.size (HC.p.zero (ξF _)) (by unfold maxLen; simp));have hc_ := HC.alloc (.cells #[.int .i64 x5] 3);have HC := κ hc_;clear hc_;go_wp2_with fail;go_loopg [5] (ts.length + 1) (fun g v wr => ∃ l st' U', LR (w.heap.size) wr U' v (l.map Int.ofNat) ∧ l.length ≤ 1099511627776 ∧ Cur w0 tv ts b qs w U wr U' st' ∧ R = (dw ts [44] L.ty g l >>= fun l => (bF ts [41] >>= fun _ => if (l.length == 1) = true then pure (l.getD 0 0) else iZ ts l)) st')
   case atStart => exact ⟨[x5], st5, U5, HL.out, by simp, HC.out, HR.out⟩
   case round =>
    obtain ⟨l, st', U', hl, hll, hc, hr⟩ := hrel;cases gk with
    | zero => exact absurd hr HNE
    | succ fu =>
     have HR := κ hr;have HC := κ hc;have HL := κ hl;have HLL := κ hll;clear hr hc hl hll;replace HR := κ (dO HR);go_wp2_with fail;refine (aI HT HC.p [44]).mono (HC.cl HR ?_);rintro x2 st2 v2 w2 U2 rfl HF2 HC HR;replace HL := κ (HL.step HF2);cases x2
     · first | replace HR := κ (spt HR.out) | replace HR := κ (spf HR.out)
       go_wp2_with fail;refine (bf HT HC.p [41]).mono (HC.cl HR ?_);rintro x4 st4 v4 w4 U4 rfl HF4 HC HR;replace HL := κ (HL.step HF4);by_cases h1 : l.length = 1
       · exact Rh
       · have hr_ : R = iZ ts l st4 := by rw [HR.out]; simp [h1]
         have HR := κ hr_;clear hr_;obtain ⟨ka, kcap, rfl, -⟩ := dP HL.ints;rw [ξ4] at HL ⊢;have h1i : ((l.length : Int) == 1) = false := by rw [ξY]; omega
         go_wp2_with fail;clear h1i;have hl := HC.own HL;have hll := HLL.out;refine (qU HT l _ ⟨hl.2.1, hl.2.2⟩ (by omega) hl.1.p (HR.out ▸ HNE.out)).mono (hl.1.ls HR.out ?_);rintro x9 v9 w9 U9 rfl HFIN;go_wp2_with fail;go_ret;exact HFIN
     · first | replace HR := κ (spt HR.out) | replace HR := κ (spf HR.out)
       go_wp2_with fail;refine (HLow.ty HC.p (aC HR HNE)).mono (HC.cl HR ?_);rintro x3 st3 v3 w3 U3 rfl HF3 HC HR;replace HL := κ (HL.step HF3);have hll := HLL.out;have hroom_ := bD HR HNE;have hroom := hroom_.1;replace HR := κ (hroom_.2);clear hroom_;obtain ⟨j0, hj, hj0, hj1, hj2⟩ := info_parts Tryz.infoInt;have HJ := κ (ξc hj (ξc hj0 (ξc hj1 hj2)));clear hj hj0 hj1 hj2;have hbs := HC.size;go_wp2_with (first | (at_builtin; refine ψm _ rfl (.tmp 40) (.tmp 43) 39 rfl (w.heap.size) 3 j0 (.int .i64 0) 1 8 Tryz.underlying39 HJ.out.1 HJ.out.2.1 HJ.out.2.2.1 HJ.out.2.2.2 rfl (by decide) _ (l.map Int.ofNat).length _ rfl (HL.out.1.alloc _) ⟨w3.heap.size, 0, none⟩ 1 1 [.int .i64 x3] rfl rfl (ξW (ψe _ _)) (bP _) (by decide) (by first | (simp [maxLen]; done) | (simp; unfold maxLen; omega)) (by first | (simp; done) | (simp; omega)) (by first | (simp; done) | (simp; omega)) _ rfl ?_; intro g2 cap2 w5 hrow2 hgr2 hgb2 hgl2));exact RO
theorem KO (HT : Tks w0 tv ts) (HLow : bW w0 tv ts b L) : Ok w0 tv ts b 261 (qg ts L) := fun _ _ _ _ hp hne => Ir HT HLow hp hne
theorem Dk (HT : Tks w0 tv ts) (HLow : bW w0 tv ts b L) : Ok w0 tv ts b 219 (dL ts L) := fun _ _ _ _ hp hne => y9 HT (KO HT HLow) hp hne
theorem Cv (HT : Tks w0 tv ts) (HLow : bW w0 tv ts b L) : Ok w0 tv ts b 183 (fC ts L) := fun _ _ _ _ hp hne => xL HT (Dk HT HLow) hp hne
theorem MK (HT : Tks w0 tv ts) (HLow : bW w0 tv ts b L) : Ok w0 tv ts b 139 (tyM ts L) := fun _ _ _ _ hp hne => I8 HT HLow (Cv HT HLow) hp hne
end
theorem oD (k s : Bytes) (v : Fx) : ∀ nm : Names, eO s (nm ++ [(k, v)]) = if k = s then some v else eO s nm
 | [] => by
  show (match eO s [] with | some f => some f | none => if k == s then some v else none) = _;simp [eO]
 | p :: l => by
  show (match eO s (l ++ [(k, v)]) with | some f => some f | none => if p.1 == s then some p.2 else none) = _;rw [oD k s v l];by_cases h : k = s
  · rw [ψi h, ψi h]
  · rw [ψh h, ψh h]; rfl
theorem NmD.put {D : DataW Unit} {nm : Names} (h : NmD D nm) (hD : Go.Maps.IsMap D) (k : Bytes) (v : Fx) : NmD (D.put (.string k) (fxD v)) (nm ++ [(k, v)]) := fun s => by
 rw [oD];by_cases hk : k = s
 · subst hk;rw [ψi rfl];exact ⟨Go.Maps.has_put_same hD (by simp [WideAt.IsKeyLit]) _, Go.Maps.atKey_put_same hD (by simp [WideAt.IsKeyLit]) _ _⟩
 · rw [ψh hk, Go.Maps.has_put_other (by simpa using fun e => hk e.symm) _, Go.Maps.atKey_put_other (by simpa using fun e => hk e.symm) _ _];exact h s
theorem NmS.put {w : World} {m : Nat} {nm : Names} (h : NmS w m nm) (hn : nm.length < maxLen) (k : Bytes) (hk : k.length ≤ maxLen) (f : Fx) :
 ∃ w', (Instr.mapUpdate 104 (.map (some m)) (str k) (fxV f)).run Tryz.prog w = .ok () w' ∧ NmS w' m (nm ++ [(k, f)]) ∧ w.grownBy w' (some m) := by
 obtain ⟨D, ho, hd⟩ := h;obtain ⟨w', hrun, h1, h2⟩ := ho.update MI Tryz.underlying104 hn (key := str k) (kl := .string k) (Go.WideMaps.keyOf_string_mk Tryz.underlying9 hk) (sx f);exact ⟨w', hrun, ⟨_, by simpa using h1, hd.put ho.isMap k f⟩, h2⟩
theorem NmS.made (w : World) : NmS (w.alloc (.map #[] 0)) w.heap.size [] :=
 ⟨_, World.ownsMap_made w _ _ _, fun s => by constructor <;> simp [eO, Go.Maps.has, DataW.atKey]⟩
theorem bH {ops : Array Oper} {rest : List Oper} {o : Oper} {a : Act} {w : World} {Q : Exit → Act → World → Prop} (hg : o.guard = none) (m x v : Operand)
 (hop : o.op = Op.insert 104 m x v ∨ o.op = Op.mapUpdate 104 m x v) (blk : Nat) (nm : Names) (hm : a.eval m = .map (some blk)) (h : NmS w blk nm) (hn : nm.length < maxLen)
 (k : Bytes) (f : Fx) (hx : a.eval x = str k) (hk : k.length ≤ maxLen) (hv : a.eval v = fxV f)
 (hK : ∀ w', NmS w' blk (nm ++ [(k, f)]) → w.grownBy w' (some blk) → wpList Tryz.prog ops Q rest (a.put o.dst undef) w') : wpList Tryz.prog ops Q (o :: rest) a w := by
 refine wpList_plain hg fun K' hK' => ?_;obtain ⟨w', hrun, r1, r2⟩ := h.put hn k hk f;unfold Oper.wp;rcases hop with hop | hop <;> (simp [execOp, hop, hm, hx, hv, hrun, Result.andThen]; exact hK' _ _ (hK w' r1 r2))
def Rl.mark (U : Rl) (bs : List Nat) : Rl := fun k => if k ∈ bs then 1 else U k
theorem Rl.mark_off {U : Rl} {bs : List Nat} {k : Nat} (h : k ∉ bs) : U.mark bs k = U k := by simp [Rl.mark, h]
theorem Rl.mark_on {U : Rl} {bs : List Nat} {k : Nat} (h : k ∈ bs) : U.mark bs k = 1 := by simp [Rl.mark, h]
theorem Rl.mark_zero {U : Rl} {bs : List Nat} {k : Nat} (h : U.mark bs k = 0) : U k = 0 ∧ k ∉ bs := by
 by_cases hk : k ∈ bs
 · rw [Rl.mark_on hk] at h; cases h
 · exact ⟨by rw [Rl.mark_off hk] at h; exact h, hk⟩
section
variable {w0 : World} {tv : Value} {ts : List Tok} {b : Nat} {qs : List Nat} {w : World} {U : Rl} {st : PS} {L : Low}
theorem Fr.markS {w : World} {U : Rl} {w' : World} {U' : Rl} (h : Fr w U w' U') (bs : List Nat) : Fr w (U.mark bs) w' U' :=
 ⟨h.os, h.tape, h.output, h.size, fun k hk hu => h.keep k hk (Rl.mark_zero hu).1, fun k hk hu => h.sub k hk (Rl.mark_zero hu).1⟩
theorem Cur.startM (bs : List Nat) (h : TSt w0 tv ts b qs w U st) : Cur w0 tv ts b qs w (U.mark bs) w U st := ⟨h, (Fr.refl w U).markS bs, h.base.size⟩
theorem Cur.offM {bs : List Nat} {wc : World} {Uc : Rl} {stc : PS} (h : Cur w0 tv ts b qs w (U.mark bs) wc Uc stc) {K i : Nat} (hL : Uc K = 0) (hm : K ∈ bs) (hge : w0.heap.size ≤ K) (x : Value) : Cur w0 tv ts b qs w (U.mark bs) (wc.setCell ⟨K, i, none⟩ x) Uc stc :=
 ⟨h.p.off (p := ⟨K, i, none⟩) hge hL x, h.f.setCell (p := ⟨K, i, none⟩) (.inr (by show U.mark bs K ≠ 0; rw [Rl.mark_on hm]; decide)) x, h.le⟩
theorem Fr.mark2 {a c d : World} {X Y Z : Rl} {bs : List Nat} (h : Fr a X c Y) (k : Fr c (Y.mark bs) d Z) : Fr a (X.mark bs) d Z :=
 have hz : ∀ i, i < a.heap.size → X.mark bs i = 0 → X i = 0 ∧ Y.mark bs i = 0 := fun i hi hu => by
  obtain ⟨h1, h2⟩ := Rl.mark_zero hu;exact ⟨h1, by rw [Rl.mark_off h2]; exact h.sub i hi h1⟩
 ⟨k.os.trans h.os, k.tape.trans h.tape, k.output.trans h.output, ξG h.size k.size,
  fun i hi hu => (k.keep i (ξH hi h.size) (hz i hi hu).2).trans (h.keep i hi (hz i hi hu).1), fun i hi hu => k.sub i (ξH hi h.size) (hz i hi hu).2⟩
theorem Cur.callM {bs : List Nat} {wc : World} {Uc : Rl} {stc : PS} {α β : Type} {V : α → Value → World → Rl → Prop} {m : M α} {f : α → M β} {R : Except Flt (β × PS)} {e : Ending} {w' : World} (hc : Cur w0 tv ts b qs w U wc Uc stc)
 (h : aG w0 tv ts b qs V (m stc) wc (Uc.mark bs) e w') (hb : ∀ i ∈ bs, w.heap.size ≤ i ∨ U i ≠ 0) (HR : R = (m >>= f) stc) :
 (∃ x st' v U', e = .returned v ∧ V x v w' U' ∧ Cur w0 tv ts b qs w U w' U' st' ∧ Fr wc (Uc.mark bs) w' U' ∧ R = f x st') ∨
 (∃ l c k, e = zV l c k ∧ aG w0 tv ts b qs (fun (_ : β) _ _ _ => True) R w U e w' ∧ ∀ V' : β → Value → World → Rl → Prop, aG w0 tv ts b qs V' R w U e w') := by
 rcases h.step HR with ⟨x, st', v, U', h1, h2, h3, h4, h5⟩ | ⟨l, c, k, h1, h2, h3⟩
 · refine .inl ⟨x, st', v, U', h1, h2, ⟨h3, ?_, hc.le⟩, h4, h5⟩;have hz : ∀ i, i < w.heap.size → U i = 0 → Uc.mark bs i = 0 := fun i hi hu => by
    rw [Rl.mark_off fun e => by rcases hb i e with h | h; omega; exact h hu]; exact hc.f.sub i hi hu
   exact ⟨h4.os.trans hc.f.os, h4.tape.trans hc.f.tape, h4.output.trans hc.f.output, ξG hc.f.size h4.size,
    fun i hi hu => (h4.keep i (ξH hi hc.f.size) (hz i hi hu)).trans (hc.f.keep i hi hu), fun i hi hu => h4.sub i (ξH hi hc.f.size) (hz i hi hu)⟩
 · exact .inr ⟨l, c, k, h1, aG.bad h3 h1 h2, fun _ => aG.bad h3 h1 h2⟩
theorem Loc.stepM {bs : List Nat} {wc : World} {Uc : Rl} {k : Nat} {cs : Array Value} {T : TypeId} (h : Loc wc Uc k cs T) {w' : World} {U' : Rl} (hf : Fr wc (Uc.mark bs) w' U') (hk : k ∉ bs) : Loc w' U' k cs T :=
 ⟨(hf.keep k h.lt ((Rl.mark_off hk).trans h.2)).trans h.1, hf.sub k h.lt ((Rl.mark_off hk).trans h.2)⟩
theorem TSt.newScope (h : TSt w0 tv ts b qs w U st) : ∃ U1 : Rl,
 TSt w0 tv ts b ((w.heap.size + 2) :: qs) ((((w.alloc (.cells #[qsV qs] 182)).alloc (.map #[] 0)).alloc (.cells #[.pointer (some ⟨w.heap.size, 0, none⟩), .map (some (w.heap.size + 1))] 107)).setCell ⟨b, 5, none⟩ (.pointer (some ⟨w.heap.size + 2, 0, none⟩))) U1 { st with sc := [] :: st.sc } ∧
 Fr w U ((((w.alloc (.cells #[qsV qs] 182)).alloc (.map #[] 0)).alloc (.cells #[.pointer (some ⟨w.heap.size, 0, none⟩), .map (some (w.heap.size + 1))] 107)).setCell ⟨b, 5, none⟩ (.pointer (some ⟨w.heap.size + 2, 0, none⟩))) U1 := by
 have hz : ∀ k, w.heap.size ≤ k → U k = 0 := fun k hk => h.zero hk;obtain ⟨wa, hwa⟩ : ∃ wa, w.alloc (.cells #[qsV qs] 182) = wa := ⟨_, rfl⟩;obtain ⟨wb, hwb⟩ : ∃ wb, wa.alloc (.map #[] 0) = wb := ⟨_, rfl⟩;obtain ⟨wc, hwc⟩ : ∃ wc, wb.alloc (.cells #[.pointer (some ⟨w.heap.size, 0, none⟩), .map (some (w.heap.size + 1))] 107) = wc := ⟨_, rfl⟩;have sa : wa.heap.size = w.heap.size + 1 := by rw [← hwa]; simp
 have sb : wb.heap.size = w.heap.size + 2 := by rw [← hwb]; simp [sa]
 have sc : wc.heap.size = w.heap.size + 3 := by rw [← hwc]; simp [sb]
 have hbase := h.base.size;have h1 := ((h.alloc (.cells #[qsV qs] 182)).alloc (.map #[] 0)).alloc (.cells #[.pointer (some ⟨w.heap.size, 0, none⟩), .map (some (w.heap.size + 1))] 107);rw [hwa, hwb, hwc] at h1 ⊢;have c0 : wc.heap[w.heap.size]? = some (.cells #[qsV qs] 182 (0, 0)) := by
  rw [← hwc, ξe wb _ _ (by omega), ← hwb, ξe wa _ _ (by omega), ← hwa]; exact ψe w _
 have c2 : wc.heap[w.heap.size + 2]? = some (.cells #[.pointer (some ⟨w.heap.size, 0, none⟩), .map (some (w.heap.size + 1))] 107 (0, 0)) := by
  rw [← hwc, ← sb]; exact ψe wb _
 have h2 := h1.take (k := w.heap.size) (r := 4) (hz _ (ξF _)) ⟨hbase, by omega⟩ (fun _ => ⟨_, _, c0⟩);have h3 := h2.take (k := w.heap.size + 1) (r := 5 + st.sc.length) (by rw [Rl.set_other (by omega)]; exact hz _ (by omega)) ⟨by omega, by omega⟩ (fun e => by omega);have h4 := h3.take (k := w.heap.size + 2) (r := 4) (by rw [Rl.set_other (by omega), Rl.set_other (by omega)]; exact hz _ (by omega)) ⟨by omega, by omega⟩ (fun _ => ⟨_, _, c2⟩);obtain ⟨U1, hU⟩ : ∃ U1, ((U.set w.heap.size 4).set (w.heap.size + 1) (5 + st.sc.length)).set (w.heap.size + 2) 4 = U1 := ⟨_, rfl⟩;rw [hU] at h4;have u0 : U1 w.heap.size = 4 := by rw [← hU, Rl.set_other (by omega), Rl.set_other (by omega), Rl.set_same]
 have u1 : U1 (w.heap.size + 1) = 5 + st.sc.length := by rw [← hU, Rl.set_other (by omega), Rl.set_same]
 have u2 : U1 (w.heap.size + 2) = 4 := by rw [← hU, Rl.set_same]
 have n1 : NmS wc (w.heap.size + 1) [] := by
  have := NmS.made wa;rw [sa, hwb] at this;exact this.keep (by rw [← hwc]; exact ξe wb _ _ (by omega))
 have hsc := h4.sc;have hlen := hsc.len;have hs : ScS wc U1 ((w.heap.size + 2) :: qs) ([] :: st.sc) := by
  cases hq : qs with
  | nil => rw [hq] at hlen; have := hlen.1; have := hlen.2; cases hss : st.sc with
   | nil => exact absurd hss hlen.2
   | cons a r => rw [hss] at hlen; simp at hlen
  | cons q2 qr =>
   cases hss : st.sc with
   | nil => exact absurd hss hlen.2
   | cons a r =>
    rw [hq, hss] at hsc;rw [hq] at c0;rw [hss] at u1;unfold ScS;refine ⟨u2, w.heap.size, w.heap.size + 1, c2, u0, c0, ?_, n1, hsc⟩;rw [u1]; simp; omega
 have h5 := h4.setIn hs;refine ⟨U1, h5, ?_⟩;have f1 := (((Fr.refl w U).alloc (.cells #[qsV qs] 182)).alloc (.map #[] 0)).alloc (.cells #[.pointer (some ⟨w.heap.size, 0, none⟩), .map (some (w.heap.size + 1))] 107);rw [hwa, hwb, hwc] at f1;have f2 := ((f1.set (k := w.heap.size) (r := 4) (.inl (ξF _))).set (k := w.heap.size + 1) (r := 5 + st.sc.length) (.inl (by omega))).set (k := w.heap.size + 2) (r := 4) (.inl (by omega));rw [hU] at f2;exact f2.setCell (p := ⟨b, 5, none⟩) (.inr (by show U b ≠ 0; rw [h.ub]; decide)) _
def MP {α : Type} : Except Flt (α × PS) → Except Flt (α × PS)
 | .error e => .error e
 | .ok x => .ok (x.1, { x.2 with sc := x.2.sc.tail })
theorem uO {α : Type} (m : M α) (st : PS) : dQ m st = MP (m { st with sc := [] :: st.sc }) := by
 unfold dQ;cases m { st with sc := [] :: st.sc } <;> rfl
def OkC (w0 : World) (tv : Value) (ts : List Tok) (b : Nat) (F : FuncId) (caps : Array Value) (bs : List Nat) {α : Type} (Pre : World → Rl → Prop) (V : α → Value → World → Rl → Prop) (m : M α) : Prop :=
 ∀ q qs w U st, TSt w0 tv ts b (q :: qs) w U st → Pre w U → m st ≠ .error .out → Calls Tryz.prog F caps w (aG w0 tv ts b (q :: qs) V (m st) w (U.mark bs))
theorem r9 {α : Type} (F : Nat) (caps : Array Value) (bs : List Nat) (Pre : World → Rl → Prop) (V : α → Value → World → Rl → Prop) (m : M α) (eg : ∀ (args : Array Value) (w : World), (callFunc F args).run Tryz.prog w = .ok (.enter F args) w)
 (hst : ∀ wa Ua wb Ub, Pre wa Ua → Fr wa Ua wb Ub → Pre wb Ub) (hV : ∀ x v wa Ua y, V x v wa Ua → Ua b = 1 → V x v (wa.setCell ⟨b, 5, none⟩ y) Ua) (hVt : ∀ x v wa Ua, V x v wa Ua → v = .tuple #[])
 (hF : OkC w0 tv ts b F caps bs Pre V m) (hpre : Pre w U) (hp : TSt w0 tv ts b qs w U st) (hne : dQ m st ≠ .error .out) :
 Calls Tryz.prog 143 #[bL b, .func (.func F) #[] caps] w (aG w0 tv ts b qs V (dQ m st) w (U.mark bs)) := by
 obtain ⟨q0, qr, rfl⟩ : ∃ q0 qr, qs = q0 :: qr := by
  have hl0 := hp.sc.len;cases qs with
  | nil => exact absurd (ξq (by simpa using hl0.1.symm)) hl0.2
  | cons a r => exact ⟨a, r, rfl⟩
 obtain ⟨D, hD⟩ : ∃ D, m { st with sc := [] :: st.sc } = D := ⟨_, rfl⟩;have hdne : D ≠ .error .out := fun e => hne (by unfold dQ; rw [hD, e]);have hRR : dQ m st = MP D := (uO m st).trans (by rw [hD]);rw [hRR];obtain ⟨U1, hp1, hf1⟩ := hp.newScope;have HP := κ hp;have hq1 := hF _ _ _ _ _ hp1 (hst _ _ _ _ hpre hf1) (by rw [hD]; exact hdne);rw [hD] at hq1;simp only [qsV] at hq1;have HQ := κ hq1;have HF1 := κ hf1;have HB1 := κ hp1.base;obtain ⟨nv, dv, -, -, -, -, -, c5, hfz⟩ := hp.reads;simp only [qsV] at c5;have f5 := hfz 5;have c5a := fun o => ay c5 o;have c5b := fun o o2 => ay (ay c5 o) o2;have f5a : ∀ o, (w.alloc o).frozen? ⟨b, 5, none⟩ = false := fun o => (World.frozen?_alloc_old w _ _ (by have := hp.bb.2; simp; omega)).trans f5;have hbb := hp.bb.2;have f5c : ∀ o o2 o3, (((w.alloc o).alloc o2).alloc o3).frozen? ⟨b, 5, none⟩ = false := fun o o2 o3 =>
  (World.frozen?_alloc_old _ _ _ (by simp; omega)).trans ((World.frozen?_alloc_old _ _ _ (by simp; omega)).trans (f5a o))
 have c5c := fun o o2 o3 => ay (ay (ay c5 o) o2) o3;clear hq1 hf1 hp1 hfz hRR hne hp hst hF hpre hD c5a c5b f5a;have hmm : ∀ w : World, (Instr.makeMap 104 none).run Tryz.prog w = .ok (.map (some w.heap.size)) (w.alloc (.map #[] 0)) := fun _ => by kernel_rfl
 go_enter Tryz.func143, Tryz.ntmps143;go_wp2_with fail;refine HQ.mono ?_;intro e w4 hq;cases D with
 | error g =>
  cases g with
  | out => exact absurd rfl hdne
  | stop l c k =>
   obtain ⟨rfl, hb4⟩ := hq;have HB4 := κ hb4;clear hb4 c5 f5 f5c c5c;go_wp2_with fail;exact ⟨rfl, rfl, HB4⟩
 | ok x =>
  obtain ⟨v, U', rfl, hv, hp4, hf4⟩ := hq;obtain rfl := hVt _ _ _ _ hv;obtain ⟨nv4, dv4, -, -, -, -, -, d5, hfz4⟩ := hp4.reads;have g5 := hfz4 5;have HP4 := κ hp4;have HF4 := κ hf4;have HV4 := κ hv;clear hp4 hf4 hv hfz4 c5 f5 f5c c5c;go_wp2_with fail;go_end0
  refine ⟨_, U', rfl, hV _ _ _ _ _ HV4 HP4.ub, ?_, ?_⟩
  · have hs := HP4.sc;have hl := hs.len;cases hss : x.2.sc with
    | nil => exact absurd hss hl.2
    | cons a r =>
     rw [hss] at hs hl;cases r with
     | nil => simp at hl
     | cons n2 r =>
      unfold ScS at hs;obtain ⟨-, o, m', -, -, -, -, -, h6⟩ := hs;exact HP4.setIn h6
  · exact (HF1.mark2 HF4).trans ((HP4.frame 5 _))
end
end Go.Proofs.YtbchkldhnjahaaaGreatDoor
