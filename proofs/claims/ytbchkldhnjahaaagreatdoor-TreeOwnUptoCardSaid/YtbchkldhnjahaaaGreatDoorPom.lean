/- Part of the proof. Conditions: those of each theorem. -/
import Derived.Test.YtbchkldhnjahaaaGreatDoorPoa
import Derived.Test.YtbchkldhnjahaaaGreatDoorPoj
import Derived.Test.YtbchkldhnjahaaaGreatDoorPol
set_option maxRecDepth 100000
set_option maxHeartbeats 40000000
namespace Go.Proofs.YtbchkldhnjahaaaGreatDoor
open Go.RowKit Kiln
open Go.Proofs
section
variable {w0 : World} {tv : Value} {ts : List Tok} {b : Nat} {qs : List Nat} {w : World} {U : Rl} {st : PS} {L : Low}
theorem rH {f : Nat} {l : List Nat} {R : Except Flt (List Nat × PS)} (HR : R = dN ts L (f + 1) l st) :
 R = (dA ts >>= fun s => aX ts [46, 46, 46] >>= fun c => if c = true then (aV s 35 [] [] >>= fun i => cA l >>= fun _ => bF ts [125] >>= fun _ => pure (l ++ [i])) else (eT ts L s >>= fun i => cA l >>= fun _ => aX ts [44] >>= fun c => if c = true then dN ts L f (l ++ [i]) else (bF ts [125] >>= fun _ => pure (l ++ [i])))) st := HR
theorem vY (HT : Tks w0 tv ts) (HLow : bW w0 tv ts b L) (hp : TSt w0 tv ts b qs w U st) (hne : dZ ts L st ≠ .error .out) :
 Calls Tryz.prog 218 #[bL b] w (aG w0 tv ts b qs (Mh w.heap.size) (dZ ts L st) w U) := by
 obtain ⟨R, hR⟩ : ∃ R, dZ ts L st = R := ⟨_, rfl⟩;rw [hR] at hne ⊢;have HNE := κ hne;unfold dZ at hR;have HR := κ hR.symm;have HC := κ (Cur.start hp);clear hR hne hp;go_enter Tryz.func218, Tryz.ntmps218;go_wp2_with fail;refine (aI HT HC.p [125]).mono (HC.cl HR ?_);rintro x1 st1 v1 w1 U1 rfl HF1 HC HR;cases x1;rotate_left
 · first | replace HR := κ (spt HR.out) | replace HR := κ (spf HR.out)
   go_wp2_with fail;go_ret;exact aG.good HR.out rfl ⟨LR.nil _ _ _, by simp⟩ HC.p HC.f
 first | replace HR := κ (spt HR.out) | replace HR := κ (spf HR.out)
 go_wp2_with fail;go_loopg [3] (ts.length + 1) (fun g v wr => ∃ l st' U', LR w.heap.size wr U' v (l.map Int.ofNat) ∧ l.length ≤ 1099511627776 ∧ Cur w0 tv ts b qs w U wr U' st' ∧ R = (dN ts L g l) st')
 case atStart => exact ⟨[], st1, U1, LR.nil _ _ _, by simp, HC.out, HR.out⟩
 case round =>
  obtain ⟨l, st', U', hl, hll, hc, hr⟩ := hrel;cases gk with
  | zero => exact absurd hr HNE
  | succ fu =>
   have HR := κ hr;have HC := κ hc;have HL := κ hl;have HLL := κ hll;clear hr hc hl hll;replace HR := κ (rH HR);go_wp2_with fail;replace HR := κ (aK (g := ak ts) HR);refine (aY HT HC.p).mono ?_;rintro e w1 ⟨rfl, hb1⟩;replace HC := κ (HC.below hb1);replace HL := κ (HL.below hb1);have HB1 := κ hb1;clear hb1;obtain ⟨wh, hwh⟩ : ∃ wh, w1 = wh := ⟨_, rfl⟩;rw [hwh] at HC HL ⊢;clear hwh;unfold dc;go_wp2_with fail;have HS := κ (Loc.new HC #[.int .i64 (ak ts st').1, .int .i64 (ak ts st').2] 109);have hc_ := HC.alloc (.cells #[.int .i64 (ak ts st').1, .int .i64 (ak ts st').2] 109);replace HL := κ (HL.alloc (.cells #[.int .i64 (ak ts st').1, .int .i64 (ak ts st').2] 109));have HC := κ hc_;clear hc_;refine (aI HT HC.p [46, 46, 46]).mono (HC.cl HR ?_);rintro x3 st3 v3 w3 U3 rfl HF3 HC HR;replace HL := κ (HL.step HF3);replace HS := κ (HS.step HF3);cases x3
   · first | replace HR := κ (spt HR.out) | replace HR := κ (spf HR.out)
     have s0 := HS.cell 0 _ rfl;have s1 := HS.cell 1 _ rfl;go_wp2_with fail;clear s0 s1;refine (xS HT HLow (ak ts st') HC.p (aC HR HNE)).mono (HC.cl HR ?_);rintro x4 st4 v4 w4 U4 rfl HF4 HC HR;replace HL := κ (HL.step HF4);have hll := HLL.out;have hroom_ := bD HR HNE;have hroom := hroom_.1;replace HR := κ (hroom_.2);clear hroom_;obtain ⟨j0, hj, hj0, hj1, hj2⟩ := info_parts Tryz.infoInt;have HJ := κ (ξc hj (ξc hj0 (ξc hj1 hj2)));clear hj hj0 hj1 hj2;have hbs := HC.size;go_wp2_with (first | (at_builtin; refine ψm _ rfl (.tmp 21) (.tmp 25) 39 rfl (w.heap.size) 3 j0 (.int .i64 0) 1 8 Tryz.underlying39 HJ.out.1 HJ.out.2.1 HJ.out.2.2.1 HJ.out.2.2.2 rfl (by decide) _ (l.map Int.ofNat).length _ rfl (HL.out.1.alloc _) ⟨w4.heap.size, 0, none⟩ 1 1 [.int .i64 x4] rfl rfl (ξW (ψe _ _)) (bP _) (by decide) (by first | (simp [maxLen]; done) | (simp; unfold maxLen; omega)) (by first | (simp; done) | (simp; omega)) (by first | (simp; done) | (simp; omega)) _ rfl ?_; intro g2 cap2 w5 hrow2 hgr2 hgb2 hgl2));have hpu := (HC.alloc _).push (n := l.length + 1) (cap := cap2) (fun k e => (HL.lt k e).1) HL.out.2 (by omega) hgr2 hgb2;have hl5 : LR (w.heap.size) w5 U4 (.slice (some ⟨g2, 0, none⟩) (l.length + 1) cap2) ((l ++ [x4]).map Int.ofNat) := ⟨by simpa using hrow2, hpu.2⟩;clear HC HL hrow2 hgr2 hgb2 hgl2 hbs HJ;have HC := κ hpu.1;have HL := κ hl5;clear hpu hl5;refine (aI HT HC.p [44]).mono (HC.cl HR ?_);rintro x9 st9 v9 w9 U9 rfl HF9 HC HR;replace HL := κ (HL.step HF9);cases x9
     · first | replace HR := κ (spt HR.out) | replace HR := κ (spf HR.out)
       go_wp2_with fail;refine (bf HT HC.p [125]).mono (HC.cl HR ?_);rintro x10 st10 v10 w10 U10 rfl HF10 HC HR;replace HL := κ (HL.step HF10);go_wp2_with fail;go_ret;exact aG.good HR.out rfl ⟨HL.out, by simp; omega⟩ HC.p HC.f
     · first | replace HR := κ (spt HR.out) | replace HR := κ (spf HR.out)
       go_wp2_with fail;go_roundg fu
       case measure => omega
       case rel => exact ⟨l ++ [x4], st9, U9, HL.out, by simp; omega, HC.out, HR.out⟩
   · first | replace HR := κ (spt HR.out) | replace HR := κ (spf HR.out)
     have s0 := HS.cell 0 _ rfl;have s1 := HS.cell 1 _ rfl;go_wp2_with fail;clear s0 s1;refine (bK HC.p (ak ts st') 35 [] [] (Ints.nil _) (Im.nil _ _) (by simp) (aC HR.out HNE.out)).mono (HC.cl HR.out ?_);rintro x4 st4 v4 w4 U4 rfl HF4 HC HR;replace HL := κ (HL.step HF4);have hll := HLL.out;have hroom_ := bD HR HNE;have hroom := hroom_.1;replace HR := κ (hroom_.2);clear hroom_;obtain ⟨j0, hj, hj0, hj1, hj2⟩ := info_parts Tryz.infoInt;have HJ := κ (ξc hj (ξc hj0 (ξc hj1 hj2)));clear hj hj0 hj1 hj2;have hbs := HC.size;go_wp2_with (first | (at_builtin; refine ψm _ rfl (.tmp 12) (.tmp 16) 39 rfl (w.heap.size) 3 j0 (.int .i64 0) 1 8 Tryz.underlying39 HJ.out.1 HJ.out.2.1 HJ.out.2.2.1 HJ.out.2.2.2 rfl (by decide) _ (l.map Int.ofNat).length _ rfl (HL.out.1.alloc _) ⟨w4.heap.size, 0, none⟩ 1 1 [.int .i64 x4] rfl rfl (ξW (ψe _ _)) (bP _) (by decide) (by first | (simp [maxLen]; done) | (simp; unfold maxLen; omega)) (by first | (simp; done) | (simp; omega)) (by first | (simp; done) | (simp; omega)) _ rfl ?_; intro g2 cap2 w5 hrow2 hgr2 hgb2 hgl2));have hpu := (HC.alloc _).push (n := l.length + 1) (cap := cap2) (fun k e => (HL.lt k e).1) HL.out.2 (by omega) hgr2 hgb2;have hl5 : LR (w.heap.size) w5 U4 (.slice (some ⟨g2, 0, none⟩) (l.length + 1) cap2) ((l ++ [x4]).map Int.ofNat) := ⟨by simpa using hrow2, hpu.2⟩;clear HC HL hrow2 hgr2 hgb2 hgl2 hbs HJ;have HC := κ hpu.1;have HL := κ hl5;clear hpu hl5;refine (bf HT HC.p [125]).mono (HC.cl HR ?_);rintro x10 st10 v10 w10 U10 rfl HF10 HC HR;replace HL := κ (HL.step HF10);go_wp2_with fail;go_ret;exact aG.good HR.out rfl ⟨HL.out, by simp; omega⟩ HC.p HC.f
theorem RL {p : Prop} (h : p := by
 replace HR := κ HR;have s0 := HS.cell 0 _ rfl;have s1 := HS.cell 1 _ rfl;have s2 := fun x => (HS.setb HC (i := 1) x).cell 0 _ rfl;have s3 := fun x => (HS.setb HC (i := 1) x).cell 1 _ rfl;have t0 := HTK.cell 0 _ rfl;have t1 := HTK.cell 1 _ rfl;have t2 := HTK.cell 2 _ rfl;have t5 := fun x => (HTK.setb HC (i := 1) x).cell 1 _ rfl;obtain ⟨nv_, dv_, -, c1_, -, -, -, -, hf_⟩ := HC.p.reads;have hf1_ := hf_ 1;have hpos_ := HC.p.pos;have hlen_ := HT.len;clear hf_;go_wp2_with fail;clear s0 s1 s2 s3;clear t0 t1 t2 t5;clear c1_ hf1_ hpos_ hlen_;have hk_ := HC.skip (1) HR HNE;clear HC HR;have HC := κ hk_.1;have HR := κ hk_.2;clear hk_;refine (bK HC.p (ak ts st) (bZ t) t.text [] (Ints.nil _) (Im.nil _ _) (by simp) (HR.out ▸ HNE.out)).mono (HC.ls HR.out ?_);rintro x9 v9 w9 U9 rfl HFIN;go_wp2_with fail;go_ret;exact HFIN
 ) : p := h
theorem Q7 {p : Prop} (h : p := by
 cases hk : (t.kind == 2)
 · go_wp2_with fail;go_meet
   exact ⟨by simp [hk], rfl⟩
 · cases hpa : t.path with
   | nil =>
    rw [hpa] at t2;go_wp2_with fail;go_meet
    exact ⟨by simp [hk, hpa], rfl⟩
   | cons x l =>
    rw [hpa] at t2;have hl : (0 : Int) < (l.length : Int) + 1 := by omega
    go_wp2_with fail;go_meet
    exact ⟨by simp [hk, hpa], rfl⟩
 ) : p := h
theorem Q6 {p : Prop} (h : p := by
 rintro x6 st6 v6 w6 U6 rfl HF6 HC HR;replace HS := κ (HS.step HF6);clear hl;go_wp2_with fail;refine hK _ _ (by exact ⟨HS.cell 0 _ rfl, HS.cell 1 _ rfl⟩) fun hH2 => ?_;clear hK K hH1;(try simp only [z0, zz])
 refine tk 7 hH2 ?_;(try simp only [z0, zz])
 refine ψk (by kernel_rfl) ?_ _;go_wp2_with fail;go_ret;exact aG.good HR rfl rfl HC.p HC.f
 ) : p := h
theorem NQ {p : Prop} (h : p := by
 go_wp2_with fail;refine (iT HT HC.p).mono ?_;rintro e w9 ⟨rfl, hb9⟩;have HB9 := κ hb9; clear hb9;go_wp2_with fail;exact ⟨rfl, aG.bad HR rfl (HC.p.base.trans (HB9.mono HC.p.base.size))⟩
 ) : p := h
theorem FL (HT : Tks w0 tv ts) (HLow : bW w0 tv ts b L) (hp : TSt w0 tv ts b qs w U st) (hne : j4 ts L st ≠ .error .out) :
 Calls Tryz.prog 292 #[bL b] w (aG w0 tv ts b qs idR (j4 ts L st) w U) := by
 obtain ⟨R, hR⟩ : ∃ R, j4 ts L st = R := ⟨_, rfl⟩;rw [hR] at hne ⊢;have HNE := κ hne;unfold j4 at hR;have HR := κ hR.symm;have HC := κ (Cur.start hp);clear hR hne hp;go_enter Tryz.func292, Tryz.ntmps292;go_wp2_with fail;replace HR := κ (aK (g := ak ts) HR);refine (aY HT HC.p).mono ?_;rintro e w1 ⟨rfl, hb1⟩;replace HC := κ (HC.below hb1);have HB1 := κ hb1;clear hb1;clear HB1;unfold dc;go_wp2_with fail;replace HR := κ (aK (g := aB ts 0) HR);refine (aU HT HC.p 0 (by omega)).mono ?_;rintro e w2 ⟨⟨pv, rfl, hs⟩, hb2⟩;have hc2 := HC.below hb2;clear HC hb2;have HC := κ hc2;clear hc2;obtain ⟨t, ht⟩ : ∃ t, aB ts 0 st = t := ⟨_, rfl⟩;rw [ht] at hs ⊢;(try rw [ht] at HR)
 have HTS := κ (ht ▸ bC HT 0 st);have HTT := κ ht;clear ht;have HP := κ hs;obtain ⟨a, cap, rfl, -⟩ := hs;unfold tkV;have HSZ := κ HC.size;have HS := κ ((Loc.new HC #[.int .i64 (ak ts st).1, .int .i64 (ak ts st).2] 109).alloc (.cells #[.int .i64 t.kind, str t.text, .slice a t.path.length cap, .int .i64 t.line, .int .i64 t.col] 32));have HTK := κ (Loc.new (HC.alloc (.cells #[.int .i64 (ak ts st).1, .int .i64 (ak ts st).2] 109)) #[.int .i64 t.kind, str t.text, .slice a t.path.length cap, .int .i64 t.line, .int .i64 t.col] 32);rw [show (w2.alloc (.cells #[.int .i64 (ak ts st).1, .int .i64 (ak ts st).2] 109)).heap.size = w2.heap.size + 1 from by simp] at HTK;replace HC := κ ((HC.alloc (.cells #[.int .i64 (ak ts st).1, .int .i64 (ak ts st).2] 109)).alloc (.cells #[.int .i64 t.kind, str t.text, .slice a t.path.length cap, .int .i64 t.line, .int .i64 t.col] 32));go_wp2_with fail;refine (pU t _ w0 HP).mono ?_;rintro e w3 ⟨rfl, hb3⟩;replace HC := κ (HC.below hb3);replace HS := κ (HS.below hb3);replace HTK := κ (HTK.below hb3);have HB3 := κ hb3;clear hb3;clear HB3;cases hk : (bZ t != 0)
 · replace HR := HR.out;simp only [hk, ξh, ↓reduceIte] at HR;replace HR := κ HR;replace HR := κ (aK (g := bM ts 0) HR);go_wp2_with fail;refine (lD HT HC.p 0 (by omega)).mono ?_;rintro e w4 ⟨rfl, hb4⟩;replace HC := κ (HC.below hb4);replace HS := κ (HS.below hb4);replace HTK := κ (HTK.below hb4);have HB4 := κ hb4;clear hb4;clear HB4;obtain ⟨p, hp⟩ : ∃ p, bM ts 0 st = p := ⟨_, rfl⟩;rw [hp] at HR ⊢;clear hp;by_cases h0 : 0 < p.2
   · replace HR := HR.out;simp only [h0, ξh, ↓reduceIte] at HR;replace HR := κ HR;have h1 : (0 : Int) < (p.2 : Int) := by omega
     have s0 := HS.cell 0 _ rfl;have s1 := HS.cell 1 _ rfl;have s2 := fun x => (HS.setb HC (i := 1) x).cell 0 _ rfl;have s3 := fun x => (HS.setb HC (i := 1) x).cell 1 _ rfl;have t0 := HTK.cell 0 _ rfl;have t1 := HTK.cell 1 _ rfl;have t2 := HTK.cell 2 _ rfl;have t5 := fun x => (HTK.setb HC (i := 1) x).cell 1 _ rfl;obtain ⟨nv_, dv_, -, c1_, -, -, -, -, hf_⟩ := HC.p.reads;have hf1_ := hf_ 1;have hpos_ := HC.p.pos;have hlen_ := HT.len;clear hf_;have hn_ : p.2 ≤ 4398046511104 := qZ HR HNE HT.len;go_wp2_with fail;clear s0 s1 s2 s3;clear t0 t1 t2 t5;clear c1_ hf1_ hpos_ hlen_;have hk_ := HC.skip (p.2) HR HNE;clear HC HR;have HC := κ hk_.1;have HR := κ hk_.2;clear hk_;refine (bK HC.p (ak ts st) 10 p.1 [] (Ints.nil _) (Im.nil _ _) (by simp) (HR.out ▸ HNE.out)).mono (HC.ls HR.out ?_);rintro x9 v9 w9 U9 rfl HFIN;go_wp2_with fail;go_ret;exact HFIN
   · replace HR := HR.out;simp only [h0, ξh, ↓reduceIte] at HR;replace HR := κ HR;have h1 : ¬ (0 : Int) < (p.2 : Int) := by omega
     go_upto_region 10 with fail;clear h1 h0;go_cut [56] (fun v wx => v = .bool (t.kind == 2 && !t.path.isEmpty) ∧ wx = w4)
     case first =>
      clear HS HR;have t0 := HTK.cell 0 _ rfl;have t2 := HTK.cell 2 _ rfl;exact Q7
     case rest =>
      obtain ⟨rfl, rfl⟩ := hcut;obtain ⟨Q, hQ⟩ : ∃ Q, (t.kind == 2 && !t.path.isEmpty) = Q := ⟨_, rfl⟩;rw [hQ] at HR ⊢;clear HTK hQ;cases Q;rotate_left
      · replace HR := HR.out;simp only [ξh, ↓reduceIte] at HR;replace HR := κ HR;go_wp2_with fail;refine (kK HT 10 HC.p (HR.out ▸ HNE.out)).mono (HC.ls HR.out ?_);rintro x9 v9 w9 U9 rfl HFIN;go_wp2_with fail;go_ret;exact HFIN
      replace HR := HR.out;simp only [ξh, ↓reduceIte] at HR;replace HR := κ HR;go_wp2_with fail;refine (aI HT HC.p [111, 112]).mono (HC.cl HR ?_);rintro x1 st1 v1 w1 U1 rfl HF1 HC HR;replace HS := κ (HS.step HF1);clear HF1;cases x1;rotate_left
      · replace HR := HR.out;simp only [ξh, ↓reduceIte] at HR;replace HR := κ HR;exact NQ
      replace HR := HR.out;simp only [ξh, ↓reduceIte] at HR;replace HR := κ HR;obtain ⟨wn, hwn⟩ : ∃ wn, w1 = wn := ⟨_, rfl⟩;rw [hwn] at HC HS ⊢;clear hwn w1;obtain ⟨sn, hsn⟩ : ∃ sn, st1 = sn := ⟨_, rfl⟩;rw [hsn] at HC HR;clear hsn st1;go_wp2_with fail;refine (aI HT HC.p [35]).mono (HC.cl HR ?_);rintro x1 st1 v1 w1 U1 rfl HF1 HC HR;replace HS := κ (HS.step HF1);clear HF1;cases x1;rotate_left
      · replace HR := HR.out;simp only [ξh, ↓reduceIte] at HR;replace HR := κ HR;go_wp2_with fail;have s0 := HS.cell 0 _ rfl;have s1 := HS.cell 1 _ rfl;refine ψn (S := (fun W => W.cell? ⟨w2.heap.size, 0, none⟩ = some (.int .i64 (ak ts st).1) ∧ W.cell? ⟨w2.heap.size, 1, none⟩ = some (.int .i64 (ak ts st).2))) (by kernel_rfl) (by exact ⟨s0, s1⟩) (fun hH0 => ?_);refine tk 0 hH0 ?_;refine tk 1 hH0 ?_;refine tk 2 hH0 ?_;(try simp only [z0, zz])
        refine rk 3 fun K hK => ?_;(try simp only [zz])
        go_simp;refine (kC HT HC.p.drew (aC HR HNE)).mono (HC.drew.cl HR ?_);rintro x5 st5 v5 w5 U5 rfl HF5 HC HR;replace HS := κ (HS.drew.step HF5);go_wp2_with fail;refine hK _ _ (by exact ⟨HS.cell 0 _ rfl, HS.cell 1 _ rfl⟩) fun hH1 => ?_;clear hK K hH0;(try simp only [z0, zz])
        refine rk 4 fun K hK => ?_;(try simp only [zz])
        go_simp;replace HR := κ (aQ HR);refine (bK HC.p (ak ts st) 12 x5 [] (Ints.nil _) (Im.nil _ _) (by simp) (aC HR.out HNE.out)).mono (HC.cl HR.out ?_);rintro x6 st6 v6 w6 U6 rfl HF6 HC HR;replace HS := κ (HS.step HF6);go_wp2_with fail;refine hK _ _ (by exact ⟨HS.cell 0 _ rfl, HS.cell 1 _ rfl⟩) fun hH2 => ?_;clear hK K hH1;(try simp only [z0, zz])
        refine tk 5 hH2 ?_;(try simp only [z0, zz])
        refine ψk (by kernel_rfl) ?_ _;go_wp2_with fail;go_ret;exact aG.good HR rfl rfl HC.p HC.f
      replace HR := HR.out;simp only [ξh, ↓reduceIte] at HR;replace HR := κ HR;obtain ⟨wn, hwn⟩ : ∃ wn, w1 = wn := ⟨_, rfl⟩;rw [hwn] at HC HS ⊢;clear hwn w1;obtain ⟨sn, hsn⟩ : ∃ sn, st1 = sn := ⟨_, rfl⟩;rw [hsn] at HC HR;clear hsn st1;go_wp2_with fail;refine (aI HT HC.p [123]).mono (HC.cl HR ?_);rintro x1 st1 v1 w1 U1 rfl HF1 HC HR;replace HS := κ (HS.step HF1);clear HF1;cases x1;rotate_left
      · replace HR := HR.out;simp only [ξh, ↓reduceIte] at HR;replace HR := κ HR;go_wp2_with fail;have s0 := HS.cell 0 _ rfl;have s1 := HS.cell 1 _ rfl;have HSZ2 := κ HC.size;refine ψn (S := (fun W => W.cell? ⟨w2.heap.size, 0, none⟩ = some (.int .i64 (ak ts st).1) ∧ W.cell? ⟨w2.heap.size, 1, none⟩ = some (.int .i64 (ak ts st).2))) (by kernel_rfl) (by exact ⟨s0, s1⟩) (fun hH0 => ?_);refine tk 0 hH0 ?_;refine tk 1 hH0 ?_;refine tk 2 hH0 ?_;refine tk 3 hH0 ?_;refine tk 4 hH0 ?_;(try simp only [z0, zz])
        refine rk 5 fun K hK => ?_;(try simp only [zz])
        go_simp;refine (uZ HT [61] 134 L.exp (fun _ _ => rfl) (fun _ _ _ _ hp hne => HLow.exp hp hne) HC.p.drew (aC HR HNE)).mono (HC.drew.cl HR ?_);rintro x5 st5 v5 w5 U5 hv5 HF5 HC HR;replace HS := κ (HS.drew.step HF5);go_wp2_with fail;refine hK _ _ (by exact ⟨HS.cell 0 _ rfl, HS.cell 1 _ rfl⟩) fun hH1 => ?_;clear hK K hH0;(try simp only [z0, zz])
        refine rk 6 fun K hK => ?_;(try simp only [zz])
        go_simp;obtain ⟨hl5, hll5⟩ := hv5;replace HS := κ (HS.giveL (r := 4) hl5 (by decide));replace HR := κ (aQ HR);have hl := HC.own (hl5.low HSZ2);refine (aS hl.1.p (ak ts st) 11 [] x5 _ hl.2.1 hl.2.2 (by omega) (aC HR HNE)).mono (hl.1.cl HR ?_);exact Q6
      replace HR := HR.out;simp only [ξh, ↓reduceIte] at HR;replace HR := κ HR;obtain ⟨wn, hwn⟩ : ∃ wn, w1 = wn := ⟨_, rfl⟩;rw [hwn] at HC HS ⊢;clear hwn w1;obtain ⟨sn, hsn⟩ : ∃ sn, st1 = sn := ⟨_, rfl⟩;rw [hsn] at HC HR;clear hsn st1;go_wp2_with fail;refine (aI HT HC.p [40]).mono (HC.cl HR ?_);rintro x1 st1 v1 w1 U1 rfl HF1 HC HR;replace HS := κ (HS.step HF1);clear HF1;cases x1;rotate_left
      · replace HR := HR.out;simp only [ξh, ↓reduceIte] at HR;replace HR := κ HR;have s0 := HS.cell 0 _ rfl;have s1 := HS.cell 1 _ rfl;go_wp2_with fail;clear s0 s1;refine (Ez HT HLow (ak ts st) HC.p (HR.out ▸ HNE.out)).mono (HC.ls HR.out ?_);rintro x9 v9 w9 U9 rfl HFIN;go_wp2_with fail;go_ret;exact HFIN
      replace HR := HR.out;simp only [ξh, ↓reduceIte] at HR;replace HR := κ HR;obtain ⟨wn, hwn⟩ : ∃ wn, w1 = wn := ⟨_, rfl⟩;rw [hwn] at HC HS ⊢;clear hwn w1;obtain ⟨sn, hsn⟩ : ∃ sn, st1 = sn := ⟨_, rfl⟩;rw [hsn] at HC HR;clear hsn st1;go_wp2_with fail;refine (aI HT HC.p [91]).mono (HC.cl HR ?_);rintro x1 st1 v1 w1 U1 rfl HF1 HC HR;replace HS := κ (HS.step HF1);clear HF1;cases x1;rotate_left
      · replace HR := HR.out;simp only [ξh, ↓reduceIte] at HR;replace HR := κ HR;go_wp2_with fail;have s0 := HS.cell 0 _ rfl;have s1 := HS.cell 1 _ rfl;have HSZ2 := κ HC.size;refine ψn (S := (fun W => W.cell? ⟨w2.heap.size, 0, none⟩ = some (.int .i64 (ak ts st).1) ∧ W.cell? ⟨w2.heap.size, 1, none⟩ = some (.int .i64 (ak ts st).2))) (by kernel_rfl) (by exact ⟨s0, s1⟩) (fun hH0 => ?_);refine tk 0 hH0 ?_;refine tk 1 hH0 ?_;refine tk 2 hH0 ?_;refine tk 3 hH0 ?_;refine tk 4 hH0 ?_;(try simp only [z0, zz])
        refine rk 5 fun K hK => ?_;(try simp only [zz])
        go_simp;refine (wC HT [93] 134 L.exp (fun _ _ => rfl) (fun _ _ _ _ hp hne => HLow.exp hp hne) HC.p.drew (aC HR HNE)).mono (HC.drew.cl HR ?_);rintro x5 st5 v5 w5 U5 hv5 HF5 HC HR;replace HS := κ (HS.drew.step HF5);go_wp2_with fail;refine hK _ _ (by exact ⟨HS.cell 0 _ rfl, HS.cell 1 _ rfl⟩) fun hH1 => ?_;clear hK K hH0;(try simp only [z0, zz])
        refine rk 6 fun K hK => ?_;(try simp only [zz])
        go_simp;obtain ⟨hl5, hll5⟩ := hv5;replace HS := κ (HS.giveL (r := 4) hl5 (by decide));replace HR := κ (aQ HR);have hl := HC.own (hl5.low HSZ2);refine (aS hl.1.p (ak ts st) 14 [] x5 _ hl.2.1 hl.2.2 (by omega) (aC HR HNE)).mono (hl.1.cl HR ?_);exact Q6
      replace HR := HR.out;simp only [ξh, ↓reduceIte] at HR;replace HR := κ HR;obtain ⟨wn, hwn⟩ : ∃ wn, w1 = wn := ⟨_, rfl⟩;rw [hwn] at HC HS ⊢;clear hwn w1;obtain ⟨sn, hsn⟩ : ∃ sn, st1 = sn := ⟨_, rfl⟩;rw [hsn] at HC HR;clear hsn st1;go_wp2_with fail;refine (aI HT HC.p [108, 101, 116]).mono (HC.cl HR ?_);rintro x1 st1 v1 w1 U1 rfl HF1 HC HR;replace HS := κ (HS.step HF1);clear HF1;cases x1;rotate_left
      · replace HR := HR.out;simp only [ξh, ↓reduceIte] at HR;replace HR := κ HR;have s0 := HS.cell 0 _ rfl;have s1 := HS.cell 1 _ rfl;go_wp2_with fail;clear s0 s1;refine (J6 HT HLow (ak ts st) HC.p (HR.out ▸ HNE.out)).mono (HC.ls HR.out ?_);rintro x9 v9 w9 U9 rfl HFIN;go_wp2_with fail;go_ret;exact HFIN
      replace HR := HR.out;simp only [ξh, ↓reduceIte] at HR;replace HR := κ HR;obtain ⟨wn, hwn⟩ : ∃ wn, w1 = wn := ⟨_, rfl⟩;rw [hwn] at HC HS ⊢;clear hwn w1;obtain ⟨sn, hsn⟩ : ∃ sn, st1 = sn := ⟨_, rfl⟩;rw [hsn] at HC HR;clear hsn st1;exact NQ
 · replace HR := HR.out;simp only [hk, ξh, ↓reduceIte] at HR;exact RL
theorem jA (HT : Tks w0 tv ts) (HLow : bW w0 tv ts b L) (hp : TSt w0 tv ts b qs w U st) (hne : dD ts L st ≠ .error .out) :
 Calls Tryz.prog 180 #[bL b] w (aG w0 tv ts b qs idR (dD ts L st) w U) := by
 obtain ⟨R, hR⟩ : ∃ R, dD ts L st = R := ⟨_, rfl⟩;rw [hR] at hne ⊢;have HNE := κ hne;unfold dD at hR;have HR := κ hR.symm;have HC := κ (Cur.start hp);clear hR hne hp;go_enter Tryz.func180, Tryz.ntmps180;go_wp2_with fail;replace HR := κ (aK (g := ak ts) HR);refine (aY HT HC.p).mono ?_;rintro e w1 ⟨rfl, hb1⟩;replace HC := κ (HC.below hb1);have HB1 := κ hb1;clear hb1;clear HB1;unfold dc;go_wp2_with fail;replace HR := κ (aK (g := aB ts 0) HR);refine (aU HT HC.p 0 (by omega)).mono ?_;rintro e w2 ⟨⟨pv, rfl, hs⟩, hb2⟩;have hc2 := HC.below hb2;clear HC hb2;have HC := κ hc2;clear hc2;obtain ⟨t, ht⟩ : ∃ t, aB ts 0 st = t := ⟨_, rfl⟩;rw [ht] at hs ⊢;(try rw [ht] at HR)
 have HTS := κ (ht ▸ bC HT 0 st);have HTT := κ ht;clear ht;have HP := κ hs;obtain ⟨a, cap, rfl, -⟩ := hs;unfold tkV;have HSZ := κ HC.size;have HS := κ ((Loc.new HC #[.int .i64 (ak ts st).1, .int .i64 (ak ts st).2] 109).alloc (.cells #[.int .i64 t.kind, str t.text, .slice a t.path.length cap, .int .i64 t.line, .int .i64 t.col] 32));have HTK := κ (Loc.new (HC.alloc (.cells #[.int .i64 (ak ts st).1, .int .i64 (ak ts st).2] 109)) #[.int .i64 t.kind, str t.text, .slice a t.path.length cap, .int .i64 t.line, .int .i64 t.col] 32);rw [show (w2.alloc (.cells #[.int .i64 (ak ts st).1, .int .i64 (ak ts st).2] 109)).heap.size = w2.heap.size + 1 from by simp] at HTK;replace HC := κ ((HC.alloc (.cells #[.int .i64 (ak ts st).1, .int .i64 (ak ts st).2] 109)).alloc (.cells #[.int .i64 t.kind, str t.text, .slice a t.path.length cap, .int .i64 t.line, .int .i64 t.col] 32));go_wp2_with fail;refine (pU t _ w0 HP).mono ?_;rintro e w3 ⟨rfl, hb3⟩;replace HC := κ (HC.below hb3);replace HS := κ (HS.below hb3);replace HTK := κ (HTK.below hb3);have HB3 := κ hb3;clear hb3;clear HB3;obtain ⟨Z, hZ⟩ : ∃ Z, (bZ t != 0 && bZ t != 2) = Z := ⟨_, rfl⟩;rw [hZ] at HR;obtain ⟨wq, hwq⟩ : ∃ wq, w3 = wq := ⟨_, rfl⟩;rw [hwq] at HC HS HTK ⊢;clear hwq w3;go_upto_region 3 with fail;go_cut [20] (fun v wx => v = .bool Z ∧ wx = wq)
 case first =>
  clear HS HTK HR;cases hk : (bZ t != 0)
  · rw [hk, Bool.false_and] at hZ;subst hZ;go_wp2_with fail;go_meet
    exact ⟨rfl, rfl⟩
  · rw [hk, Bool.true_and] at hZ;cases hq : (bZ t != 2)
    · rw [hq] at hZ;subst hZ;go_wp2_with fail;go_meet
      exact ⟨rfl, rfl⟩
    · rw [hq] at hZ;subst hZ;go_wp2_with fail;go_meet
      exact ⟨rfl, rfl⟩
 case rest =>
  obtain ⟨rfl, rfl⟩ := hcut;clear hZ;cases Z
  · replace HR := HR.out;simp only [ξh, ↓reduceIte] at HR;replace HR := κ HR;replace HR := κ (aK (g := bM ts 0) HR);go_wp2_with fail;refine (lD HT HC.p 0 (by omega)).mono ?_;rintro e w4 ⟨rfl, hb4⟩;replace HC := κ (HC.below hb4);replace HS := κ (HS.below hb4);replace HTK := κ (HTK.below hb4);have HB4 := κ hb4;clear hb4;clear HB4;obtain ⟨p, hp⟩ : ∃ p, bM ts 0 st = p := ⟨_, rfl⟩;rw [hp] at HR ⊢;clear hp;by_cases h0 : 0 < p.2
    · replace HR := HR.out;simp only [h0, ξh, ↓reduceIte] at HR;replace HR := κ HR;have h1 : (0 : Int) < (p.2 : Int) := by omega
      have s0 := HS.cell 0 _ rfl;have s1 := HS.cell 1 _ rfl;have s2 := fun x => (HS.setb HC (i := 1) x).cell 0 _ rfl;have s3 := fun x => (HS.setb HC (i := 1) x).cell 1 _ rfl;have t0 := HTK.cell 0 _ rfl;have t1 := HTK.cell 1 _ rfl;have t2 := HTK.cell 2 _ rfl;have t5 := fun x => (HTK.setb HC (i := 1) x).cell 1 _ rfl;obtain ⟨nv_, dv_, -, c1_, -, -, -, -, hf_⟩ := HC.p.reads;have hf1_ := hf_ 1;have hpos_ := HC.p.pos;have hlen_ := HT.len;clear hf_;have hn_ : p.2 ≤ 4398046511104 := qZ HR HNE HT.len;go_wp2_with fail;clear s0 s1 s2 s3;clear t0 t1 t2 t5;clear c1_ hf1_ hpos_ hlen_;have hk_ := HC.skip (p.2) HR HNE;clear HC HR;have HC := κ hk_.1;have HR := κ hk_.2;clear hk_;refine (bK HC.p (ak ts st) 31 p.1 [] (Ints.nil _) (Im.nil _ _) (by simp) (HR.out ▸ HNE.out)).mono (HC.ls HR.out ?_);rintro x9 v9 w9 U9 rfl HFIN;go_wp2_with fail;go_ret;exact HFIN
    · replace HR := HR.out;simp only [h0, ξh, ↓reduceIte] at HR;replace HR := κ HR;have h1 : ¬ (0 : Int) < (p.2 : Int) := by omega
      go_upto_region 10 with fail;clear h1 h0;go_cut [61] (fun v wx => v = .bool (t.kind == 2 && !t.path.isEmpty) ∧ wx = w4)
      case first =>
       clear HS HR;have t0 := HTK.cell 0 _ rfl;have t2 := HTK.cell 2 _ rfl;exact Q7
      case rest =>
       obtain ⟨rfl, rfl⟩ := hcut;obtain ⟨Q, hQ⟩ : ∃ Q, (t.kind == 2 && !t.path.isEmpty) = Q := ⟨_, rfl⟩;rw [hQ] at HR ⊢;clear HTK hQ;cases Q;rotate_left
       · replace HR := HR.out;simp only [ξh, ↓reduceIte] at HR;replace HR := κ HR;go_wp2_with fail;refine (kK HT 31 HC.p (HR.out ▸ HNE.out)).mono (HC.ls HR.out ?_);rintro x9 v9 w9 U9 rfl HFIN;go_wp2_with fail;go_ret;exact HFIN
       replace HR := HR.out;simp only [ξh, ↓reduceIte] at HR;replace HR := κ HR;go_wp2_with fail;refine (aI HT HC.p [111, 112]).mono (HC.cl HR ?_);rintro x1 st1 v1 w1 U1 rfl HF1 HC HR;replace HS := κ (HS.step HF1);clear HF1;cases x1;rotate_left
       · replace HR := HR.out;simp only [ξh, ↓reduceIte] at HR;replace HR := κ HR;exact NQ
       replace HR := HR.out;simp only [ξh, ↓reduceIte] at HR;replace HR := κ HR;obtain ⟨wn, hwn⟩ : ∃ wn, w1 = wn := ⟨_, rfl⟩;rw [hwn] at HC HS ⊢;clear hwn w1;obtain ⟨sn, hsn⟩ : ∃ sn, st1 = sn := ⟨_, rfl⟩;rw [hsn] at HC HR;clear hsn st1;go_wp2_with fail;refine (aI HT HC.p [95]).mono (HC.cl HR ?_);rintro x1 st1 v1 w1 U1 rfl HF1 HC HR;replace HS := κ (HS.step HF1);clear HF1;cases x1;rotate_left
       · replace HR := HR.out;simp only [ξh, ↓reduceIte] at HR;replace HR := κ HR;have s0 := HS.cell 0 _ rfl;have s1 := HS.cell 1 _ rfl;go_wp2_with fail;clear s0 s1;refine (bK HC.p (ak ts st) 30 [] [] (Ints.nil _) (Im.nil _ _) (by simp) (HR.out ▸ HNE.out)).mono (HC.ls HR.out ?_);rintro x9 v9 w9 U9 rfl HFIN;go_wp2_with fail;go_ret;exact HFIN
       replace HR := HR.out;simp only [ξh, ↓reduceIte] at HR;replace HR := κ HR;obtain ⟨wn, hwn⟩ : ∃ wn, w1 = wn := ⟨_, rfl⟩;rw [hwn] at HC HS ⊢;clear hwn w1;obtain ⟨sn, hsn⟩ : ∃ sn, st1 = sn := ⟨_, rfl⟩;rw [hsn] at HC HR;clear hsn st1;go_wp2_with fail;refine (aI HT HC.p [40]).mono (HC.cl HR ?_);rintro x1 st1 v1 w1 U1 rfl HF1 HC HR;replace HS := κ (HS.step HF1);clear HF1;cases x1;rotate_left
       · replace HR := HR.out;simp only [ξh, ↓reduceIte] at HR;replace HR := κ HR;have HSZP := κ HC.size;go_wp2_with fail;refine (wC HT [41] 132 L.pat (fun _ _ => rfl) (fun _ _ _ _ hp hne => HLow.pat hp hne) HC.p (aC HR HNE)).mono (HC.cl HR ?_);rintro x5 st5 v5 w5 U5 hv5 HF5 HC HR;replace HS := κ (HS.step HF5);obtain ⟨hlr, hll⟩ := hv5;have HL := κ hlr;have HLL := κ hll;clear hlr hll;by_cases h1 : x5.length = 1
         · have hr_ : R = (pure (x5.getD 0 0) : M Nat) st5 := by rw [HR.out]; simp [h1]
           clear HR;have HR := κ hr_;clear hr_;obtain ⟨i0, rfl⟩ : ∃ i0, x5 = [i0] := List.length_eq_one_iff.1 h1;obtain ⟨ka, kcap, rfl, kc⟩ := dP HL.ints;obtain ⟨kb, ko, rfl, kc0⟩ := kc 0 i0 rfl;have kc1 : w5.cell? ⟨kb, ko, none⟩ = some (.int .i64 i0) := kc0;go_wp2_with fail;go_ret;exact aG.good HR rfl rfl HC.p HC.f
         · have hr_ : R = aV (ak ts st) 33 [] x5 st5 := by rw [HR.out]; simp [h1]
           clear HR;have HR := κ hr_;clear hr_;obtain ⟨ka, kcap, rfl, -⟩ := dP HL.ints;rw [ξ4] at HL ⊢;have h1i : ((x5.length : Int) == 1) = false := by rw [ξY]; omega
           have s0 := HS.cell 0 _ rfl;have s1 := HS.cell 1 _ rfl;go_wp2_with fail;clear s0 s1 h1i;have hl := HC.own (HL.low HSZP);have hll := HLL.out;refine (bK hl.1.p (ak ts st) 33 [] x5 hl.2.1 hl.2.2 (by omega) (HR.out ▸ HNE.out)).mono (hl.1.ls HR.out ?_);rintro x9 v9 w9 U9 rfl HFIN;go_wp2_with fail;go_ret;exact HFIN
       replace HR := HR.out;simp only [ξh, ↓reduceIte] at HR;replace HR := κ HR;obtain ⟨wn, hwn⟩ : ∃ wn, w1 = wn := ⟨_, rfl⟩;rw [hwn] at HC HS ⊢;clear hwn w1;obtain ⟨sn, hsn⟩ : ∃ sn, st1 = sn := ⟨_, rfl⟩;rw [hsn] at HC HR;clear hsn st1;go_wp2_with fail;refine (aI HT HC.p [91]).mono (HC.cl HR ?_);rintro x1 st1 v1 w1 U1 rfl HF1 HC HR;replace HS := κ (HS.step HF1);clear HF1;cases x1;rotate_left
       · replace HR := HR.out;simp only [ξh, ↓reduceIte] at HR;replace HR := κ HR;go_wp2_with fail;have s0 := HS.cell 0 _ rfl;have s1 := HS.cell 1 _ rfl;have HSZ2 := κ HC.size;refine ψn (S := (fun W => W.cell? ⟨w2.heap.size, 0, none⟩ = some (.int .i64 (ak ts st).1) ∧ W.cell? ⟨w2.heap.size, 1, none⟩ = some (.int .i64 (ak ts st).2))) (by kernel_rfl) (by exact ⟨s0, s1⟩) (fun hH0 => ?_);refine tk 0 hH0 ?_;refine tk 1 hH0 ?_;refine tk 2 hH0 ?_;refine tk 3 hH0 ?_;refine tk 4 hH0 ?_;(try simp only [z0, zz])
         refine rk 5 fun K hK => ?_;(try simp only [zz])
         go_simp;refine (wC HT [93] 132 L.pat (fun _ _ => rfl) (fun _ _ _ _ hp hne => HLow.pat hp hne) HC.p.drew (aC HR HNE)).mono (HC.drew.cl HR ?_);rintro x5 st5 v5 w5 U5 hv5 HF5 HC HR;replace HS := κ (HS.drew.step HF5);go_wp2_with fail;refine hK _ _ (by exact ⟨HS.cell 0 _ rfl, HS.cell 1 _ rfl⟩) fun hH1 => ?_;clear hK K hH0;(try simp only [z0, zz])
         refine rk 6 fun K hK => ?_;(try simp only [zz])
         go_simp;obtain ⟨hl5, hll5⟩ := hv5;replace HS := κ (HS.giveL (r := 4) hl5 (by decide));replace HR := κ (aQ HR);have hl := HC.own (hl5.low HSZ2);refine (aS hl.1.p (ak ts st) 36 [] x5 _ hl.2.1 hl.2.2 (by omega) (aC HR HNE)).mono (hl.1.cl HR ?_);exact Q6
       replace HR := HR.out;simp only [ξh, ↓reduceIte] at HR;replace HR := κ HR;obtain ⟨wn, hwn⟩ : ∃ wn, w1 = wn := ⟨_, rfl⟩;rw [hwn] at HC HS ⊢;clear hwn w1;obtain ⟨sn, hsn⟩ : ∃ sn, st1 = sn := ⟨_, rfl⟩;rw [hsn] at HC HR;clear hsn st1;go_wp2_with fail;refine (aI HT HC.p [123]).mono (HC.cl HR ?_);rintro x1 st1 v1 w1 U1 rfl HF1 HC HR;replace HS := κ (HS.step HF1);clear HF1;cases x1;rotate_left
       · replace HR := HR.out;simp only [ξh, ↓reduceIte] at HR;replace HR := κ HR;go_wp2_with fail;have s0 := HS.cell 0 _ rfl;have s1 := HS.cell 1 _ rfl;have HSZ2 := κ HC.size;refine ψn (S := (fun W => W.cell? ⟨w2.heap.size, 0, none⟩ = some (.int .i64 (ak ts st).1) ∧ W.cell? ⟨w2.heap.size, 1, none⟩ = some (.int .i64 (ak ts st).2))) (by kernel_rfl) (by exact ⟨s0, s1⟩) (fun hH0 => ?_);refine tk 0 hH0 ?_;refine tk 1 hH0 ?_;refine tk 2 hH0 ?_;(try simp only [z0, zz])
         refine rk 3 fun K hK => ?_;(try simp only [zz])
         go_simp;refine (vY HT HLow HC.p.drew (aC HR HNE)).mono (HC.drew.cl HR ?_);rintro x5 st5 v5 w5 U5 hv5 HF5 HC HR;replace HS := κ (HS.drew.step HF5);go_wp2_with fail;refine hK _ _ (by exact ⟨HS.cell 0 _ rfl, HS.cell 1 _ rfl⟩) fun hH1 => ?_;clear hK K hH0;(try simp only [z0, zz])
         refine rk 4 fun K hK => ?_;(try simp only [zz])
         go_simp;obtain ⟨hl5, hll5⟩ := hv5;replace HS := κ (HS.giveL (r := 4) hl5 (by decide));replace HR := κ (aQ HR);have hl := HC.own (hl5.low HSZ2);refine (aS hl.1.p (ak ts st) 34 [] x5 _ hl.2.1 hl.2.2 (by omega) (aC HR HNE)).mono (hl.1.cl HR ?_);rintro x6 st6 v6 w6 U6 rfl HF6 HC HR;replace HS := κ (HS.step HF6);clear hl;go_wp2_with fail;refine hK _ _ (by exact ⟨HS.cell 0 _ rfl, HS.cell 1 _ rfl⟩) fun hH2 => ?_;clear hK K hH1;(try simp only [z0, zz])
         refine tk 5 hH2 ?_;(try simp only [z0, zz])
         refine ψk (by kernel_rfl) ?_ _;go_wp2_with fail;go_ret;exact aG.good HR rfl rfl HC.p HC.f
       replace HR := HR.out;simp only [ξh, ↓reduceIte] at HR;replace HR := κ HR;obtain ⟨wn, hwn⟩ : ∃ wn, w1 = wn := ⟨_, rfl⟩;rw [hwn] at HC HS ⊢;clear hwn w1;obtain ⟨sn, hsn⟩ : ∃ sn, st1 = sn := ⟨_, rfl⟩;rw [hsn] at HC HR;clear hsn st1;exact NQ
  · replace HR := HR.out;simp only [ξh, ↓reduceIte] at HR;exact RL
theorem Dj (HT : Tks w0 tv ts) (HLow : bW w0 tv ts b L) (hp : TSt w0 tv ts b qs w U st) (hne : eC ts L st ≠ .error .out) :
 Calls Tryz.prog 212 #[bL b] w (aG w0 tv ts b qs idR (eC ts L st) w U) := by
 obtain ⟨R, hR⟩ : ∃ R, eC ts L st = R := ⟨_, rfl⟩;rw [hR] at hne ⊢;have HNE := κ hne;unfold eC at hR;have HR := κ hR.symm;have HC := κ (Cur.start hp);clear hR hne hp;go_enter Tryz.func212, Tryz.ntmps212;go_wp2_with fail;replace HR := κ (aK (g := ak ts) HR);refine (aY HT HC.p).mono ?_;rintro e w1 ⟨rfl, hb1⟩;replace HC := κ (HC.below hb1);have HB1 := κ hb1;clear hb1;unfold dc;go_wp2_with fail;replace HR := κ (aK (g := aB ts 0) HR);refine (aU HT HC.p 0 (by omega)).mono ?_;rintro e w2 ⟨⟨pv, rfl, hs⟩, hb2⟩;have hc2 := HC.below hb2;clear HC hb2;have HC := κ hc2;clear hc2;obtain ⟨t, ht⟩ : ∃ t, aB ts 0 st = t := ⟨_, rfl⟩;rw [ht] at hs ⊢;(try rw [ht] at HR)
 have HTS := κ (ht ▸ bC HT 0 st);have HTT := κ ht;clear ht;have HP := κ hs;obtain ⟨a, cap, rfl, -⟩ := hs;unfold tkV;have HSZ := κ HC.size;have HS := κ ((Loc.new HC #[.int .i64 (ak ts st).1, .int .i64 (ak ts st).2] 109).alloc (.cells #[.int .i64 t.kind, str t.text, .slice a t.path.length cap, .int .i64 t.line, .int .i64 t.col] 32));have HTK := κ (Loc.new (HC.alloc (.cells #[.int .i64 (ak ts st).1, .int .i64 (ak ts st).2] 109)) #[.int .i64 t.kind, str t.text, .slice a t.path.length cap, .int .i64 t.line, .int .i64 t.col] 32);rw [show (w2.alloc (.cells #[.int .i64 (ak ts st).1, .int .i64 (ak ts st).2] 109)).heap.size = w2.heap.size + 1 from by simp] at HTK;replace HC := κ ((HC.alloc (.cells #[.int .i64 (ak ts st).1, .int .i64 (ak ts st).2] 109)).alloc (.cells #[.int .i64 t.kind, str t.text, .slice a t.path.length cap, .int .i64 t.line, .int .i64 t.col] 32));go_wp2_with fail;replace HR := κ (aK (g := bM ts 0) HR);refine (lD HT HC.p 0 (by omega)).mono ?_;rintro e w4 ⟨rfl, hb4⟩;replace HC := κ (HC.below hb4);replace HS := κ (HS.below hb4);replace HTK := κ (HTK.below hb4);have HB4 := κ hb4;clear hb4;obtain ⟨p, hp⟩ : ∃ p, bM ts 0 st = p := ⟨_, rfl⟩;rw [hp] at HR ⊢;clear hp;obtain ⟨n, hn⟩ : ∃ n, p.2 = n := ⟨_, rfl⟩;rw [hn] at HR ⊢;clear hn;obtain ⟨Z, hZ⟩ : ∃ Z, (n == 0 && !(t.kind == 2 && !t.path.isEmpty)) = Z := ⟨_, rfl⟩;rw [hZ] at HR;go_upto_region 3 with fail;go_cut [29] (fun v wx => v = .bool (n == 0 && (t.kind == 2 && !t.path.isEmpty)) ∧ wx = w4)
 case first =>
  clear HS HR hZ;have t0 := HTK.cell 0 _ rfl;have t2 := HTK.cell 2 _ rfl;cases n with
  | succ m =>
   have b0 : ((m : Int) + 1 == 0) = false := by rw [ξY]; omega
   go_wp2_with fail;go_meet
   exact ⟨by simp, rfl⟩
  | zero =>
   exact Q7
 case rest =>
  obtain ⟨rfl, rfl⟩ := hcut;obtain ⟨Q, hQ⟩ : ∃ Q, (t.kind == 2 && !t.path.isEmpty) = Q := ⟨_, rfl⟩;rw [hQ] at hZ ⊢;clear hQ HTK;obtain ⟨m, hm, hz⟩ : ∃ m : Nat, (m == 0) = Z ∧ ((n == 0 && Q) = true → m = 1) ∧ ((n == 0 && Q) = false → m = n) := by
   cases hb : (n == 0 && Q)
   · exact ⟨n, by rw [← hZ]; cases Q <;> simp_all, fun e => (by cases e), fun _ => rfl⟩
   · exact ⟨1, by rw [← hZ]; simp only [ξg] at hb; rw [hb.1, hb.2]; rfl, fun _ => rfl, fun e => (by cases e)⟩
  go_upto_if 29 with fail
  go_cut [6] (fun v wx => v = .int .i64 (m : Nat) ∧ wx = wc)
  case first =>
   cases hb : (n == 0 && Q)
   · obtain rfl := hz.2 hb;go_wp2_with fail;go_meet
     exact ⟨rfl, rfl⟩
   · obtain rfl := hz.1 hb;go_wp2_with fail;go_meet
     exact ⟨rfl, rfl⟩
  case rest =>
   obtain ⟨rfl, rfl⟩ := hcut;clear hz hZ;cases m with
   | zero =>
    obtain rfl : true = Z := hm;first | replace HR := κ (spt HR.out) | replace HR := κ (spf HR.out)
    go_wp2_with fail;refine (jA HT HLow HC.p (HR.out ▸ HNE.out)).mono (HC.ls HR.out ?_);rintro x9 v9 w9 U9 rfl HFIN;go_wp2_with fail;go_ret;exact HFIN
   | succ m =>
    obtain rfl : false = Z := hm;have b0 : ((m : Int) + 1 == 0) = false := by rw [ξY]; omega
    first | replace HR := κ (spt HR.out) | replace HR := κ (spf HR.out)
    go_wp2_with fail;clear b0;refine (jA HT HLow HC.p (aC HR HNE)).mono (HC.cl HR ?_);rintro x7 st7 v7 w7 U7 rfl HF7 HC HR;replace HS := κ (HS.step HF7);go_wp2_with fail;replace HR := κ (aK (g := cN ts) HR);refine (rG HT HC.p).mono ?_;rintro e w6 ⟨rfl, hb6⟩;replace HC := κ (HC.below hb6);replace HS := κ (HS.below hb6);have HB6 := κ hb6;clear hb6;obtain ⟨B, hB⟩ : ∃ B, cN ts st7 = B := ⟨_, rfl⟩;rw [hB] at HR ⊢;clear hB;cases B
    · replace HR := HR.out;simp only [Bool.not_false, ξh, ↓reduceIte] at HR;replace HR := κ HR;go_wp2_with fail;go_ret;exact aG.good HR rfl rfl HC.p HC.f
    · replace HR := HR.out;simp only [Bool.not_true, ξh, ↓reduceIte] at HR;replace HR := κ HR;go_wp2_with fail;have s0 := HS.cell 0 _ rfl;have s1 := HS.cell 1 _ rfl;refine ψn (S := (fun W => W.cell? ⟨w2.heap.size, 0, none⟩ = some (.int .i64 (ak ts st).1) ∧ W.cell? ⟨w2.heap.size, 1, none⟩ = some (.int .i64 (ak ts st).2))) (by kernel_rfl) (by exact ⟨s0, s1⟩) (fun hH0 => ?_);refine tk 0 hH0 ?_;refine tk 1 hH0 ?_;refine tk 2 hH0 ?_;refine tk 3 hH0 ?_;(try simp only [z0, zz])
      refine rk 4 fun K hK => ?_;(try simp only [zz])
      go_simp;refine (jA HT HLow HC.p.drew (aC HR HNE)).mono (HC.drew.cl HR ?_);rintro x5 st5 v5 w5 U5 rfl HF5 HC HR;replace HS := κ (HS.drew.step HF5);go_wp2_with fail;refine hK _ _ (by exact ⟨HS.cell 0 _ rfl, HS.cell 1 _ rfl⟩) fun hH1 => ?_;clear hK K hH0;(try simp only [z0, zz])
      refine rk 5 fun K hK => ?_;(try simp only [zz])
      go_simp;refine hK _ _ (by exact ⟨ay (HS.cell 0 _ rfl) _, ay (HS.cell 1 _ rfl) _⟩) fun hH2 => ?_;clear hK K hH1;(try simp only [z0, zz])
      refine rk 6 fun K hK => ?_;(try simp only [zz])
      go_simp;replace HR := κ (aQ HR);have hl := HC.lit [x7, x5] _ rfl (by unfold maxLen; simp);refine (bK hl.1.p (ak ts st) 32 [] [x7, x5] hl.2.1 hl.2.2 (by simp) (aC HR.out HNE.out)).mono (hl.1.cl HR.out ?_);rintro x6 st6 v6 w6 U6 rfl HF6 HC HR;replace HS := κ (HS.lits.step HF6);clear hl;go_wp2_with fail;refine hK _ _ (by exact ⟨HS.cell 0 _ rfl, HS.cell 1 _ rfl⟩) fun hH3 => ?_;clear hK K hH2;(try simp only [z0, zz])
      refine tk 7 hH3 ?_;(try simp only [z0, zz])
      refine ψk (by kernel_rfl) ?_ _;go_wp2_with fail;go_ret;exact aG.good HR rfl rfl HC.p HC.f
def MG (R : Except Flt (Bool × PS)) (st : PS) (l c : Int) (w : World) (e : Ending) (w' : World) : Prop :=
 (∃ x, R = .ok (x, st) ∧ e = .returned (.bool x) ∧ Below w.heap.size w w') ∨ (R = .error (.stop l c 51) ∧ e = zV l c 51 ∧ Below w.heap.size w w')
theorem Q8 {p : Prop} (h : p := by
 clear hR;go_enter Tryz.func257, Tryz.ntmps257;go_wp2_with fail;go_ret;exact .inl ⟨_, HR.out, rfl, by (repeat (first | with_reducible exact ξf _ _ | with_reducible refine bQ ?_ _ | with_reducible refine iK ?_ _ | with_reducible refine jZ ?_ | (with_reducible refine jJ ?_ (by first | exact ξF _ | omega | (simp; done) | (simp; omega)) _) | assumption))⟩
 ) : p := h
theorem RJ {p : Prop} (h : p := by
 have HR := κ (show R = .error (.stop l c 51) by rw [← hR, hl]; rfl);clear hR;go_enter Tryz.func257, Tryz.ntmps257;go_wp2_with fail;refine (nI (l, c) 51 _).mono ?_;rintro e w2 ⟨rfl, hb2⟩;have HB2 := κ hb2; clear hb2;go_wp2_with fail;exact ⟨rfl, .inr ⟨HR.out, rfl, (bQ (bQ (ξf _ w) _) _).trans (HB2.mono (by simp; omega))⟩⟩
 ) : p := h
theorem FW (x y : Link) (w : World) :
 Calls Tryz.prog 257 #[bL b, .agg #[.int .i64 x.fx.level, .bool x.fx.right, .bool x.fx.infx, str x.text, .int .i64 x.at_.1, .int .i64 x.at_.2], .agg #[.int .i64 y.fx.level, .bool y.fx.right, .bool y.fx.infx, str y.text, .int .i64 y.at_.1, .int .i64 y.at_.2]] w (MG (kU x y st) st y.at_.1 y.at_.2 w) := by
 obtain ⟨⟨xl, xr, xi⟩, xt, xa⟩ := x;obtain ⟨⟨yl, yr, yi⟩, yt, l, c⟩ := y;obtain ⟨R, hR⟩ : ∃ R, kU ⟨⟨xl, xr, xi⟩, xt, xa⟩ ⟨⟨yl, yr, yi⟩, yt, (l, c)⟩ st = R := ⟨_, rfl⟩;rw [hR];unfold kU at hR;simp only [] at hR ⊢;cases hl : (xl != yl)
 · cases xr <;> cases yr
   · have HR := κ (show R = .ok (true, st) by rw [← hR, hl]; rfl);exact Q8
   · exact RJ
   · exact RJ
   · have HR := κ (show R = .ok (false, st) by rw [← hR, hl]; rfl);exact Q8
 · have HR := κ (show R = .ok (decide (yl < xl), st) by rw [← hR, hl]; rfl);exact Q8
end
end Go.Proofs.YtbchkldhnjahaaaGreatDoor
