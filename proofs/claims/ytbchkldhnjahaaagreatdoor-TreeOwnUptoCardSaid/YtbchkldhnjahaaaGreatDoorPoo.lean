/- Part of the proof. Conditions: those of each theorem. -/
import Derived.Deep.CutBlock
import Derived.Test.YtbchkldhnjahaaaGreatDoorPoa
import Derived.Test.YtbchkldhnjahaaaGreatDoorPoj
import Derived.Test.YtbchkldhnjahaaaGreatDoorPon
set_option maxRecDepth 100000
set_option maxHeartbeats 40000000
namespace Go.Proofs.YtbchkldhnjahaaaGreatDoor
open Go.RowKit Kiln
open Go.Proofs
section
variable {w0 : World} {tv : Value} {ts : List Tok} {b : Nat} {qs : List Nat} {w : World} {U : Rl} {st : PS} {L : Low}
theorem xM (st : PS) : (bM ts 0 st).2 ≤ 2 := by
 unfold bM;repeat' split
 all_goals simp
theorem RF {p : Prop} (h : p := by
 go_wp2_with fail;refine hK _ _ (by exact ⟨HS.cell 0 _ rfl, HS.cell 1 _ rfl⟩) fun hH3 => ?_;clear hK K hH2;(try simp only [z0, zz])
 refine rk 11 fun K hK => ?_;(try simp only [zz])
 go_simp;refine hK _ _ (by exact ⟨ay (HS.cell 0 _ rfl) _, ay (HS.cell 1 _ rfl) _⟩) fun hH4 => ?_;clear hK K hH3;(try simp only [z0, zz])
 refine rk 12 fun K hK => ?_;(try simp only [zz])
 go_simp;replace HR := κ (aQ HR);have hl := HC.lit [x9] _ rfl (by unfold maxLen; simp);refine (bK hl.1.p (ak ts st) 38 p.1 [x9] hl.2.1 hl.2.2 (by simp) (aC HR.out HNE.out)).mono (hl.1.cl HR.out ?_);rintro x10 st10 v10 w10 U10 rfl HF10 HC HR;replace HS := κ (HS.lits.step HF10);clear hl;go_wp2_with fail;refine hK _ _ (by exact ⟨HS.cell 0 _ rfl, HS.cell 1 _ rfl⟩) fun hH5 => ?_;clear hK K hH4;(try simp only [z0, zz])
 refine tk 13 hH5 ?_;(try simp only [z0, zz])
 refine ψk (by kernel_rfl) ?_ _;go_wp2_with fail;go_ret;exact aG.good HR rfl rfl HC.p HC.f
 ) : p := h
theorem RE {p : Prop} (h : p := by
 rintro x6 st6 v6 w6 U6 rfl HF6 HC HR;replace HS := κ (HS.lits.step HF6);clear hl;go_wp2_with fail;refine hK _ _ (by exact ⟨HS.cell 0 _ rfl, HS.cell 1 _ rfl⟩) fun hH3 => ?_;clear hK K hH2;(try simp only [z0, zz])
 refine tk 7 hH3 ?_;(try simp only [z0, zz])
 refine ψk (by kernel_rfl) ?_ _;go_wp2_with fail;go_ret;exact aG.good HR rfl rfl HC.p HC.f
 ) : p := h
theorem yD (HT : Tks w0 tv ts) (HLow : bW w0 tv ts b L) (h1 : Ok w0 tv ts b 212 (eC ts L)) (hp : TSt w0 tv ts b qs w U st) (hne : fE ts L st ≠ .error .out) :
 Calls Tryz.prog 175 #[bL b] w (aG w0 tv ts b qs idR (fE ts L st) w U) := by
 obtain ⟨R, hR⟩ : ∃ R, fE ts L st = R := ⟨_, rfl⟩;rw [hR] at hne ⊢;have HNE := κ hne;unfold fE at hR;have HR := κ hR.symm;have HC := κ (Cur.start hp);clear hR hne hp;go_enter Tryz.func175, Tryz.ntmps175;go_wp2_with fail;replace HR := κ (aK (g := ak ts) HR);refine (aY HT HC.p).mono ?_;rintro e w1 ⟨rfl, hb1⟩;replace HC := κ (HC.below hb1);have HB1 := κ hb1;clear hb1;unfold dc;go_wp2_with fail;have HS := κ (Loc.new HC #[.int .i64 (ak ts st).1, .int .i64 (ak ts st).2] 109);replace HC := κ (HC.alloc (.cells #[.int .i64 (ak ts st).1, .int .i64 (ak ts st).2] 109));go_wp2_with fail;replace HR := κ (aK (g := bM ts 0) HR);refine (lD HT HC.p 0 (by omega)).mono ?_;rintro e w4 ⟨rfl, hb4⟩;replace HC := κ (HC.below hb4);replace HS := κ (HS.below hb4);have HB4 := κ hb4;clear hb4;have hpl := xM (ts := ts) st;obtain ⟨p, hp⟩ : ∃ p, bM ts 0 st = p := ⟨_, rfl⟩;rw [hp] at HR hpl ⊢;clear hp;obtain ⟨n, hn⟩ : ∃ n, p.2 = n := ⟨_, rfl⟩;rw [hn] at HR hpl ⊢;clear hn;obtain ⟨A, hA⟩ : ∃ A, (decide (0 < n) && isP ts n [97, 115] st) = A := ⟨_, rfl⟩;have hr_ : R = (if A = true then (cu ts (n + 1) >>= fun _ => L.pat >>= fun i => aV (ak ts st) 38 p.1 [i]) else ((if 0 < n then isM ts n [58] else pure false) >>= fun col => if col = true then (cu ts (n + 1) >>= fun _ => L.ty >>= fun t => aX ts [97, 115] >>= fun c => if c = true then (L.pat >>= fun q => ofM q >>= fun o => aV o 37 [] [q, t] >>= fun i => aV (ak ts st) 38 p.1 [i]) else (aV (ak ts st) 31 p.1 [] >>= fun i => aV (ak ts st) 37 [] [i, t] >>= fun i => eD ts L 37 (ts.length + 1) i)) else (zh ts (eC ts L) false >>= fun i => eD ts L 37 (ts.length + 1) i))) st := by
  rw [HR.out, ← hA];by_cases h0 : 0 < n
  · simp only [h0, ↓reduceIte, decide_true, Bool.true_and]; rfl
  · simp only [h0, ↓reduceIte, decide_false, Bool.false_and]; rfl
 have HR := κ hr_;clear hr_;obtain ⟨wq, hwq⟩ : ∃ wq, w4 = wq := ⟨_, rfl⟩;rw [hwq] at HC HS ⊢;clear hwq;go_upto_region 3 with fail;go_cut [21] (fun v wx => v = .bool A ∧ Below wq.heap.size wq wx)
 case first =>
  by_cases h0 : 0 < n
  · have h1 : (0 : Int) < (n : Int) := by omega
    go_wp2_with fail;refine (gq HT HC.p n (by omega) [97, 115]).mono ?_;rintro e w2 ⟨rfl, hb2⟩;have HB2 := κ hb2;clear hb2;go_wp2_with fail;go_meet
    exact ⟨by rw [← hA]; simp [h0], HB2.out⟩
  · have h1 : ¬ (0 : Int) < (n : Int) := by omega
    go_wp2_with fail;go_meet
    exact ⟨by rw [← hA]; simp [h0], ξf _ _⟩
 case rest =>
  obtain ⟨rfl, hbx⟩ := hcut;have hc1 := HC.below hbx;have hs1 := HS.below hbx;clear HC HS hbx hA;have HC := κ hc1;have HS := κ hs1;clear hc1 hs1;cases A;rotate_left
  · first | replace HR := κ (spt HR.out) | replace HR := κ (spf HR.out)
    obtain ⟨⟨nv_, dv_, c1_⟩, hf1_, hpos_, hlen_⟩ := HC.ats HT;have hn_ : n + 1 ≤ 4398046511104 := qZ HR HNE HT.len;go_wp2_with fail;clear c1_ hf1_ hpos_ hlen_;have HS := κ (HS.setb HC (i := 1) (.int .i64 ((st.pos : Int) + ((n + 1 : Nat) : Int))));have hk_ := HC.skip (n + 1) HR HNE;have HC := κ hk_.1;have HR := κ hk_.2;clear hk_;have s0 := HS.cell 0 _ rfl;have s1 := HS.cell 1 _ rfl;refine ψn (S := (fun W => W.cell? ⟨w1.heap.size, 0, none⟩ = some (.int .i64 (ak ts st).1) ∧ W.cell? ⟨w1.heap.size, 1, none⟩ = some (.int .i64 (ak ts st).2))) (by kernel_rfl) (by exact ⟨s0, s1⟩) (fun hH0 => ?_);refine tk 0 hH0 ?_;refine tk 1 hH0 ?_;refine tk 2 hH0 ?_;refine tk 3 hH0 ?_;(try simp only [z0, zz])
    refine rk 4 fun K hK => ?_;(try simp only [zz])
    go_simp;refine (HLow.pat HC.p.drew (aC HR HNE)).mono (HC.drew.cl HR ?_);rintro x5 st5 v5 w5 U5 rfl HF5 HC HR;replace HS := κ (HS.drew.step HF5);go_wp2_with fail;refine hK _ _ (by exact ⟨HS.cell 0 _ rfl, HS.cell 1 _ rfl⟩) fun hH1 => ?_;clear hK K hH0;(try simp only [z0, zz])
    refine rk 5 fun K hK => ?_;(try simp only [zz])
    go_simp;refine hK _ _ (by exact ⟨ay (HS.cell 0 _ rfl) _, ay (HS.cell 1 _ rfl) _⟩) fun hH2 => ?_;clear hK K hH1;(try simp only [z0, zz])
    refine rk 6 fun K hK => ?_;(try simp only [zz])
    go_simp;replace HR := κ (aQ HR);have hl := HC.lit [x5] _ rfl (by unfold maxLen; simp);refine (bK hl.1.p (ak ts st) 38 p.1 [x5] hl.2.1 hl.2.2 (by simp) (aC HR.out HNE.out)).mono (hl.1.cl HR.out ?_);exact RE
  first | replace HR := κ (spt HR.out) | replace HR := κ (spf HR.out)
  obtain ⟨A, hA⟩ : ∃ A, (decide (0 < n) && isP ts n [58] st) = A := ⟨_, rfl⟩;have hr_ : R = (if A = true then (cu ts (n + 1) >>= fun _ => L.ty >>= fun t => aX ts [97, 115] >>= fun c => if c = true then (L.pat >>= fun q => ofM q >>= fun o => aV o 37 [] [q, t] >>= fun i => aV (ak ts st) 38 p.1 [i]) else (aV (ak ts st) 31 p.1 [] >>= fun i => aV (ak ts st) 37 [] [i, t] >>= fun i => eD ts L 37 (ts.length + 1) i)) else (zh ts (eC ts L) false >>= fun i => eD ts L 37 (ts.length + 1) i)) st := by
   rw [HR.out, ← hA];by_cases h0 : 0 < n
   · simp only [h0, ↓reduceIte, decide_true, Bool.true_and]; rfl
   · simp only [h0, ↓reduceIte, decide_false, Bool.false_and]; rfl
  have HR := κ hr_;clear hr_;obtain ⟨wq, hwq⟩ : ∃ wq, wc = wq := ⟨_, rfl⟩;rw [hwq] at HC HS ⊢;clear hwq;go_upto_region 6 with fail;go_cut [44] (fun v wx => v = .bool A ∧ Below wq.heap.size wq wx)
  case first =>
   by_cases h0 : 0 < n
   · have h1 : (0 : Int) < (n : Int) := by omega
     go_wp2_with fail;refine (gq HT HC.p n (by omega) [58]).mono ?_;rintro e w2 ⟨rfl, hb2⟩;have HB2 := κ hb2;clear hb2;go_wp2_with fail;go_meet
     exact ⟨by rw [← hA]; simp [h0], HB2.out⟩
   · have h1 : ¬ (0 : Int) < (n : Int) := by omega
     go_wp2_with fail;go_meet
     exact ⟨by rw [← hA]; simp [h0], ξf _ _⟩
  case rest =>
   obtain ⟨rfl, hbx⟩ := hcut;have hc1 := HC.below hbx;have hs1 := HS.below hbx;clear HC HS hbx hA;have HC := κ hc1;have HS := κ hs1;clear hc1 hs1;cases A
   · first | replace HR := κ (spt HR.out) | replace HR := κ (spf HR.out)
     go_wp2_with fail;refine (Ee HT 212 (eC ts L) false (fun _ _ => rfl) h1 HC.p (aC HR HNE)).mono (HC.cl HR ?_);rintro x7 st7 v7 w7 U7 rfl HF7 HC HR;go_wp2_with fail;refine (xg HT HLow x7 HC.p (HR.out ▸ HNE.out)).mono (HC.ls HR.out ?_);rintro x9 v9 w9 U9 rfl HFIN;go_wp2_with fail;go_ret;exact HFIN
   · first | replace HR := κ (spt HR.out) | replace HR := κ (spf HR.out)
     obtain ⟨⟨nv_, dv_, c1_⟩, hf1_, hpos_, hlen_⟩ := HC.ats HT;have hn_ : n + 1 ≤ 4398046511104 := qZ HR HNE HT.len;go_wp2_with fail;clear c1_ hf1_ hpos_ hlen_;have HS := κ (HS.setb HC (i := 1) (.int .i64 ((st.pos : Int) + ((n + 1 : Nat) : Int))));have hk_ := HC.skip (n + 1) HR HNE;have HC := κ hk_.1;have HR := κ hk_.2;clear hk_;refine (HLow.ty HC.p (aC HR HNE)).mono (HC.cl HR ?_);rintro x6 st6 v6 w6 U6 rfl HF6 HC HR;replace HS := κ (HS.step HF6);go_wp2_with fail;refine (aI HT HC.p [97, 115]).mono (HC.cl HR ?_);rintro x7 st7 v7 w7 U7 rfl HF7 HC HR;replace HS := κ (HS.step HF7);cases x7
     · first | replace HR := κ (spt HR.out) | replace HR := κ (spf HR.out)
       go_wp2_with fail;have s0 := HS.cell 0 _ rfl;have s1 := HS.cell 1 _ rfl;refine ψn (S := (fun W => W.cell? ⟨w1.heap.size, 0, none⟩ = some (.int .i64 (ak ts st).1) ∧ W.cell? ⟨w1.heap.size, 1, none⟩ = some (.int .i64 (ak ts st).2))) (by kernel_rfl) (by exact ⟨s0, s1⟩) (fun hH0 => ?_);refine tk 0 hH0 ?_;refine tk 1 hH0 ?_;refine tk 2 hH0 ?_;refine tk 3 hH0 ?_;refine tk 4 hH0 ?_;refine tk 5 hH0 ?_;refine tk 7 hH0 ?_;(try simp only [z0, zz])
       refine rk 6 fun K hK => ?_;(try simp only [zz])
       go_simp;refine (bK HC.p.drew (ak ts st) 31 p.1 [] (Ints.nil _) (Im.nil _ _) (by simp) (aC HR.out HNE.out)).mono (HC.drew.cl HR.out ?_);rintro x8 st8 v8 w8 U8 rfl HF8 HC HR;replace HS := κ (HS.drew.step HF8);go_wp2_with fail;refine hK _ _ (by exact ⟨HS.cell 0 _ rfl, HS.cell 1 _ rfl⟩) fun hH1 => ?_;clear hK K hH0;(try simp only [z0, zz])
       refine rk 8 fun K hK => ?_;(try simp only [zz])
       go_simp;refine hK _ _ (by exact ⟨ay (HS.cell 0 _ rfl) _, ay (HS.cell 1 _ rfl) _⟩) fun hH2 => ?_;clear hK K hH1;(try simp only [z0, zz])
       refine rk 9 fun K hK => ?_;(try simp only [zz])
       go_simp;have hl := HC.lit [x8, x6] _ rfl (by unfold maxLen; simp);refine (bK hl.1.p (ak ts st) 37 [] [x8, x6] hl.2.1 hl.2.2 (by simp) (aC HR.out HNE.out)).mono (hl.1.cl HR.out ?_);rintro x9 st9 v9 w9 U9 rfl HF9 HC HR;replace HS := κ (HS.lits.step HF9);clear hl;go_wp2_with fail;refine hK _ _ (by exact ⟨HS.cell 0 _ rfl, HS.cell 1 _ rfl⟩) fun hH3 => ?_;clear hK K hH2;(try simp only [z0, zz])
       refine rk 10 fun K hK => ?_;(try simp only [zz])
       go_simp;replace HR := κ (aQ HR);refine (xg HT HLow x9 HC.p (aC HR HNE)).mono (HC.cl HR ?_);rintro x10 st10 v10 w10 U10 rfl HF10 HC HR;replace HS := κ (HS.step HF10);go_wp2_with fail;refine hK _ _ (by exact ⟨HS.cell 0 _ rfl, HS.cell 1 _ rfl⟩) fun hH4 => ?_;clear hK K hH3;(try simp only [z0, zz])
       refine tk 11 hH4 ?_;(try simp only [z0, zz])
       refine ψk (by kernel_rfl) ?_ _;go_wp2_with fail;go_ret;exact aG.good HR rfl rfl HC.p HC.f
     · first | replace HR := κ (spt HR.out) | replace HR := κ (spf HR.out)
       go_wp2_with fail;refine (HLow.pat HC.p (aC HR HNE)).mono (HC.cl HR ?_);rintro x7 st7 v7 w7 U7 rfl HF7 HC HR;replace HS := κ (HS.step HF7);go_wp2_with fail;have ho_ := dX HR HNE;have hlt := ho_.1;have HR := κ ho_.2;clear ho_;have s0 := HS.cell 0 _ rfl;have s1 := HS.cell 1 _ rfl;refine ψn (S := (fun W => W.cell? ⟨w1.heap.size, 0, none⟩ = some (.int .i64 (ak ts st).1) ∧ W.cell? ⟨w1.heap.size, 1, none⟩ = some (.int .i64 (ak ts st).2))) (by kernel_rfl) (by exact ⟨s0, s1⟩) (fun hH0 => ?_);refine tk 0 hH0 ?_;refine tk 1 hH0 ?_;refine tk 2 hH0 ?_;refine tk 3 hH0 ?_;refine tk 4 hH0 ?_;refine tk 5 hH0 ?_;refine tk 7 hH0 ?_;refine tk 8 hH0 ?_;(try simp only [z0, zz])
       refine ψl (rs := [6, 9]) (by kernel_rfl) (by simp) (ξa rfl (fun K hK => ?_) (ξa rfl (fun K hK => ?_) ξb))
       · (try simp only [zz])
         go_simp;refine (fN HC.p.drew x7 hlt).mono ?_;rintro e w8 ⟨rfl, hb8⟩;replace HC := κ (HC.drew.below hb8);replace HS := κ (HS.drew.below hb8);have HB8 := κ hb8;clear hb8;go_wp2_with fail;refine hK _ _ (by exact ⟨HS.cell 0 _ rfl, HS.cell 1 _ rfl⟩) fun hH1 => ?_;clear hK K hH0;(try simp only [z0, zz])
         refine rk 9 fun K hK => ?_;(try simp only [zz])
         go_simp;refine hK _ _ (by exact ⟨ay (HS.cell 0 _ rfl) _, ay (HS.cell 1 _ rfl) _⟩) fun hH2 => ?_;clear hK K hH1;(try simp only [z0, zz])
         refine rk 10 fun K hK => ?_;(try simp only [zz])
         go_simp;have hl := HC.lit [x7, x6] _ rfl (by unfold maxLen; simp);refine (aS hl.1.p (ofP x7 st7) 37 [] [x7, x6] _ hl.2.1 hl.2.2 (by simp) (aC HR.out HNE.out)).mono (hl.1.cl HR.out ?_);rintro x9 st9 v9 w9 U9 rfl HF9 HC HR;replace HS := κ (HS.lits.step HF9);clear hl;exact RF
       · (try simp only [zz])
         go_simp;have hc_ := HC.alloc (.cells #[.int .i64 x7, .int .i64 x6] 3);refine hK _ _ (by exact ⟨ay s0 _, ay s1 _⟩) fun hH1 => ?_;clear hK K hH0;(try simp only [z0, zz])
         refine rk 6 fun K hK => ?_;(try simp only [zz])
         go_simp;have hl := HC.lit [x7, x6] _ rfl (by unfold maxLen; simp);have hbo := fN (hl.1.p.drew) x7 hlt;refine hbo.mono ?_;rintro e w8 ⟨rfl, hb8⟩;have hc8 := hl.1.drew.below hb8;have hi8 := hl.2.1.below (show Below (w7.alloc (.cells #[.int .i64 x7, .int .i64 x6] 3)).heap.size (w7.alloc (.cells #[.int .i64 x7, .int .i64 x6] 3)) w8 from ⟨hb8.os, hb8.tape, hb8.output, hb8.size, hb8.block⟩);have hj8 := hl.2.2;have hs8 := (HS.lits (r := 4) (o := .cells #[.int .i64 x7, .int .i64 x6] 3)).drew.below hb8;clear HC HS hl hbo hb8 hc_;have HC := κ hc8;have HS := κ hs8;have HI := κ hi8;have HJ := κ hj8;clear hc8 hs8 hi8 hj8;go_wp2_with fail;refine hK _ _ (by exact ⟨HS.cell 0 _ rfl, HS.cell 1 _ rfl⟩) fun hH2 => ?_;clear hK K hH1;(try simp only [z0, zz])
         refine rk 10 fun K hK => ?_;(try simp only [zz])
         go_simp;refine (aS HC.p (ofP x7 st7) 37 [] [x7, x6] _ HI.out HJ.out (by simp) (aC HR.out HNE.out)).mono (HC.cl HR.out ?_);rintro x9 st9 v9 w9 U9 rfl HF9 HC HR;replace HS := κ (HS.step HF9);exact RF
theorem RG {p : Prop} (h : p := by
 clear hlr hg0 hg1;obtain ⟨j0, hj, hj0, hj1, hj2⟩ := info_parts Tryz.infoInt;have HJ := κ (ξc hj (ξc hj0 (ξc hj1 hj2)));clear hj hj0 hj1 hj2 hln;have hbs := HC.size;refine ψj _ rfl (.tmp 54) (.tmp 56) 39 rfl w.heap.size 3 j0 (.int .i64 0) 1 8 Tryz.underlying39 HJ.out.1 HJ.out.2.1 HJ.out.2.2.1 HJ.out.2.2.2 rfl (by decide) _ 1 [.int .i64 x7] (by simp [Act.eval]; try rfl) HLE.out.1 ⟨g0, 0, none⟩ x5.length cap0 ((x5.map Int.ofNat).map (Value.int .i64)) (by simp [Act.eval]; try rfl) (by simp) HLC.out (AO _) hlp (by unfold maxLen; omega) (by omega) (by omega) _ rfl ?_;intro g2 cap2 w6 hrow2 hgr2 hgb2 hgl2;have hpu := HC.push (n := 1 + x5.length) (cap := cap2) (fun k e => (HLE.lt k e).1) HLE.out.2 (ξF _) hgr2 hgb2;have hl6 : LR w.heap.size w6 U5 (.slice (some ⟨g2, 0, none⟩) (1 + x5.length) cap2) ((x7 :: x5).map Int.ofNat) := ⟨by simpa [Nat.add_comm] using hrow2, hpu.2⟩;have hs6 := HS.besideT HLE (by decide) hgr2;clear HLE HLC HC HS hrow2 hgr2 hgb2 hgl2 hbs HJ;have HC := κ hpu.1;have HL := κ hl6;have HS := κ hs6;clear hpu hl6 hs6;refine hK _ _ (by exact ⟨HS.cell 0 _ rfl, HS.cell 1 _ rfl⟩) fun hH3 => ?_;clear hK K hH2;(try simp only [z0, zz])
 refine rk 7 fun K hK => ?_;(try simp only [zz])
 go_simp;replace HR := κ (aQ HR);have hs7 := HS.giveL (r := 4) HL (by decide);have hl := HC.own HL;clear HS;have HS := κ hs7;clear hs7;refine (aS hl.1.p (ak ts st) 25 [] (x7 :: x5) _ hl.2.1 hl.2.2 (by have := HLL.out; simp; omega) (aC HR.out HNE.out)).mono (hl.1.cl HR.out ?_);rintro x8 st8 v8 w8 U8 rfl HF8 HC HR;replace HS := κ (HS.step HF8);clear hl;go_wp2_with fail;refine hK _ _ (by exact ⟨HS.cell 0 _ rfl, HS.cell 1 _ rfl⟩) fun hH4 => ?_;clear hK K hH3;(try simp only [z0, zz])
 refine tk 8 hH4 ?_;(try simp only [z0, zz])
 refine ψk (by kernel_rfl) ?_ _;go_wp2_with fail;go_ret;exact aG.good HR rfl rfl HC.p HC.f
 ) : p := h
theorem xZ (HT : Tks w0 tv ts) (HLow : bW w0 tv ts b L) (h1 : Ok w0 tv ts b 280 (Dl ts L)) (hp : TSt w0 tv ts b qs w U st) (hne : eG ts L st ≠ .error .out) :
 Calls Tryz.prog 259 #[bL b] w (aG w0 tv ts b qs idR (eG ts L st) w U) := by
 obtain ⟨R, hR⟩ : ∃ R, eG ts L st = R := ⟨_, rfl⟩;rw [hR] at hne ⊢;have HNE := κ hne;unfold eG at hR;have HR := κ hR.symm;have HC := κ (Cur.start hp);clear hR hne hp;go_enter Tryz.func259, Tryz.ntmps259;go_wp2_with fail;replace HR := κ (aK (g := ak ts) HR);refine (aY HT HC.p).mono ?_;rintro e w1 ⟨rfl, hb1⟩;replace HC := κ (HC.below hb1);have HB1 := κ hb1;clear hb1;clear HB1;unfold dc;go_wp2_with fail;have HS := κ (Loc.new HC #[.int .i64 (ak ts st).1, .int .i64 (ak ts st).2] 109);replace HC := κ (HC.alloc (.cells #[.int .i64 (ak ts st).1, .int .i64 (ak ts st).2] 109));obtain ⟨wz, hwz⟩ : ∃ wz, w1 = wz := ⟨_, rfl⟩;rw [hwz] at HC HS ⊢;clear hwz w1;go_wp2_with fail;refine (aI HT HC.p [105, 102]).mono (HC.cl HR ?_);rintro x1 st1 v1 w1 U1 rfl HF1 HC HR;replace HS := κ (HS.step HF1);clear HF1;cases x1;rotate_left
 · replace HR := HR.out;simp only [ξh, ↓reduceIte] at HR;replace HR := κ HR;go_wp2_with fail;refine (HLow.exp HC.p (aC HR HNE)).mono (HC.cl HR ?_);rintro x6 st6 v6 w6 U6 rfl HF6 HC HR;replace HS := κ (HS.step HF6);go_wp2_with fail;refine (bf HT HC.p [116, 104, 101, 110]).mono (HC.cl HR ?_);rintro x7 st7 v7 w7 U7 rfl HF7 HC HR;replace HS := κ (HS.step HF7);go_wp2_with fail;refine (HLow.exp HC.p (aC HR HNE)).mono (HC.cl HR ?_);rintro x8 st8 v8 w8 U8 rfl HF8 HC HR;replace HS := κ (HS.step HF8);go_wp2_with fail;refine (bf HT HC.p [101, 108, 115, 101]).mono (HC.cl HR ?_);rintro x9 st9 v9 w9 U9 rfl HF9 HC HR;replace HS := κ (HS.step HF9);go_wp2_with fail;have s0 := HS.cell 0 _ rfl;have s1 := HS.cell 1 _ rfl;refine ψn (S := (fun W => W.cell? ⟨wz.heap.size, 0, none⟩ = some (.int .i64 (ak ts st).1) ∧ W.cell? ⟨wz.heap.size, 1, none⟩ = some (.int .i64 (ak ts st).2))) (by kernel_rfl) (by exact ⟨s0, s1⟩) (fun hH0 => ?_);refine tk 0 hH0 ?_;refine tk 1 hH0 ?_;refine tk 2 hH0 ?_;refine tk 3 hH0 ?_;refine tk 4 hH0 ?_;(try simp only [z0, zz])
   refine rk 5 fun K hK => ?_;(try simp only [zz])
   go_simp;refine (HLow.exp HC.p.drew (aC HR HNE)).mono (HC.drew.cl HR ?_);rintro x5 st5 v5 w5 U5 rfl HF5 HC HR;replace HS := κ (HS.drew.step HF5);go_wp2_with fail;refine hK _ _ (by exact ⟨HS.cell 0 _ rfl, HS.cell 1 _ rfl⟩) fun hH1 => ?_;clear hK K hH0;(try simp only [z0, zz])
   refine rk 6 fun K hK => ?_;(try simp only [zz])
   go_simp;refine hK _ _ (by exact ⟨ay (HS.cell 0 _ rfl) _, ay (HS.cell 1 _ rfl) _⟩) fun hH2 => ?_;clear hK K hH1;(try simp only [z0, zz])
   refine rk 7 fun K hK => ?_;(try simp only [zz])
   go_simp;replace HR := κ (aQ HR);have hl := HC.lit [x6, x8, x5] _ rfl (by unfold maxLen; simp);refine (bK hl.1.p (ak ts st) 23 [] [x6, x8, x5] hl.2.1 hl.2.2 (by simp) (aC HR.out HNE.out)).mono (hl.1.cl HR.out ?_);rintro x6 st6 v6 w6 U6 rfl HF6 HC HR;replace HS := κ (HS.lits.step HF6);clear hl;go_wp2_with fail;refine hK _ _ (by exact ⟨HS.cell 0 _ rfl, HS.cell 1 _ rfl⟩) fun hH3 => ?_;clear hK K hH2;(try simp only [z0, zz])
   refine tk 8 hH3 ?_;(try simp only [z0, zz])
   refine ψk (by kernel_rfl) ?_ _;go_wp2_with fail;go_ret;exact aG.good HR rfl rfl HC.p HC.f
 replace HR := HR.out;simp only [ξh, ↓reduceIte] at HR;replace HR := κ HR;obtain ⟨wn, hwn⟩ : ∃ wn, w1 = wn := ⟨_, rfl⟩;rw [hwn] at HC HS ⊢;clear hwn w1;obtain ⟨sn, hsn⟩ : ∃ sn, st1 = sn := ⟨_, rfl⟩;rw [hsn] at HC HR;clear hsn st1;go_wp2_with fail;refine (aI HT HC.p [119, 104, 105, 108, 101]).mono (HC.cl HR ?_);rintro x1 st1 v1 w1 U1 rfl HF1 HC HR;replace HS := κ (HS.step HF1);clear HF1;cases x1;rotate_left
 · replace HR := HR.out;simp only [ξh, ↓reduceIte] at HR;replace HR := κ HR;go_wp2_with fail;refine (HLow.exp HC.p (aC HR HNE)).mono (HC.cl HR ?_);rintro x6 st6 v6 w6 U6 rfl HF6 HC HR;replace HS := κ (HS.step HF6);go_wp2_with fail;refine (bf HT HC.p [100, 111]).mono (HC.cl HR ?_);rintro x7 st7 v7 w7 U7 rfl HF7 HC HR;replace HS := κ (HS.step HF7);go_wp2_with fail;have s0 := HS.cell 0 _ rfl;have s1 := HS.cell 1 _ rfl;refine ψn (S := (fun W => W.cell? ⟨wz.heap.size, 0, none⟩ = some (.int .i64 (ak ts st).1) ∧ W.cell? ⟨wz.heap.size, 1, none⟩ = some (.int .i64 (ak ts st).2))) (by kernel_rfl) (by exact ⟨s0, s1⟩) (fun hH0 => ?_);refine tk 0 hH0 ?_;refine tk 1 hH0 ?_;refine tk 2 hH0 ?_;refine tk 3 hH0 ?_;(try simp only [z0, zz])
   refine rk 4 fun K hK => ?_;(try simp only [zz])
   go_simp;refine (HLow.exp HC.p.drew (aC HR HNE)).mono (HC.drew.cl HR ?_);rintro x5 st5 v5 w5 U5 rfl HF5 HC HR;replace HS := κ (HS.drew.step HF5);go_wp2_with fail;refine hK _ _ (by exact ⟨HS.cell 0 _ rfl, HS.cell 1 _ rfl⟩) fun hH1 => ?_;clear hK K hH0;(try simp only [z0, zz])
   refine rk 5 fun K hK => ?_;(try simp only [zz])
   go_simp;refine hK _ _ (by exact ⟨ay (HS.cell 0 _ rfl) _, ay (HS.cell 1 _ rfl) _⟩) fun hH2 => ?_;clear hK K hH1;(try simp only [z0, zz])
   refine rk 6 fun K hK => ?_;(try simp only [zz])
   go_simp;replace HR := κ (aQ HR);have hl := HC.lit [x6, x5] _ rfl (by unfold maxLen; simp);refine (bK hl.1.p (ak ts st) 24 [] [x6, x5] hl.2.1 hl.2.2 (by simp) (aC HR.out HNE.out)).mono (hl.1.cl HR.out ?_);exact RE
 replace HR := HR.out;simp only [ξh, ↓reduceIte] at HR;replace HR := κ HR;obtain ⟨wn, hwn⟩ : ∃ wn, w1 = wn := ⟨_, rfl⟩;rw [hwn] at HC HS ⊢;clear hwn w1;obtain ⟨sn, hsn⟩ : ∃ sn, st1 = sn := ⟨_, rfl⟩;rw [hsn] at HC HR;clear hsn st1;go_wp2_with fail;refine (aI HT HC.p [99, 97, 115, 101]).mono (HC.cl HR ?_);rintro x1 st1 v1 w1 U1 rfl HF1 HC HR;replace HS := κ (HS.step HF1);clear HF1;cases x1;rotate_left
 · replace HR := HR.out;simp only [ξh, ↓reduceIte] at HR;replace HR := κ HR;go_wp2_with fail;refine (HLow.exp HC.p (aC HR HNE)).mono (HC.cl HR ?_);rintro x7 st7 v7 w7 U7 rfl HF7 HC HR;replace HS := κ (HS.step HF7);go_wp2_with fail;refine (bf HT HC.p [111, 102]).mono (HC.cl HR ?_);rintro x8 st8 v8 w8 U8 rfl HF8 HC HR;replace HS := κ (HS.step HF8);go_wp2_with fail;have s0 := HS.cell 0 _ rfl;have s1 := HS.cell 1 _ rfl;refine ψn (S := (fun W => W.cell? ⟨wz.heap.size, 0, none⟩ = some (.int .i64 (ak ts st).1) ∧ W.cell? ⟨wz.heap.size, 1, none⟩ = some (.int .i64 (ak ts st).2))) (by kernel_rfl) (by exact ⟨s0, s1⟩) (fun hH0 => ?_);refine tk 0 hH0 ?_;refine tk 1 hH0 ?_;refine tk 2 hH0 ?_;refine tk 4 hH0 ?_;(try simp only [z0, zz])
   refine ψl (rs := [3, 5]) (by kernel_rfl) (by simp) (ξa rfl (fun K hK => ?_) (ξa rfl (fun K hK => ?_) ξb))
   · (try simp only [zz])
     go_simp;have hle := (LR.lit (B := w.heap.size) (w := w8) (U := U8) [(x7 : Int)] #[.int .i64 x7] rfl HC.size (HC.p.zero (ξF _)) (by unfold maxLen; simp)).drew;have hc_ := (HC.alloc (.cells #[.int .i64 x7] 3)).drew;have hs_ := (HS.alloc (.cells #[.int .i64 x7] 3)).drew;clear HC HS;have HC := κ hc_;have HS := κ hs_;have HLE := κ hle;clear hc_ hs_ hle;refine hK _ _ (by exact ⟨HS.cell 0 _ rfl, HS.cell 1 _ rfl⟩) fun hH1 => ?_;clear hK K hH0;(try simp only [z0, zz])
     refine rk 5 fun K hK => ?_;(try simp only [zz])
     go_simp;refine (nS HT HLow HC.p (aC HR HNE)).mono (HC.cl HR ?_);rintro x5 st5 v5 w5 U5 hv5 HF5 HC HR;replace HS := κ (HS.step HF5);replace HLE := κ (HLE.step HF5);go_wp2_with fail;refine hK _ _ (by exact ⟨HS.cell 0 _ rfl, HS.cell 1 _ rfl⟩) fun hH2 => ?_;clear hK K hH1;(try simp only [z0, zz])
     obtain ⟨⟨hlr, hll⟩, hln⟩ := hv5;have HLL := κ hll;refine rk 6 fun K hK => ?_;have hlp : 0 < x5.length := ξ6.2 hln;obtain ⟨g0, cap0, rfl, hg0, hg1⟩ := World.ownsRow.form hlr.1 (by simpa using hlp);have HLC := κ (show ∀ (j : Nat) u, ((x5.map Int.ofNat).map (Value.int .i64))[j]? = some u → w5.cell? ((⟨g0, 0, none⟩ : Addr).add j) = some u from fun j u hu => hlr.1.cells (g := g0) rfl j u hu);exact RG
   · (try simp only [zz])
     go_simp;refine (nS HT HLow HC.p.drew (aC HR HNE)).mono (HC.drew.cl HR ?_);rintro x5 st5 v5 w5 U5 hv5 HF5 HC HR;replace HS := κ (HS.drew.step HF5);go_wp2_with fail;refine hK _ _ (by exact ⟨HS.cell 0 _ rfl, HS.cell 1 _ rfl⟩) fun hH1 => ?_;clear hK K hH0;(try simp only [z0, zz])
     refine rk 3 fun K hK => ?_;(try simp only [zz])
     go_simp;have hle := LR.lit (B := w.heap.size) (w := w5) (U := U5) [(x7 : Int)] #[.int .i64 x7] rfl HC.size (HC.p.zero (ξF _)) (by unfold maxLen; simp);have hc_ := HC.alloc (.cells #[.int .i64 x7] 3);have hs_ := HS.alloc (.cells #[.int .i64 x7] 3);clear HC HS;have HC := κ hc_;have HS := κ hs_;have HLE := κ hle;clear hc_ hs_ hle;refine hK _ _ (by exact ⟨HS.cell 0 _ rfl, HS.cell 1 _ rfl⟩) fun hH2 => ?_;clear hK K hH1;(try simp only [z0, zz])
     obtain ⟨⟨hlr5, hll⟩, hln⟩ := hv5;have hlr := hlr5.alloc (.cells #[.int .i64 x7] 3);clear hlr5;have HLL := κ hll;refine rk 6 fun K hK => ?_;have hlp : 0 < x5.length := ξ6.2 hln;obtain ⟨g0, cap0, rfl, hg0, hg1⟩ := World.ownsRow.form hlr.1 (by simpa using hlp);have HLC := κ (show ∀ (j : Nat) u, ((x5.map Int.ofNat).map (Value.int .i64))[j]? = some u → (w5.alloc (.cells #[.int .i64 x7] 3)).cell? ((⟨g0, 0, none⟩ : Addr).add j) = some u from fun j u hu => hlr.1.cells (g := g0) rfl j u hu);exact RG
 replace HR := HR.out;simp only [ξh, ↓reduceIte] at HR;replace HR := κ HR;obtain ⟨wn, hwn⟩ : ∃ wn, w1 = wn := ⟨_, rfl⟩;rw [hwn] at HC HS ⊢;clear hwn w1;obtain ⟨sn, hsn⟩ : ∃ sn, st1 = sn := ⟨_, rfl⟩;rw [hsn] at HC HR;clear hsn st1;go_wp2_with fail;refine (aI HT HC.p [102, 110]).mono (HC.cl HR ?_);rintro x1 st1 v1 w1 U1 rfl HF1 HC HR;replace HS := κ (HS.step HF1);clear HF1;cases x1;rotate_left
 · replace HR := HR.out;simp only [ξh, ↓reduceIte] at HR;replace HR := κ HR;go_wp2_with fail;have s0 := HS.cell 0 _ rfl;have s1 := HS.cell 1 _ rfl;have HSZ2 := κ HC.size;refine ψn (S := (fun W => W.cell? ⟨wz.heap.size, 0, none⟩ = some (.int .i64 (ak ts st).1) ∧ W.cell? ⟨wz.heap.size, 1, none⟩ = some (.int .i64 (ak ts st).2))) (by kernel_rfl) (by exact ⟨s0, s1⟩) (fun hH0 => ?_);refine tk 0 hH0 ?_;refine tk 1 hH0 ?_;refine tk 2 hH0 ?_;(try simp only [z0, zz])
   refine rk 3 fun K hK => ?_;(try simp only [zz])
   go_simp;refine (nS HT HLow HC.p.drew (aC HR HNE)).mono (HC.drew.cl HR ?_);rintro x5 st5 v5 w5 U5 hv5 HF5 HC HR;replace HS := κ (HS.drew.step HF5);go_wp2_with fail;refine hK _ _ (by exact ⟨HS.cell 0 _ rfl, HS.cell 1 _ rfl⟩) fun hH1 => ?_;clear hK K hH0;(try simp only [z0, zz])
   refine rk 4 fun K hK => ?_;(try simp only [zz])
   go_simp;obtain ⟨hl5, hll5⟩ := hv5.1;replace HS := κ (HS.giveL (r := 4) hl5 (by decide));replace HR := κ (aQ HR);have hl := HC.own (hl5.low HSZ2);refine (aS hl.1.p (ak ts st) 26 [] x5 _ hl.2.1 hl.2.2 (by omega) (aC HR HNE)).mono (hl.1.cl HR ?_);rintro x6 st6 v6 w6 U6 rfl HF6 HC HR;replace HS := κ (HS.step HF6);clear hl;go_wp2_with fail;refine hK _ _ (by exact ⟨HS.cell 0 _ rfl, HS.cell 1 _ rfl⟩) fun hH2 => ?_;clear hK K hH1;(try simp only [z0, zz])
   refine tk 5 hH2 ?_;(try simp only [z0, zz])
   refine ψk (by kernel_rfl) ?_ _;go_wp2_with fail;go_ret;exact aG.good HR rfl rfl HC.p HC.f
 replace HR := HR.out;simp only [ξh, ↓reduceIte] at HR;replace HR := κ HR;obtain ⟨wn, hwn⟩ : ∃ wn, w1 = wn := ⟨_, rfl⟩;rw [hwn] at HC HS ⊢;clear hwn w1;obtain ⟨sn, hsn⟩ : ∃ sn, st1 = sn := ⟨_, rfl⟩;rw [hsn] at HC HR;clear hsn st1;go_wp2_with fail;refine (aI HT HC.p [114, 97, 105, 115, 101]).mono (HC.cl HR ?_);rintro x1 st1 v1 w1 U1 rfl HF1 HC HR;replace HS := κ (HS.step HF1);clear HF1;cases x1;rotate_left
 · replace HR := HR.out;simp only [ξh, ↓reduceIte] at HR;replace HR := κ HR;go_wp2_with fail;have s0 := HS.cell 0 _ rfl;have s1 := HS.cell 1 _ rfl;refine ψn (S := (fun W => W.cell? ⟨wz.heap.size, 0, none⟩ = some (.int .i64 (ak ts st).1) ∧ W.cell? ⟨wz.heap.size, 1, none⟩ = some (.int .i64 (ak ts st).2))) (by kernel_rfl) (by exact ⟨s0, s1⟩) (fun hH0 => ?_);refine tk 0 hH0 ?_;refine tk 1 hH0 ?_;refine tk 2 hH0 ?_;(try simp only [z0, zz])
   refine rk 3 fun K hK => ?_;(try simp only [zz])
   go_simp;refine (HLow.exp HC.p.drew (aC HR HNE)).mono (HC.drew.cl HR ?_);rintro x5 st5 v5 w5 U5 rfl HF5 HC HR;replace HS := κ (HS.drew.step HF5);go_wp2_with fail;refine hK _ _ (by exact ⟨HS.cell 0 _ rfl, HS.cell 1 _ rfl⟩) fun hH1 => ?_;clear hK K hH0;(try simp only [z0, zz])
   refine rk 4 fun K hK => ?_;(try simp only [zz])
   go_simp;refine hK _ _ (by exact ⟨ay (HS.cell 0 _ rfl) _, ay (HS.cell 1 _ rfl) _⟩) fun hH2 => ?_;clear hK K hH1;(try simp only [z0, zz])
   refine rk 5 fun K hK => ?_;(try simp only [zz])
   go_simp;replace HR := κ (aQ HR);have hl := HC.lit [x5] _ rfl (by unfold maxLen; simp);refine (bK hl.1.p (ak ts st) 22 [] [x5] hl.2.1 hl.2.2 (by simp) (aC HR.out HNE.out)).mono (hl.1.cl HR.out ?_);rintro x6 st6 v6 w6 U6 rfl HF6 HC HR;replace HS := κ (HS.lits.step HF6);clear hl;go_wp2_with fail;refine hK _ _ (by exact ⟨HS.cell 0 _ rfl, HS.cell 1 _ rfl⟩) fun hH3 => ?_;clear hK K hH2;(try simp only [z0, zz])
   refine tk 6 hH3 ?_;(try simp only [z0, zz])
   refine ψk (by kernel_rfl) ?_ _;go_wp2_with fail;go_ret;exact aG.good HR rfl rfl HC.p HC.f
 replace HR := HR.out;simp only [ξh, ↓reduceIte] at HR;replace HR := κ HR;obtain ⟨wn, hwn⟩ : ∃ wn, w1 = wn := ⟨_, rfl⟩;rw [hwn] at HC HS ⊢;clear hwn w1;obtain ⟨sn, hsn⟩ : ∃ sn, st1 = sn := ⟨_, rfl⟩;rw [hsn] at HC HR;clear hsn st1;clear HS;go_wp2_with fail;refine (Ee HT 280 (Dl ts L) true (fun _ _ => rfl) h1 HC.p (aC HR HNE)).mono (HC.cl HR ?_);rintro x1 st1 v1 w1 U1 rfl HF1 HC HR;clear HF1;go_wp2_with fail;go_loopg [8] (ts.length + 1) (fun g v wr => ∃ e st' U', v = .int .i64 (e : Nat) ∧ Cur w0 tv ts b qs w U wr U' st' ∧ R = (eD ts L 18 g e) st')
 case atStart => exact ⟨x1, st1, U1, rfl, HC, HR⟩
 case round =>
  clear HC HR;obtain ⟨e1, st', U', rfl, hc, hr⟩ := hrel;cases gk with
  | zero => exact absurd hr HNE
  | succ fu =>
   unfold eD at hr;have HR := κ hr;have HC := κ hc;clear hr hc;go_wp2_with fail;refine (aI HT HC.p [58]).mono (HC.cl HR ?_);rintro x2 st2 v2 w2 U2 rfl HF2 HC HR;cases x2
   · replace HR := HR.out;simp only [ξh, ↓reduceIte] at HR;replace HR := κ HR;go_wp2_with fail;go_ret;exact aG.good HR rfl rfl HC.p HC.f
   · replace HR := HR.out;simp only [ξh, ↓reduceIte] at HR;replace HR := κ HR;have ho_ := dX HR HNE;clear HR;have hlt := ho_.1;have HR := κ ho_.2;clear ho_;go_wp2_with fail;refine (fN HC.p e1 hlt).mono ?_;rintro e w3 ⟨rfl, hb3⟩;replace HC := κ (HC.below hb3);have HB3 := κ hb3;clear hb3;clear hlt;go_wp2_with fail;refine (HLow.ty HC.p (aC HR HNE)).mono (HC.cl HR ?_);rintro x4 st4 v4 w4 U4 rfl HF4 HC HR;go_wp2_with fail;have hl := HC.lit [e1, x4] _ rfl (by unfold maxLen; simp);refine (aS hl.1.p (ofP e1 st2) 18 [] [e1, x4] _ hl.2.1 hl.2.2 (by simp) (aC HR.out HNE.out)).mono (hl.1.cl HR.out ?_);rintro x9 st9 v9 w9 U9 rfl HF9 HC HR;clear hl;go_wp2_with fail;go_roundg fu
     case measure => omega
     case rel => exact ⟨x9, st9, U9, rfl, HC, HR⟩
section
variable {w0 : World} {tv : Value} {ts : List Tok} {b : Nat} {L : Low}
theorem FN (HT : Tks w0 tv ts) (HLow : bW w0 tv ts b L) : Ok w0 tv ts b 212 (eC ts L) := fun _ _ _ _ hp hne => Dj HT HLow hp hne
theorem CH (HT : Tks w0 tv ts) (HLow : bW w0 tv ts b L) : Ok w0 tv ts b 175 (fE ts L) := fun _ _ _ _ hp hne => yD HT HLow (FN HT HLow) hp hne
theorem Ma (HT : Tks w0 tv ts) (HLow : bW w0 tv ts b L) : Ok w0 tv ts b 132 (Et ts L) := fun _ _ _ _ hp hne => G1 HT (CH HT HLow) hp hne
theorem Iu (HT : Tks w0 tv ts) (HLow : bW w0 tv ts b L) : Ok w0 tv ts b 292 (j4 ts L) := fun _ _ _ _ hp hne => FL HT HLow hp hne
theorem Mt (HT : Tks w0 tv ts) (HLow : bW w0 tv ts b L) : Ok w0 tv ts b 280 (Dl ts L) := fun _ _ _ _ hp hne => Iw HT (Iu HT HLow) hp hne
theorem Cy (HT : Tks w0 tv ts) (HLow : bW w0 tv ts b L) : Ok w0 tv ts b 259 (eG ts L) := fun _ _ _ _ hp hne => xZ HT HLow (Mt HT HLow) hp hne
theorem KH (HT : Tks w0 tv ts) (HLow : bW w0 tv ts b L) : Ok w0 tv ts b 213 (nY ts L) := fun _ _ _ _ hp hne => FC HT (Cy HT HLow) hp hne
theorem MQ (HT : Tks w0 tv ts) (HLow : bW w0 tv ts b L) : Ok w0 tv ts b 176 (Kiln.orM ts L) := fun _ _ _ _ hp hne => JL HT (KH HT HLow) hp hne
theorem Mq (HT : Tks w0 tv ts) (HLow : bW w0 tv ts b L) : Ok w0 tv ts b 134 (Fa ts L) := fun _ _ _ _ hp hne => H6 HT HLow (MQ HT HLow) hp hne
end
end
end Go.Proofs.YtbchkldhnjahaaaGreatDoor
