/- Part of the proof. Conditions: those of each theorem. -/
import Derived.WalkKit
import Derived.Defers
import Derived.Recover
import Derived.Test.YtbchkldhnjahaaaGreatDoorPoa
import Derived.Test.YtbchkldhnjahaaaGreatDoorPof
import Derived.Test.YtbchkldhnjahaaaGreatDoorPoh
import Derived.Test.YtbchkldhnjahaaaGreatDoorPoj
import Derived.Test.YtbchkldhnjahaaaGreatDoorPok
import Derived.Test.YtbchkldhnjahaaaGreatDoorPot
set_option maxRecDepth 100000
set_option maxHeartbeats 40000000
namespace Go.Proofs.YtbchkldhnjahaaaGreatDoor
open Go.RowKit Kiln
open Go.Proofs
section
variable {w0 : World} {tv : Value} {ts : List Tok} {b : Nat} {qs : List Nat} {w : World} {U : Rl} {st : PS} {L : Low}
theorem Gq (HT : Tks w0 tv ts) (k : Nat) (st : PS) : (aB ts k st).text.length ≤ 17592186044416 := by
 unfold aB;by_cases h : st.pos + k < ts.length
 · rw [ξr, ξw h];exact HT.siz _ (List.getElem_mem h)
 · rw [ξr, ξx (by omega)];simp [qq]
theorem zL {f : Nat} {l : List Nat} {β : Type} {k : List Nat → M β} {R : Except Flt (β × PS)} (HR : R = (jF ts (f + 1) l >>= k) st) :
 R = (if ((aB ts 0 st).kind == 2) = true then (jV ts 81 >>= fun i => cA l >>= fun _ => jF ts f (l ++ [i]) >>= k) st else k l st) := by
 rw [HR, show jF ts (f + 1) l = (mJ ts 0 >>= fun t => if (t.kind == 2) = true then (jV ts 81 >>= fun i => cA l >>= fun _ => jF ts f (l ++ [i])) else pure l) from rfl];rw [aA];show ((if ((aB ts 0 st).kind == 2) = true then (jV ts 81 >>= fun i => cA l >>= fun _ => jF ts f (l ++ [i])) else pure l) >>= k) st = _;cases (aB ts 0 st).kind == 2
 · rfl
 · simp only [↓reduceIte];refine (aA _ _ k st).trans (aH fun i s1 => ?_);exact aA _ _ k s1
theorem Jj {p : Prop} (h : p := by
 rintro x6 st6 v6 w6 U6 rfl HF6 HC HR;replace HS := κ (HS.step HF6);replace HB := κ (HB.step HF6);clear hl;go_wp2_with fail;refine hK _ _ (by exact ⟨HB.cell 0 _ rfl, HS.cell 0 _ rfl, HS.cell 1 _ rfl⟩) fun hH2 => ?_;clear hK K hH1;(try simp only [z0, zz])
 refine tk 7 hH2 ?_;(try simp only [z0, zz])
 refine ψk (by kernel_rfl) ?_ _;go_wp2_with fail;go_ret;exact aG.good HR rfl rfl HC.p HC.f
 ) : p := h
theorem KE (HT : Tks w0 tv ts) (HLow : bW w0 tv ts b L) (hp : TSt w0 tv ts b qs w U st) (hne : Fq ts L st ≠ .error .out) :
 Calls Tryz.prog 61 #[bL b] w (aG w0 tv ts b qs idR (Fq ts L st) w U) := by
 obtain ⟨R, hR⟩ : ∃ R, Fq ts L st = R := ⟨_, rfl⟩;rw [hR] at hne ⊢;have HNE := κ hne;unfold Fq at hR;have HR := κ hR.symm;have HC := κ (Cur.start hp);clear hR hne hp;go_enter Tryz.func61, Tryz.ntmps61;have hb_ := Loc.new HC #[bL b] 72;have hc_ := HC.alloc (.cells #[bL b] 72);have HB := κ hb_;have HC := κ hc_;clear hb_ hc_;replace HR := κ (aK (g := ak ts) HR);have p0 := HB.cell 0 _ rfl;go_wp2_with fail;refine (aY HT HC.p).mono ?_;rintro e w1 ⟨rfl, hb1⟩;replace HC := κ (HC.below hb1);replace HB := κ (HB.below hb1);have HB1 := κ hb1;clear hb1;clear HB1 p0;obtain ⟨wz, hwz⟩ : ∃ wz, w1 = wz := ⟨_, rfl⟩;rw [hwz] at HC HB ⊢;clear hwz w1;unfold dc;have HS := κ (Loc.new HC #[.int .i64 (ak ts st).1, .int .i64 (ak ts st).2] 109);have hc_ := HC.alloc (.cells #[.int .i64 (ak ts st).1, .int .i64 (ak ts st).2] 109);replace HB := κ (HB.alloc (.cells #[.int .i64 (ak ts st).1, .int .i64 (ak ts st).2] 109));have HC := κ hc_;clear hc_;have p0 := HB.cell 0 _ rfl;replace HR := κ (aK (g := aB ts 0) HR);go_wp2_with fail;clear p0;refine (aU HT HC.p 0 (by omega)).mono ?_;rintro e w2 ⟨⟨pv, rfl, hs⟩, hb2⟩;have hc2 := HC.below hb2;replace HS := κ (HS.below hb2);replace HB := κ (HB.below hb2);clear HC hb2;have HC := κ hc2;clear hc2;obtain ⟨t, ht⟩ : ∃ t, aB ts 0 st = t := ⟨_, rfl⟩;rw [ht] at hs ⊢;(try rw [ht] at HR)
 have HTS := κ (ht ▸ bC HT 0 st);have HTT := κ ht;clear ht;have HP := κ hs;obtain ⟨a, cap, rfl, -⟩ := hs;unfold tkV;have HSZT := κ (show t.text.length ≤ 17592186044416 from HTT.out ▸ Gq HT 0 st);have hfl : ∀ w, (Instr.field 32 (.agg #[.int .i64 t.kind, str t.text, .slice a t.path.length cap, .int .i64 t.line, .int .i64 t.col]) 1).run Tryz.prog w = .ok (str t.text) w := fun _ => by kernel_rfl
 have p0 := HB.cell 0 _ rfl;have p1 := fun x => (HB.setb HC (i := 1) x).cell 0 _ rfl;obtain ⟨⟨nv_, dv_, c1_⟩, hf1_, hpos_, hlen_⟩ := HC.ats HT;go_upto_region 4 with fail;clear c1_ hf1_ hpos_ hlen_;clear p0 p1 hfl;have hb_ := HB.setb HC (i := 1) (.int .i64 ((st.pos : Int) + 1));have hs_ := HS.setb HC (i := 1) (.int .i64 ((st.pos : Int) + 1));have HB := κ hb_;have HS := κ hs_;clear hb_ hs_;have hk_ := HC.skip (1) HR HNE;have HC := κ hk_.1;have HR := κ hk_.2;clear hk_;cases hv0 : (t.text == [118, 97, 108]);rotate_left
 · replace HR := HR.out;simp only [hv0, ξh, ↓reduceIte] at HR;replace HR := κ HR;have p0 := HB.cell 0 _ rfl;go_wp2_with fail;clear p0;refine (aI HT HC.p [114, 101, 99]).mono (HC.cl HR ?_);rintro x1 st1 v1 w1 U1 rfl HF1 HC HR;replace HS := κ (HS.step HF1);replace HB := κ (HB.step HF1);cases x1
   · first | replace HR := κ (spt HR.out) | replace HR := κ (spf HR.out)
     have p0 := HB.cell 0 _ rfl;go_wp2_with fail;have s0 := HS.cell 0 _ rfl;have s1 := HS.cell 1 _ rfl;have HSZ2 := κ HC.size;refine ψn (S := (fun W => W.cell? ⟨w.heap.size, 0, none⟩ = some (bL b) ∧ W.cell? ⟨wz.heap.size, 0, none⟩ = some (.int .i64 (ak ts st).1) ∧ W.cell? ⟨wz.heap.size, 1, none⟩ = some (.int .i64 (ak ts st).2))) (by kernel_rfl) (by exact ⟨p0, s0, s1⟩) (fun hH0 => ?_);refine tk 0 hH0 ?_;refine tk 1 hH0 ?_;refine tk 2 hH0 ?_;refine tk 3 hH0 ?_;refine tk 4 hH0 ?_;(try simp only [z0, zz])
     refine rk 5 fun K hK => ?_;(try simp only [zz])
     go_simp;refine (jB HT 97 (bindM ts L) (fun _ _ => rfl) (fun _ _ _ _ hp hne => BJ HT HLow hp hne) HC.p.drew (aC HR HNE)).mono (HC.drew.cl HR ?_);rintro x5 st5 v5 w5 U5 hv5 HF5 HC HR;replace HS := κ (HS.drew.step HF5);replace HB := κ (HB.drew.step HF5);go_wp2_with fail;refine hK _ _ (by exact ⟨HB.cell 0 _ rfl, HS.cell 0 _ rfl, HS.cell 1 _ rfl⟩) fun hH1 => ?_;clear hK K hH0;(try simp only [z0, zz])
     refine rk 6 fun K hK => ?_;(try simp only [zz])
     go_simp;obtain ⟨hl5, hll5⟩ := hv5.1;replace HS := κ (HS.giveL (r := 4) hl5 (by decide));replace HB := κ (HB.giveL (r := 4) hl5 (by decide));replace HR := κ (aQ HR);have hl := HC.own (hl5.low HSZ2);refine (aS hl.1.p (ak ts st) 51 [] x5 _ hl.2.1 hl.2.2 (by omega) (aC HR HNE)).mono (hl.1.cl HR ?_);exact Jj
   · first | replace HR := κ (spt HR.out) | replace HR := κ (spf HR.out)
     have p0 := HB.cell 0 _ rfl;go_wp2_with fail;have s0 := HS.cell 0 _ rfl;have s1 := HS.cell 1 _ rfl;have HSZ2 := κ HC.size;refine ψn (S := (fun W => W.cell? ⟨w.heap.size, 0, none⟩ = some (bL b) ∧ W.cell? ⟨wz.heap.size, 0, none⟩ = some (.int .i64 (ak ts st).1) ∧ W.cell? ⟨wz.heap.size, 1, none⟩ = some (.int .i64 (ak ts st).2))) (by kernel_rfl) (by exact ⟨p0, s0, s1⟩) (fun hH0 => ?_);refine tk 0 hH0 ?_;refine tk 1 hH0 ?_;refine tk 2 hH0 ?_;refine tk 3 hH0 ?_;refine tk 4 hH0 ?_;(try simp only [z0, zz])
     refine rk 5 fun K hK => ?_;(try simp only [zz])
     go_simp;refine (jB HT 97 (bindM ts L) (fun _ _ => rfl) (fun _ _ _ _ hp hne => BJ HT HLow hp hne) HC.p.drew (aC HR HNE)).mono (HC.drew.cl HR ?_);rintro x5 st5 v5 w5 U5 hv5 HF5 HC HR;replace HS := κ (HS.drew.step HF5);replace HB := κ (HB.drew.step HF5);go_wp2_with fail;refine hK _ _ (by exact ⟨HB.cell 0 _ rfl, HS.cell 0 _ rfl, HS.cell 1 _ rfl⟩) fun hH1 => ?_;clear hK K hH0;(try simp only [z0, zz])
     refine rk 6 fun K hK => ?_;(try simp only [zz])
     go_simp;obtain ⟨hl5, hll5⟩ := hv5.1;replace HS := κ (HS.giveL (r := 4) hl5 (by decide));replace HB := κ (HB.giveL (r := 4) hl5 (by decide));replace HR := κ (aQ HR);have hl := HC.own (hl5.low HSZ2);refine (aS hl.1.p (ak ts st) 52 [] x5 _ hl.2.1 hl.2.2 (by omega) (aC HR HNE)).mono (hl.1.cl HR ?_);exact Jj
 replace HR := HR.out;simp only [hv0, ξh, ↓reduceIte] at HR;replace HR := κ HR;cases hv1 : (t.text == [102, 117, 110]);rotate_left
 · replace HR := HR.out;simp only [hv1, ξh, ↓reduceIte] at HR;replace HR := κ HR;have p0 := HB.cell 0 _ rfl;go_wp2_with fail;have s0 := HS.cell 0 _ rfl;have s1 := HS.cell 1 _ rfl;have HSZ2 := κ HC.size;refine ψn (S := (fun W => W.cell? ⟨w.heap.size, 0, none⟩ = some (bL b) ∧ W.cell? ⟨wz.heap.size, 0, none⟩ = some (.int .i64 (ak ts st).1) ∧ W.cell? ⟨wz.heap.size, 1, none⟩ = some (.int .i64 (ak ts st).2))) (by kernel_rfl) (by exact ⟨p0, s0, s1⟩) (fun hH0 => ?_);refine tk 0 hH0 ?_;refine tk 1 hH0 ?_;refine tk 2 hH0 ?_;refine tk 3 hH0 ?_;refine tk 4 hH0 ?_;(try simp only [z0, zz])
   refine rk 5 fun K hK => ?_;(try simp only [zz])
   go_simp;refine (jB HT 98 (EZ ts L) (fun _ _ => rfl) (fun _ _ _ _ hp hne => Ke HT HLow hp hne) HC.p.drew (aC HR HNE)).mono (HC.drew.cl HR ?_);rintro x5 st5 v5 w5 U5 hv5 HF5 HC HR;replace HS := κ (HS.drew.step HF5);replace HB := κ (HB.drew.step HF5);go_wp2_with fail;refine hK _ _ (by exact ⟨HB.cell 0 _ rfl, HS.cell 0 _ rfl, HS.cell 1 _ rfl⟩) fun hH1 => ?_;clear hK K hH0;(try simp only [z0, zz])
   refine rk 6 fun K hK => ?_;(try simp only [zz])
   go_simp;obtain ⟨hl5, hll5⟩ := hv5.1;replace HS := κ (HS.giveL (r := 4) hl5 (by decide));replace HB := κ (HB.giveL (r := 4) hl5 (by decide));replace HR := κ (aQ HR);have hl := HC.own (hl5.low HSZ2);refine (aS hl.1.p (ak ts st) 54 [] x5 _ hl.2.1 hl.2.2 (by omega) (aC HR HNE)).mono (hl.1.cl HR ?_);exact Jj
 replace HR := HR.out;simp only [hv1, ξh, ↓reduceIte] at HR;replace HR := κ HR;cases hv2 : (t.text == [116, 121, 112, 101]);rotate_left
 · replace HR := HR.out;simp only [hv2, ξh, ↓reduceIte] at HR;replace HR := κ HR;have p0 := HB.cell 0 _ rfl;go_wp2_with fail;have s0 := HS.cell 0 _ rfl;have s1 := HS.cell 1 _ rfl;have HSZ2 := κ HC.size;refine ψn (S := (fun W => W.cell? ⟨w.heap.size, 0, none⟩ = some (bL b) ∧ W.cell? ⟨wz.heap.size, 0, none⟩ = some (.int .i64 (ak ts st).1) ∧ W.cell? ⟨wz.heap.size, 1, none⟩ = some (.int .i64 (ak ts st).2))) (by kernel_rfl) (by exact ⟨p0, s0, s1⟩) (fun hH0 => ?_);refine tk 0 hH0 ?_;refine tk 1 hH0 ?_;refine tk 2 hH0 ?_;refine tk 3 hH0 ?_;refine tk 4 hH0 ?_;(try simp only [z0, zz])
   refine rk 5 fun K hK => ?_;(try simp only [zz])
   go_simp;refine (jB HT 99 (gM ts L) (fun _ _ => rfl) (fun _ _ _ _ hp hne => tT HT HLow hp hne) HC.p.drew (aC HR HNE)).mono (HC.drew.cl HR ?_);rintro x5 st5 v5 w5 U5 hv5 HF5 HC HR;replace HS := κ (HS.drew.step HF5);replace HB := κ (HB.drew.step HF5);go_wp2_with fail;refine hK _ _ (by exact ⟨HB.cell 0 _ rfl, HS.cell 0 _ rfl, HS.cell 1 _ rfl⟩) fun hH1 => ?_;clear hK K hH0;(try simp only [z0, zz])
   refine rk 6 fun K hK => ?_;(try simp only [zz])
   go_simp;obtain ⟨hl5, hll5⟩ := hv5.1;replace HS := κ (HS.giveL (r := 4) hl5 (by decide));replace HB := κ (HB.giveL (r := 4) hl5 (by decide));replace HR := κ (aQ HR);have hl := HC.own (hl5.low HSZ2);refine (aS hl.1.p (ak ts st) 58 [] x5 _ hl.2.1 hl.2.2 (by omega) (aC HR HNE)).mono (hl.1.cl HR ?_);exact Jj
 replace HR := HR.out;simp only [hv2, ξh, ↓reduceIte] at HR;replace HR := κ HR;cases hv3 : (t.text == [100, 97, 116, 97, 116, 121, 112, 101]);rotate_left
 · replace HR := HR.out;simp only [hv3, ξh, ↓reduceIte] at HR;replace HR := κ HR;have p0 := HB.cell 0 _ rfl;have s0 := HS.cell 0 _ rfl;have s1 := HS.cell 1 _ rfl;go_wp2_with fail;clear p0 s0 s1;refine (yS HT HLow (ak ts st) HC.p (HR.out ▸ HNE.out)).mono (HC.ls HR.out ?_);rintro x9 v9 w9 U9 rfl HFIN;go_wp2_with fail;go_ret;exact HFIN
 replace HR := HR.out;simp only [hv3, ξh, ↓reduceIte] at HR;replace HR := κ HR;cases hv4 : (t.text == [101, 120, 99, 101, 112, 116, 105, 111, 110]);rotate_left
 · replace HR := HR.out;simp only [hv4, ξh, ↓reduceIte] at HR;replace HR := κ HR;have p0 := HB.cell 0 _ rfl;go_wp2_with fail;have s0 := HS.cell 0 _ rfl;have s1 := HS.cell 1 _ rfl;have HSZ2 := κ HC.size;refine ψn (S := (fun W => W.cell? ⟨w.heap.size, 0, none⟩ = some (bL b) ∧ W.cell? ⟨wz.heap.size, 0, none⟩ = some (.int .i64 (ak ts st).1) ∧ W.cell? ⟨wz.heap.size, 1, none⟩ = some (.int .i64 (ak ts st).2))) (by kernel_rfl) (by exact ⟨p0, s0, s1⟩) (fun hH0 => ?_);refine tk 0 hH0 ?_;refine tk 1 hH0 ?_;refine tk 2 hH0 ?_;refine tk 3 hH0 ?_;refine tk 4 hH0 ?_;(try simp only [z0, zz])
   refine rk 5 fun K hK => ?_;(try simp only [zz])
   go_simp;refine (jB HT 101 (jr ts L) (fun _ _ => rfl) (fun _ _ _ _ hp hne => CS HT HLow hp hne) HC.p.drew (aC HR HNE)).mono (HC.drew.cl HR ?_);rintro x5 st5 v5 w5 U5 hv5 HF5 HC HR;replace HS := κ (HS.drew.step HF5);replace HB := κ (HB.drew.step HF5);go_wp2_with fail;refine hK _ _ (by exact ⟨HB.cell 0 _ rfl, HS.cell 0 _ rfl, HS.cell 1 _ rfl⟩) fun hH1 => ?_;clear hK K hH0;(try simp only [z0, zz])
   refine rk 6 fun K hK => ?_;(try simp only [zz])
   go_simp;obtain ⟨hl5, hll5⟩ := hv5.1;replace HS := κ (HS.giveL (r := 4) hl5 (by decide));replace HB := κ (HB.giveL (r := 4) hl5 (by decide));replace HR := κ (aQ HR);have hl := HC.own (hl5.low HSZ2);refine (aS hl.1.p (ak ts st) 64 [] x5 _ hl.2.1 hl.2.2 (by omega) (aC HR HNE)).mono (hl.1.cl HR ?_);exact Jj
 replace HR := HR.out;simp only [hv4, ξh, ↓reduceIte] at HR;replace HR := κ HR;cases hv5 : (t.text == [108, 111, 99, 97, 108]);rotate_left
 · replace HR := HR.out;simp only [hv5, ξh, ↓reduceIte] at HR;replace HR := κ HR;have p0 := HB.cell 0 _ rfl;have s0 := HS.cell 0 _ rfl;have s1 := HS.cell 1 _ rfl;go_wp2_with fail;clear p0 s0 s1;refine (EP HT HLow (ak ts st) HC.p (HR.out ▸ HNE.out)).mono (HC.ls HR.out ?_);rintro x9 v9 w9 U9 rfl HFIN;go_wp2_with fail;go_ret;exact HFIN
 replace HR := HR.out;simp only [hv5, ξh, ↓reduceIte] at HR;replace HR := κ HR;cases hv6 : (t.text == [111, 112, 101, 110]);rotate_left
 · replace HR := HR.out;simp only [hv6, ξh, ↓reduceIte] at HR;replace HR := κ HR;have p0 := HB.cell 0 _ rfl;go_wp2_with fail;clear p0;refine (kK HT 81 HC.p (aC HR HNE)).mono (HC.cl HR ?_);rintro x5 st5 v5 w5 U5 rfl HF5 HC HR;replace HS := κ (HS.step HF5);replace HB := κ (HB.step HF5);have HL := κ (LR.lit (B := w.heap.size) (w := w5) (U := U5) [(x5 : Int)] #[.int .i64 x5] rfl HC.size (HC.p.zero (ξF _)) (by unfold maxLen; simp));have hc_ := HC.alloc (.cells #[.int .i64 x5] 3);have hs_ := HS.alloc (.cells #[.int .i64 x5] 3);have hb_ := HB.alloc (.cells #[.int .i64 x5] 3);have HC := κ hc_;have HS := κ hs_;have HB := κ hb_;clear hc_ hs_ hb_;go_wp2_with fail;go_loopg [5] (ts.length + 1) (fun g v wr => ∃ l st' U', LR w.heap.size wr U' v (l.map Int.ofNat) ∧ l.length ≤ 1099511627776 ∧ Loc wr U' wz.heap.size #[.int .i64 (ak ts st).1, .int .i64 (ak ts st).2] 109 ∧ Loc wr U' w.heap.size #[bL b] 72 ∧ Cur w0 tv ts b qs w U wr U' st' ∧ R = (jF ts g l >>= fun l => aV (ak ts st) 67 [] l) st')
   case atStart => exact ⟨[x5], st5, U5, HL.out, by simp, HS.out, HB.out, HC.out, HR.out⟩
   case round =>
    obtain ⟨l, st', U', hl, hll, hs, hb, hc, hr⟩ := hrel;cases gk with
    | zero => exact absurd hr HNE
    | succ fu =>
     have HR := κ hr;have HC := κ hc;have HL := κ hl;have HLL := κ hll;have HS := κ hs;have HB := κ hb;clear hr hc hl hll hs hb;replace HR := κ (zL HR);have p0 := HB.cell 0 _ rfl;go_wp2_with fail;clear p0;refine (aU HT HC.p 0 (by omega)).mono ?_;rintro e w6 ⟨⟨pv, rfl, hs⟩, hb6⟩;have hc6 := HC.below hb6;replace HS := κ (HS.below hb6);replace HB := κ (HB.below hb6);replace HL := κ (HL.below hb6);clear HC hb6;have HC := κ hc6;clear hc6;obtain ⟨t, ht⟩ : ∃ t, aB ts 0 st' = t := ⟨_, rfl⟩;rw [ht] at hs ⊢;(try rw [ht] at HR)
     have HTS := κ (ht ▸ bC HT 0 st');have HTT := κ ht;clear ht;have HP := κ hs;obtain ⟨a, cap, rfl, -⟩ := hs;unfold tkV;have hfl : ∀ w, (Instr.field 32 (.agg #[.int .i64 t.kind, str t.text, .slice a t.path.length cap, .int .i64 t.line, .int .i64 t.col]) 0).run Tryz.prog w = .ok (.int .i64 t.kind) w := fun _ => by kernel_rfl
     cases hk : (t.kind == 2)
     · replace HR := HR.out;simp only [hk, ξh, ↓reduceIte] at HR;replace HR := κ HR;have p0 := HB.cell 0 _ rfl;have s0 := HS.cell 0 _ rfl;have s1 := HS.cell 1 _ rfl;go_wp2_with fail;clear p0 s0 s1;have hl := HC.own HL;have hll := HLL.out;refine (aS hl.1.p (ak ts st) 67 [] l _ hl.2.1 hl.2.2 (by omega) (HR.out ▸ HNE.out)).mono (hl.1.ls HR.out ?_);rintro x9 v9 w9 U9 rfl HFIN;go_wp2_with fail;go_ret;exact HFIN
     · replace HR := HR.out;simp only [hk, ξh, ↓reduceIte] at HR;replace HR := κ HR;have p0 := HB.cell 0 _ rfl;go_wp2_with fail;clear p0 hfl hk;refine (kK HT 81 HC.p (aC HR HNE)).mono (HC.cl HR ?_);rintro x3 st3 v3 w3 U3 rfl HF3 HC HR;replace HS := κ (HS.step HF3);replace HB := κ (HB.step HF3);replace HL := κ (HL.step HF3);have hll := HLL.out;have hroom_ := bD HR HNE;have hroom := hroom_.1;replace HR := κ (hroom_.2);clear hroom_;obtain ⟨j0, hj, hj0, hj1, hj2⟩ := info_parts Tryz.infoInt;have HJ := κ (ξc hj (ξc hj0 (ξc hj1 hj2)));clear hj hj0 hj1 hj2;have hbs := HC.size;go_wp2_with (first | (at_builtin; refine ψm _ rfl (.tmp 83) (.tmp 86) 39 rfl (w.heap.size) 3 j0 (.int .i64 0) 1 8 Tryz.underlying39 HJ.out.1 HJ.out.2.1 HJ.out.2.2.1 HJ.out.2.2.2 rfl (by decide) _ (l.map Int.ofNat).length _ rfl (HL.out.1.alloc _) ⟨w3.heap.size, 0, none⟩ 1 1 [.int .i64 x3] rfl rfl (ξW (ψe _ _)) (bP _) (by decide) (by first | (simp [maxLen]; done) | (simp; unfold maxLen; omega)) (by first | (simp; done) | (simp; omega)) (by first | (simp; done) | (simp; omega)) _ rfl ?_; intro g2 cap2 w5 hrow2 hgr2 hgb2 hgl2));have hpu := (HC.alloc _).push (n := l.length + 1) (cap := cap2) (fun k e => (HL.lt k e).1) HL.out.2 (by omega) hgr2 hgb2;have hl5 : LR (w.heap.size) w5 U3 (.slice (some ⟨g2, 0, none⟩) (l.length + 1) cap2) ((l ++ [x3]).map Int.ofNat) := ⟨by simpa using hrow2, hpu.2⟩;replace HS := κ ((HS.alloc _).besideT (HL.step ((Fr.refl w3 U3).alloc _)) (by decide) hgr2);replace HB := κ ((HB.alloc _).besideT (HL.step ((Fr.refl w3 U3).alloc _)) (by decide) hgr2);clear HC HL hrow2 hgr2 hgb2 hgl2 hbs HJ;have HC := κ hpu.1;have HL := κ hl5;clear hpu hl5;go_roundg fu
       case measure => omega
       case rel => exact ⟨l ++ [x3], st3, U3, HL.out, by simp; omega, HS.out, HB.out, HC.out, HR.out⟩
 replace HR := HR.out;simp only [hv6, ξh, ↓reduceIte] at HR;replace HR := κ HR;cases hv7 : (t.text == [115, 116, 114, 117, 99, 116, 117, 114, 101]);rotate_left
 · replace HR := HR.out;simp only [hv7, ξh, ↓reduceIte] at HR;replace HR := κ HR;have p0 := HB.cell 0 _ rfl;go_wp2_with fail;have s0 := HS.cell 0 _ rfl;have s1 := HS.cell 1 _ rfl;have HSZ2 := κ HC.size;refine ψn (S := (fun W => W.cell? ⟨w.heap.size, 0, none⟩ = some (bL b) ∧ W.cell? ⟨wz.heap.size, 0, none⟩ = some (.int .i64 (ak ts st).1) ∧ W.cell? ⟨wz.heap.size, 1, none⟩ = some (.int .i64 (ak ts st).2))) (by kernel_rfl) (by exact ⟨p0, s0, s1⟩) (fun hH0 => ?_);refine tk 0 hH0 ?_;refine tk 1 hH0 ?_;refine tk 2 hH0 ?_;refine tk 3 hH0 ?_;refine tk 4 hH0 ?_;(try simp only [z0, zz])
   refine rk 5 fun K hK => ?_;(try simp only [zz])
   go_simp;refine (jB HT 104 (fZ ts L) (fun _ _ => rfl) (fun _ _ _ _ hp hne => zw HT HLow hp hne) HC.p.drew (aC HR HNE)).mono (HC.drew.cl HR ?_);rintro x5 st5 v5 w5 U5 hv5 HF5 HC HR;replace HS := κ (HS.drew.step HF5);replace HB := κ (HB.drew.step HF5);go_wp2_with fail;refine hK _ _ (by exact ⟨HB.cell 0 _ rfl, HS.cell 0 _ rfl, HS.cell 1 _ rfl⟩) fun hH1 => ?_;clear hK K hH0;(try simp only [z0, zz])
   refine rk 6 fun K hK => ?_;(try simp only [zz])
   go_simp;obtain ⟨hl5, hll5⟩ := hv5.1;replace HS := κ (HS.giveL (r := 4) hl5 (by decide));replace HB := κ (HB.giveL (r := 4) hl5 (by decide));replace HR := κ (aQ HR);have hl := HC.own (hl5.low HSZ2);refine (aS hl.1.p (ak ts st) 69 [] x5 _ hl.2.1 hl.2.2 (by omega) (aC HR HNE)).mono (hl.1.cl HR ?_);exact Jj
 replace HR := HR.out;simp only [hv7, ξh, ↓reduceIte] at HR;replace HR := κ HR;cases hv8 : (t.text == [115, 105, 103, 110, 97, 116, 117, 114, 101]);rotate_left
 · replace HR := HR.out;simp only [hv8, ξh, ↓reduceIte] at HR;replace HR := κ HR;have p0 := HB.cell 0 _ rfl;go_wp2_with fail;have s0 := HS.cell 0 _ rfl;have s1 := HS.cell 1 _ rfl;have HSZ2 := κ HC.size;refine ψn (S := (fun W => W.cell? ⟨w.heap.size, 0, none⟩ = some (bL b) ∧ W.cell? ⟨wz.heap.size, 0, none⟩ = some (.int .i64 (ak ts st).1) ∧ W.cell? ⟨wz.heap.size, 1, none⟩ = some (.int .i64 (ak ts st).2))) (by kernel_rfl) (by exact ⟨p0, s0, s1⟩) (fun hH0 => ?_);refine tk 0 hH0 ?_;refine tk 1 hH0 ?_;refine tk 2 hH0 ?_;refine tk 3 hH0 ?_;(try simp only [z0, zz])
   refine rk 4 fun K hK => ?_;(try simp only [zz])
   go_simp;refine (wU HT 105 (fO ts L [61]) _ (fun _ _ => rfl) (Ia HT HLow _) HB.drew HC.p.drew (aC HR HNE)).mono (HC.drew.cl HR ?_);rintro x5 st5 v5 w5 U5 hv5 HF5 HC HR;replace HS := κ (HS.drew.step HF5);replace HB := κ (HB.drew.step HF5);go_wp2_with fail;refine hK _ _ (by exact ⟨HB.cell 0 _ rfl, HS.cell 0 _ rfl, HS.cell 1 _ rfl⟩) fun hH1 => ?_;clear hK K hH0;(try simp only [z0, zz])
   refine rk 5 fun K hK => ?_;(try simp only [zz])
   go_simp;obtain ⟨hl5, hll5⟩ := hv5.1;replace HS := κ (HS.giveL (r := 4) hl5 (by decide));replace HB := κ (HB.giveL (r := 4) hl5 (by decide));replace HR := κ (aQ HR);have hl := HC.own (hl5.low HSZ2);refine (aS hl.1.p (ak ts st) 71 [] x5 _ hl.2.1 hl.2.2 (by omega) (aC HR HNE)).mono (hl.1.cl HR ?_);rintro x6 st6 v6 w6 U6 rfl HF6 HC HR;replace HS := κ (HS.step HF6);replace HB := κ (HB.step HF6);clear hl;go_wp2_with fail;refine hK _ _ (by exact ⟨HB.cell 0 _ rfl, HS.cell 0 _ rfl, HS.cell 1 _ rfl⟩) fun hH2 => ?_;clear hK K hH1;(try simp only [z0, zz])
   refine tk 6 hH2 ?_;(try simp only [z0, zz])
   refine ψk (by kernel_rfl) ?_ _;go_wp2_with fail;go_ret;exact aG.good HR rfl rfl HC.p HC.f
 replace HR := HR.out;simp only [hv8, ξh, ↓reduceIte] at HR;replace HR := κ HR;cases hv9 : (t.text == [102, 117, 110, 99, 116, 111, 114]);rotate_left
 · replace HR := HR.out;simp only [hv9, ξh, ↓reduceIte] at HR;replace HR := κ HR;have p0 := HB.cell 0 _ rfl;go_wp2_with fail;have s0 := HS.cell 0 _ rfl;have s1 := HS.cell 1 _ rfl;have HSZ2 := κ HC.size;refine ψn (S := (fun W => W.cell? ⟨w.heap.size, 0, none⟩ = some (bL b) ∧ W.cell? ⟨wz.heap.size, 0, none⟩ = some (.int .i64 (ak ts st).1) ∧ W.cell? ⟨wz.heap.size, 1, none⟩ = some (.int .i64 (ak ts st).2))) (by kernel_rfl) (by exact ⟨p0, s0, s1⟩) (fun hH0 => ?_);refine tk 0 hH0 ?_;refine tk 1 hH0 ?_;refine tk 2 hH0 ?_;refine tk 3 hH0 ?_;refine tk 4 hH0 ?_;(try simp only [z0, zz])
   refine rk 5 fun K hK => ?_;(try simp only [zz])
   go_simp;refine (jB HT 107 (gA ts L) (fun _ _ => rfl) (fun _ _ _ _ hp hne => zU HT HLow hp hne) HC.p.drew (aC HR HNE)).mono (HC.drew.cl HR ?_);rintro x5 st5 v5 w5 U5 hv5 HF5 HC HR;replace HS := κ (HS.drew.step HF5);replace HB := κ (HB.drew.step HF5);go_wp2_with fail;refine hK _ _ (by exact ⟨HB.cell 0 _ rfl, HS.cell 0 _ rfl, HS.cell 1 _ rfl⟩) fun hH1 => ?_;clear hK K hH0;(try simp only [z0, zz])
   refine rk 6 fun K hK => ?_;(try simp only [zz])
   go_simp;obtain ⟨hl5, hll5⟩ := hv5.1;replace HS := κ (HS.giveL (r := 4) hl5 (by decide));replace HB := κ (HB.giveL (r := 4) hl5 (by decide));replace HR := κ (aQ HR);have hl := HC.own (hl5.low HSZ2);refine (aS hl.1.p (ak ts st) 73 [] x5 _ hl.2.1 hl.2.2 (by omega) (aC HR HNE)).mono (hl.1.cl HR ?_);exact Jj
 replace HR := HR.out;simp only [hv9, ξh, ↓reduceIte] at HR;replace HR := κ HR;have p0 := HB.cell 0 _ rfl;have s0 := HS.cell 0 _ rfl;have s1 := HS.cell 1 _ rfl;go_wp2_with fail;clear p0 s0 s1;refine (wO HT (ak ts st) t.text HSZT.out HC.p (HR.out ▸ HNE.out)).mono (HC.ls HR.out ?_);rintro x9 v9 w9 U9 rfl HFIN;go_wp2_with fail;go_ret;exact HFIN
end
section
variable {w0 : World} {tv : Value} {ts : List Tok} {b : Nat} {qs : List Nat} {w : World} {U : Rl} {st : PS} {L : Low}
theorem Bu (HT : Tks w0 tv ts) (HLow : bW w0 tv ts b L) (hp : TSt w0 tv ts b qs w U st) (hne : mO ts L st ≠ .error .out) :
 Calls Tryz.prog 31 #[bL b] w (aG w0 tv ts b qs idR (mO ts L st) w U) := by
 obtain ⟨R, hR⟩ : ∃ R, mO ts L st = R := ⟨_, rfl⟩;rw [hR] at hne ⊢;have HNE := κ hne;unfold mO at hR;have HR := κ hR.symm;have HC := κ (Cur.start hp);clear hR hne hp;go_enter Tryz.func31, Tryz.ntmps31;go_wp2_with fail;replace HR := κ (aK (g := ak ts) HR);refine (aY HT HC.p).mono ?_;rintro e w1 ⟨rfl, hb1⟩;replace HC := κ (HC.below hb1);have HB1 := κ hb1;clear hb1;unfold dc;go_wp2_with fail;have hs_ := Loc.new HC #[.int .i64 (ak ts st).1, .int .i64 (ak ts st).2] 109;have hc2 := HC.alloc (.cells #[.int .i64 (ak ts st).1, .int .i64 (ak ts st).2] 109);have HW1 := κ HC.size;have HS := κ hs_;have HC := κ hc2;clear hc2 hs_;go_loopg [4] (ts.length + 1) (fun g v wr => ∃ l st' U', LR (w1.heap.size + 1) wr U' v (l.map Int.ofNat) ∧ l.length ≤ 1099511627776 ∧ Loc wr U' w1.heap.size #[.int .i64 (ak ts st).1, .int .i64 (ak ts st).2] 109 ∧ Cur w0 tv ts b qs w U wr U' st' ∧ R = kW ts L (ak ts st) g l st')
 case atStart => exact ⟨[], st, U, LR.nil _ _ _, by simp, HS.out, HC.out, HR.out⟩
 case round =>
  obtain ⟨l, st', U', hl, hll, hs, hc, hr⟩ := hrel;cases gk with
  | zero => exact absurd hr HNE
  | succ fu =>
   unfold kW at hr;have HR := κ hr;have HC := κ hc;have HL := κ hl;have HS := κ hs;have HLL := κ hll;clear hr hc hl hs hll;go_wp2_with fail;refine (aI HT HC.p [59]).mono (HC.cl HR ?_);rintro x2 st2 v2 w2 U2 rfl HF2 HC HR;replace HL := κ (HL.step HF2);replace HS := κ (HS.step HF2);cases x2;rotate_left
   · first | replace HR := κ (spt HR.out) | replace HR := κ (spf HR.out)
     go_wp2_with fail;go_roundg fu
     case measure => omega
     case rel => exact ⟨l, st2, U2, HL, HLL, HS, HC, HR⟩
   first | replace HR := κ (spt HR.out) | replace HR := κ (spf HR.out)
   go_wp2_with fail;replace HR := κ (aK (g := aB ts 0) HR);refine (aU HT HC.p 0 (by omega)).mono ?_;rintro e w3 ⟨⟨pv, rfl, hs⟩, hb3⟩;obtain ⟨t, ht⟩ : ∃ t, aB ts 0 st2 = t := ⟨_, rfl⟩;rw [ht] at HR hs ⊢;clear ht;have hc3 := HC.below hb3;have hl3 := HL.below hb3;have hs3 := HS.below hb3;clear HC HL HS hb3;have HC := κ hc3;have HL := κ hl3;have HS := κ hs3;have HP := κ hs;clear hc3 hl3 hs3 hs;go_wp2_with fail;refine (vq t pv _ HP).mono ?_;rintro e w4 ⟨rfl, hb4⟩;replace HC := κ (HC.below hb4);replace HL := κ (HL.below hb4);replace HS := κ (HS.below hb4);have HB4 := κ hb4;clear hb4;obtain ⟨B, hB⟩ : ∃ B, eB t = B := ⟨_, rfl⟩;rw [hB] at HR ⊢;clear hB HB4;cases B
   · first | replace HR := κ (spt HR.out) | replace HR := κ (spf HR.out)
     have s0 := HS.cell 0 _ rfl;have s1 := HS.cell 1 _ rfl;go_wp2_with fail;have hl := HC.own (HL.low (by have := HW1.out; omega));have hll := HLL.out;refine (aS hl.1.p (ak ts st) 50 [] l _ hl.2.1 hl.2.2 (by omega) (HR.out ▸ HNE.out)).mono (hl.1.ls HR.out ?_);rintro x9 v9 w9 U9 rfl HFIN;go_wp2_with fail;go_ret;exact HFIN
   · first | replace HR := κ (spt HR.out) | replace HR := κ (spf HR.out)
     go_wp2_with fail;refine (jv HT HC.p (aC HR HNE)).mono (HC.cl HR ?_);rintro x5 st5 v5 w5 U5 rfl HF5 HC HR;replace HL := κ (HL.step HF5);replace HS := κ (HS.step HF5);go_wp2_with fail;refine (KE HT HLow HC.p (aC HR HNE)).mono (HC.cl HR ?_);rintro x6 st6 v6 w6 U6 rfl HF6 HC HR;replace HL := κ (HL.step HF6);replace HS := κ (HS.step HF6);have hroom_ := bD HR HNE;have hroom := hroom_.1;replace HR := κ (hroom_.2);clear hroom_;obtain ⟨j0, hj, hj0, hj1, hj2⟩ := info_parts Tryz.infoInt;have HJ := κ (ξc hj (ξc hj0 (ξc hj1 hj2)));clear hj hj0 hj1 hj2;have hbs := HS.lt;go_wp2_with (first | (at_builtin; refine ψm _ rfl (.tmp 20) (.tmp 23) 39 rfl (w1.heap.size + 1) 3 j0 (.int .i64 0) 1 8 Tryz.underlying39 HJ.out.1 HJ.out.2.1 HJ.out.2.2.1 HJ.out.2.2.2 rfl (by decide) _ (l.map Int.ofNat).length _ rfl (HL.out.1.alloc _) ⟨w6.heap.size, 0, none⟩ 1 1 [.int .i64 x6] rfl rfl (ξW (ψe _ _)) (bP _) (by decide) (by simp; unfold maxLen; omega) (by simp; omega) (by simp; omega) _ rfl ?_; intro g2 cap2 w7 hrow2 hgr2 hgb2 hgl2));have hw1 := HW1.out;have hpu := (HC.alloc _).push (n := l.length + 1) (cap := cap2) (fun k e => (HL.lt k e).1) HL.out.2 (by omega) hgr2 hgb2;have hs7 := (HS.alloc _).beside (HL.step ((Fr.refl w6 U6).alloc _)) (ξJ _) hgr2;have hl7 : LR (w1.heap.size + 1) w7 U6 (.slice (some ⟨g2, 0, none⟩) (l.length + 1) cap2) ((l ++ [x6]).map Int.ofNat) := ⟨by simpa using hrow2, hpu.2⟩;clear HC HL HS hrow2 hgr2 hgb2 hgl2 hbs hw1 HJ;have HC := κ hpu.1;have HL := κ hl7;have HS := κ hs7;clear hpu hl7 hs7;refine (ij HC.p (aC HR HNE)).mono (HC.cl HR ?_);rintro x8 st8 v8 w8 U8 rfl HF8 HC HR;replace HL := κ (HL.step HF8);replace HS := κ (HS.step HF8);go_wp2_with fail;go_roundg fu
     case measure => omega
     case rel => exact ⟨l ++ [x6], st8, U8, HL.out, by simp; omega, HS.out, HC.out, HR.out⟩
section
variable {w0 : World} {tv : Value} {ts : List Tok} {b : Nat} {L : Low}
theorem lI (HT : Tks w0 tv ts) : ∀ n, bW w0 tv ts b (iV ts n)
 | 0 => ⟨fun _ h => absurd rfl h, fun _ h => absurd rfl h, fun _ h => absurd rfl h, fun _ h => absurd rfl h, fun _ h => absurd rfl h, fun _ h => absurd rfl h⟩
 | n + 1 => ⟨fun hp hne => Mq HT (lI HT n) _ _ _ _ hp hne, fun hp hne => Ma HT (lI HT n) _ _ _ _ hp hne, fun hp hne => MK HT (lI HT n) _ _ _ _ hp hne, fun hp hne => Bu HT (lI HT n) hp hne,
  fun hp hne => Gw HT (lI HT n) (fun _ _ _ _ hp hne => FI HT (lI HT n) hp hne) hp hne, fun hp hne => Jd HT (lI HT n) hp hne⟩
end
end
theorem NmS.lt {w : World} {m : Nat} {nm : Names} (h : NmS w m nm) : m < w.heap.size := by
 obtain ⟨D, ho, _⟩ := h;exact ho.lt
theorem NmS.alloc {w : World} {m : Nat} {nm : Names} (h : NmS w m nm) (o : Obj) : NmS (w.alloc o) m nm := h.keep (ξe w o m h.lt)
theorem QW {p : Prop} (h : p := by
 go_roundg fu
 case measure => omega
 case rel => exact ⟨1, _, rfl, rfl, by omega, by omega, by simpa using hn9, (hg9.block _ (ξd.1 hq).1 (by simp; omega)).trans hq, (hg9.block _ (ξd.1 hs).1 (by simp; omega)).trans hs, hsl, hb.grown hg9 hb.size (fun k e => by cases e; exact ξF _)⟩
 ) : p := h
theorem QV {p : Prop} (h : p := by
 go_roundg fu
 case measure => omega
 case rel => exact ⟨2, _, rfl, rfl, by omega, by omega, by simpa using hn9, (hg9.block _ (ξd.1 hq).1 (by simp; omega)).trans hq, (hg9.block _ (ξd.1 hs).1 (by simp; omega)).trans hs, hsl, hb.grown hg9 hb.size (fun k e => by cases e; exact ξF _)⟩
 ) : p := h
theorem QU {p : Prop} (h : p := by
 go_roundg fu
 case measure => omega
 case rel => exact ⟨3, _, rfl, rfl, by omega, by omega, by simpa using hn9, (hg9.block _ (ξd.1 hq).1 (by simp; omega)).trans hq, (hg9.block _ (ξd.1 hs).1 (by simp; omega)).trans hs, hsl, hb.grown hg9 hb.size (fun k e => by cases e; exact ξF _)⟩
 ) : p := h
theorem Rt {p : Prop} (h : p := by
 go_roundg fu
 case measure => omega
 case rel => exact ⟨4, _, rfl, rfl, by omega, by omega, by simpa using hn9, (hg9.block _ (ξd.1 hq).1 (by simp; omega)).trans hq, (hg9.block _ (ξd.1 hs).1 (by simp; omega)).trans hs, hsl, hb.grown hg9 hb.size (fun k e => by cases e; exact ξF _)⟩
 ) : p := h
theorem FD (w : World) :
 Calls Tryz.prog 30 #[] w fun e w' => ∃ q m, e = .returned (.pointer (some ⟨q, 0, none⟩)) ∧ w.heap.size ≤ m ∧ m < q ∧ q < w'.heap.size ∧ w'.heap[q]? = some (.cells #[.pointer none, .map (some m)] 107 (0, 0)) ∧ NmS w' m uV ∧ Below w.heap.size w w' := by
 have hn := NmS.made w;have hb : Below w.heap.size w (w.alloc (.map #[] 0)) := bQ (ξf _ _) _;have hmk : (Instr.makeMap 104 none).run Tryz.prog w = .ok (.map (some w.heap.size)) (w.alloc (.map #[] 0)) := rfl;go_enter Tryz.func30, Tryz.ntmps30;go_wp2_with (first
  | (refine bH rfl _ _ _ (.inl rfl) _ _ rfl hn (by simp [maxLen]) [111] ⟨3, false, true⟩ rfl (by simp [maxLen]) rfl ?_; intro w1 hn1 hg1; have hb1 := hb.grown hg1 hb.size (fun k e => by cases e; exact ξF _))
  | (refine bH rfl _ _ _ (.inl rfl) _ _ rfl hn1 (by simp [maxLen]) [58, 61] ⟨3, false, true⟩ rfl (by simp [maxLen]) rfl ?_; intro w2 hn2 hg2; have hb2 := hb1.grown hg2 hb1.size (fun k e => by cases e; exact ξF _))
  | (refine bH rfl _ _ _ (.inl rfl) _ _ rfl hn2 (by simp [maxLen]) [98, 101, 102, 111, 114, 101] ⟨0, false, true⟩ rfl (by simp [maxLen]) rfl ?_; intro w3 hn3 hg3; have hb3 := hb2.grown hg3 hb2.size (fun k e => by cases e; exact ξF _))
  | (refine bH rfl _ _ _ (.inl rfl) _ _ rfl hn3 (by simp [maxLen]) [58, 58] ⟨5, true, true⟩ rfl (by simp [maxLen]) rfl ?_; intro w4 hn4 hg4; have hb4 := hb3.grown hg4 hb3.size (fun k e => by cases e; exact ξF _))
  | (refine bH rfl _ _ _ (.inl rfl) _ _ rfl hn4 (by simp [maxLen]) [64] ⟨5, true, true⟩ rfl (by simp [maxLen]) rfl ?_; intro w5 hn5 hg5; have hb5 := hb4.grown hg5 hb4.size (fun k e => by cases e; exact ξF _)))
 have hlt5 := hn5.lt;have hn0 := (hn5.alloc (.cells #[.pointer none, .map (some w.heap.size)] 107)).alloc (.cells #[str [42], str [47], str [100, 105, 118], str [109, 111, 100]] 9);have hq0 := (ξe (w5.alloc (.cells #[.pointer none, .map (some w.heap.size)] 107)) (.cells #[str [42], str [47], str [100, 105, 118], str [109, 111, 100]] 9) w5.heap.size (by simp)).trans (ψe w5 _);have hs0 := ψe (w5.alloc (.cells #[.pointer none, .map (some w.heap.size)] 107)) (.cells #[str [42], str [47], str [100, 105, 118], str [109, 111, 100]] 9);rw [show (w5.alloc (.cells #[.pointer none, .map (some w.heap.size)] 107)).heap.size = w5.heap.size + 1 from by simp] at hs0;have hb0 := bQ (bQ hb5 (.cells #[.pointer none, .map (some w.heap.size)] 107)) (.cells #[str [42], str [47], str [100, 105, 118], str [109, 111, 100]] 9);go_loopg [19] (5) (fun g v wr => ∃ (i : Nat) (wx : World), wx = wr ∧ v = .int .i64 (i : Nat) ∧ i + g = 5 ∧ i ≤ 4 ∧ NmS wr w.heap.size ([([111], ⟨3, false, true⟩), ([58, 61], ⟨3, false, true⟩), ([98, 101, 102, 111, 114, 101], ⟨0, false, true⟩), ([58, 58], ⟨5, true, true⟩), ([64], ⟨5, true, true⟩)] ++ (([[42], [47], [100, 105, 118], [109, 111, 100]] : List Bytes).take i).map fun k => (k, ⟨7, false, true⟩)) ∧ wr.heap[w5.heap.size]? = some (.cells #[.pointer none, .map (some w.heap.size)] 107 (0, 0)) ∧ wr.heap[(w5.heap.size + 1)]? = some (.cells #[str [42], str [47], str [100, 105, 118], str [109, 111, 100]] 9 (0, 0)) ∧ w.heap.size < (w5.heap.size + 1) ∧ Below w.heap.size w wr)
 case atStart => exact ⟨0, _, rfl, rfl, rfl, by omega, by simpa using hn0, hq0, hs0, Nat.lt_succ_of_lt hlt5, hb0⟩
 case round =>
  obtain ⟨i, wx0, rfl, rfl, hi, hin, hn, hq, hs, hsl, hb⟩ := hrel;have q1 := bO hq 1 _ rfl;have r0 := bO hs 0 _ rfl;have r1 := bO hs 1 _ rfl;have r2 := bO hs 2 _ rfl;have r3 := bO hs 3 _ rfl;obtain rfl | rfl | rfl | rfl | rfl : i = 0 ∨ i = 1 ∨ i = 2 ∨ i = 3 ∨ i = 4 := by omega
  · obtain ⟨fu, rfl⟩ : ∃ fu, gk = fu + 1 := ⟨gk - 1, by omega⟩;go_wp2_with (first | (refine bH rfl _ _ _ (.inr rfl) _ _ rfl hn (by simp [maxLen]) [42] ⟨7, false, true⟩ rfl (by simp [maxLen]) rfl ?_; intro w9 hn9 hg9));exact QW
  · obtain ⟨fu, rfl⟩ : ∃ fu, gk = fu + 1 := ⟨gk - 1, by omega⟩;go_wp2_with (first | (refine bH rfl _ _ _ (.inr rfl) _ _ rfl hn (by simp [maxLen]) [47] ⟨7, false, true⟩ rfl (by simp [maxLen]) rfl ?_; intro w9 hn9 hg9));exact QV
  · obtain ⟨fu, rfl⟩ : ∃ fu, gk = fu + 1 := ⟨gk - 1, by omega⟩;go_wp2_with (first | (refine bH rfl _ _ _ (.inr rfl) _ _ rfl hn (by simp [maxLen]) [100, 105, 118] ⟨7, false, true⟩ rfl (by simp [maxLen]) rfl ?_; intro w9 hn9 hg9));exact QU
  · obtain ⟨fu, rfl⟩ : ∃ fu, gk = fu + 1 := ⟨gk - 1, by omega⟩;go_wp2_with (first | (refine bH rfl _ _ _ (.inr rfl) _ _ rfl hn (by simp [maxLen]) [109, 111, 100] ⟨7, false, true⟩ rfl (by simp [maxLen]) rfl ?_; intro w9 hn9 hg9));exact Rt
  · have hn' := hn.alloc (.cells #[str [43], str [45], str [94]] 9);have hq' := (ξe wx0 (.cells #[str [43], str [45], str [94]] 9) _ (ξd.1 hq).1).trans hq;have hb' := bQ hb (.cells #[str [43], str [45], str [94]] 9);have hlt := hn.lt;clear r0 r1 r2 q1;go_wp2_with fail;go_loopg [32] (4) (fun g v wr => ∃ (i : Nat) (wx : World), wx = wr ∧ v = .int .i64 (i : Nat) ∧ i + g = 4 ∧ i ≤ 3 ∧ NmS wr w.heap.size (([([111], ⟨3, false, true⟩), ([58, 61], ⟨3, false, true⟩), ([98, 101, 102, 111, 114, 101], ⟨0, false, true⟩), ([58, 58], ⟨5, true, true⟩), ([64], ⟨5, true, true⟩)] ++ ([[42], [47], [100, 105, 118], [109, 111, 100]] : List Bytes).map fun k => (k, ⟨7, false, true⟩)) ++ (([[43], [45], [94]] : List Bytes).take i).map fun k => (k, ⟨6, false, true⟩)) ∧ wr.heap[w5.heap.size]? = some (.cells #[.pointer none, .map (some w.heap.size)] 107 (0, 0)) ∧ wr.heap[wx0.heap.size]? = some (.cells #[str [43], str [45], str [94]] 9 (0, 0)) ∧ w.heap.size < wx0.heap.size ∧ Below w.heap.size w wr)
    case atStart => exact ⟨0, _, rfl, rfl, rfl, by omega, by simpa using hn', hq', ψe _ _, hlt, hb'⟩
    case round =>
     obtain ⟨i, wx1, rfl, rfl, hi, hin, hn, hq, hs, hsl, hb⟩ := hrel;have q1 := bO hq 1 _ rfl;have r0 := bO hs 0 _ rfl;have r1 := bO hs 1 _ rfl;have r2 := bO hs 2 _ rfl;obtain rfl | rfl | rfl | rfl : i = 0 ∨ i = 1 ∨ i = 2 ∨ i = 3 := by omega
     · obtain ⟨fu, rfl⟩ : ∃ fu, gk = fu + 1 := ⟨gk - 1, by omega⟩;go_wp2_with (first | (refine bH rfl _ _ _ (.inr rfl) _ _ rfl hn (by simp [maxLen]) [43] ⟨6, false, true⟩ rfl (by simp [maxLen]) rfl ?_; intro w9 hn9 hg9));exact QW
     · obtain ⟨fu, rfl⟩ : ∃ fu, gk = fu + 1 := ⟨gk - 1, by omega⟩;go_wp2_with (first | (refine bH rfl _ _ _ (.inr rfl) _ _ rfl hn (by simp [maxLen]) [45] ⟨6, false, true⟩ rfl (by simp [maxLen]) rfl ?_; intro w9 hn9 hg9));exact QV
     · obtain ⟨fu, rfl⟩ : ∃ fu, gk = fu + 1 := ⟨gk - 1, by omega⟩;go_wp2_with (first | (refine bH rfl _ _ _ (.inr rfl) _ _ rfl hn (by simp [maxLen]) [94] ⟨6, false, true⟩ rfl (by simp [maxLen]) rfl ?_; intro w9 hn9 hg9));exact QU
     · have hn' := hn.alloc (.cells #[str [61], str [60, 62], str [62], str [62, 61], str [60], str [60, 61]] 9);have hq' := (ξe wx1 (.cells #[str [61], str [60, 62], str [62], str [62, 61], str [60], str [60, 61]] 9) _ (ξd.1 hq).1).trans hq;have hb' := bQ hb (.cells #[str [61], str [60, 62], str [62], str [62, 61], str [60], str [60, 61]] 9);have hlt := hn.lt;clear r0 r1 r2 q1;go_wp2_with fail;go_loopg [45] (7) (fun g v wr => ∃ (i : Nat) (wx : World), wx = wr ∧ v = .int .i64 (i : Nat) ∧ i + g = 7 ∧ i ≤ 6 ∧ NmS wr w.heap.size ((([([111], ⟨3, false, true⟩), ([58, 61], ⟨3, false, true⟩), ([98, 101, 102, 111, 114, 101], ⟨0, false, true⟩), ([58, 58], ⟨5, true, true⟩), ([64], ⟨5, true, true⟩)] ++ ([[42], [47], [100, 105, 118], [109, 111, 100]] : List Bytes).map fun k => (k, ⟨7, false, true⟩)) ++ ([[43], [45], [94]] : List Bytes).map fun k => (k, ⟨6, false, true⟩)) ++ (([[61], [60, 62], [62], [62, 61], [60], [60, 61]] : List Bytes).take i).map fun k => (k, ⟨4, false, true⟩)) ∧ wr.heap[w5.heap.size]? = some (.cells #[.pointer none, .map (some w.heap.size)] 107 (0, 0)) ∧ wr.heap[wx1.heap.size]? = some (.cells #[str [61], str [60, 62], str [62], str [62, 61], str [60], str [60, 61]] 9 (0, 0)) ∧ w.heap.size < wx1.heap.size ∧ Below w.heap.size w wr)
       case atStart => exact ⟨0, _, rfl, rfl, rfl, by omega, by simpa using hn', hq', ψe _ _, hlt, hb'⟩
       case round =>
        obtain ⟨i, wx2, rfl, rfl, hi, hin, hn, hq, hs, hsl, hb⟩ := hrel;have q1 := bO hq 1 _ rfl;have r0 := bO hs 0 _ rfl;have r1 := bO hs 1 _ rfl;have r2 := bO hs 2 _ rfl;have r3 := bO hs 3 _ rfl;have r4 := bO hs 4 _ rfl;have r5 := bO hs 5 _ rfl;obtain rfl | rfl | rfl | rfl | rfl | rfl | rfl : i = 0 ∨ i = 1 ∨ i = 2 ∨ i = 3 ∨ i = 4 ∨ i = 5 ∨ i = 6 := by omega
        · obtain ⟨fu, rfl⟩ : ∃ fu, gk = fu + 1 := ⟨gk - 1, by omega⟩;go_wp2_with (first | (refine bH rfl _ _ _ (.inr rfl) _ _ rfl hn (by simp [maxLen]) [61] ⟨4, false, true⟩ rfl (by simp [maxLen]) rfl ?_; intro w9 hn9 hg9));exact QW
        · obtain ⟨fu, rfl⟩ : ∃ fu, gk = fu + 1 := ⟨gk - 1, by omega⟩;go_wp2_with (first | (refine bH rfl _ _ _ (.inr rfl) _ _ rfl hn (by simp [maxLen]) [60, 62] ⟨4, false, true⟩ rfl (by simp [maxLen]) rfl ?_; intro w9 hn9 hg9));exact QV
        · obtain ⟨fu, rfl⟩ : ∃ fu, gk = fu + 1 := ⟨gk - 1, by omega⟩;go_wp2_with (first | (refine bH rfl _ _ _ (.inr rfl) _ _ rfl hn (by simp [maxLen]) [62] ⟨4, false, true⟩ rfl (by simp [maxLen]) rfl ?_; intro w9 hn9 hg9));exact QU
        · obtain ⟨fu, rfl⟩ : ∃ fu, gk = fu + 1 := ⟨gk - 1, by omega⟩;go_wp2_with (first | (refine bH rfl _ _ _ (.inr rfl) _ _ rfl hn (by simp [maxLen]) [62, 61] ⟨4, false, true⟩ rfl (by simp [maxLen]) rfl ?_; intro w9 hn9 hg9));exact Rt
        · obtain ⟨fu, rfl⟩ : ∃ fu, gk = fu + 1 := ⟨gk - 1, by omega⟩;go_wp2_with (first | (refine bH rfl _ _ _ (.inr rfl) _ _ rfl hn (by simp [maxLen]) [60] ⟨4, false, true⟩ rfl (by simp [maxLen]) rfl ?_; intro w9 hn9 hg9));go_roundg fu
          case measure => omega
          case rel => exact ⟨5, _, rfl, rfl, by omega, by omega, by simpa using hn9, (hg9.block _ (ξd.1 hq).1 (by simp; omega)).trans hq, (hg9.block _ (ξd.1 hs).1 (by simp; omega)).trans hs, hsl, hb.grown hg9 hb.size (fun k e => by cases e; exact ξF _)⟩
        · obtain ⟨fu, rfl⟩ : ∃ fu, gk = fu + 1 := ⟨gk - 1, by omega⟩;go_wp2_with (first | (refine bH rfl _ _ _ (.inr rfl) _ _ rfl hn (by simp [maxLen]) [60, 61] ⟨4, false, true⟩ rfl (by simp [maxLen]) rfl ?_; intro w9 hn9 hg9));go_roundg fu
          case measure => omega
          case rel => exact ⟨6, _, rfl, rfl, by omega, by omega, by simpa using hn9, (hg9.block _ (ξd.1 hq).1 (by simp; omega)).trans hq, (hg9.block _ (ξd.1 hs).1 (by simp; omega)).trans hs, hsl, hb.grown hg9 hb.size (fun k e => by cases e; exact ξF _)⟩
        · go_wp2_with fail;go_ret;exact ⟨w5.heap.size, w.heap.size, rfl, ξF _, hlt5, (ξd.1 hq).1, hq, hn, hb⟩
end Go.Proofs.YtbchkldhnjahaaaGreatDoor
namespace Go.Proofs.YtbchkldhnjahaaaGreatDoor
open Go.RowKit
open Go.Proofs
theorem Ht (p1 p2 p3 p4 p5 : Addr) (w : World) :
 CallsD Tryz.prog 29 #[.pointer (some p1), .pointer (some p2), .pointer (some p3), .pointer (some p4), .pointer (some p5)] .returning w fun e u' w' => e = .returned (.tuple #[]) ∧ u' = .returning ∧ w' = w := by
 have q1 : ∀ (w : World), (binOp .eql 20 .nilIface .nilIface).run Tryz.prog w = .ok (.bool true) w := fun _ => by kernel_rfl
 refine callsD_of_wpS Tryz.func29 rfl fun c₀ cs hu => ?_;simp only [Tryz.ntmps29, List.size_toArray, ξ2, ξ5, Nat.reduceAdd, Nat.reduceSub, Array.replicate_succ, Array.replicate_zero, List.push_toArray, List.append_toArray, List.nil_append, List.cons_append];apply wpS_seq;apply wpS_region;simp [wpOpsS, go_sem, recoverD, hu, Exit.thenS];refine wpS_of_wp (wp_mono (Q := fun e a' w' => e = .ret ∧ a'.defers = [] ∧ w' = w) ?_ ?_)
 · clear hu;go_wp2_with fail
 · rintro e a' w' ⟨rfl, hd, rfl⟩;cases c₀;simp_all [bodyPostS, results, Tryz.results29]
theorem yV (B b : Nat) (l c k : Int) (x1 x2 x3 x4 x5 : Value) (older : List PanicEntry) (w : World) (hB : B ≤ b) (hbw : b + 4 < w.heap.size) (h1 : w.cell? ⟨b, 0, none⟩ = some x1) (h2 : w.cell? ⟨b + 1, 0, none⟩ = some x2) (h3 : w.cell? ⟨b + 2, 0, none⟩ = some x3) (h4 : w.cell? ⟨b + 3, 0, none⟩ = some x4) (h5 : w.cell? ⟨b + 4, 0, none⟩ = some x5)
 (hf : ∀ i, i ≤ 4 → w.frozen? ⟨b + i, 0, none⟩ = false) :
 CallsD Tryz.prog 29 #[.pointer (some ⟨b, 0, none⟩), .pointer (some ⟨b + 1, 0, none⟩), .pointer (some ⟨b + 2, 0, none⟩), .pointer (some ⟨b + 3, 0, none⟩), .pointer (some ⟨b + 4, 0, none⟩)]
  (.panicking ({ v := .iface 70 (.agg #[.int .i64 l, .int .i64 c, .int .i64 k]), recovered := false } :: older)) w
  fun e u' w' => e = .returned (.tuple #[]) ∧ u' = .panicking ({ v := .iface 70 (.agg #[.int .i64 l, .int .i64 c, .int .i64 k]), recovered := true } :: older) ∧
   (w'.cell? ⟨b, 0, none⟩ = some (.slice none 0 0) ∧ w'.cell? ⟨b + 1, 0, none⟩ = some (.int .i64 0) ∧ w'.cell? ⟨b + 2, 0, none⟩ = some (.int .i64 l) ∧ w'.cell? ⟨b + 3, 0, none⟩ = some (.int .i64 c) ∧ w'.cell? ⟨b + 4, 0, none⟩ = some (.int .i64 k)) ∧ Below B w w' := by
 have q1 : ∀ (u : TypeId) (v : Value) (w : World), (binOp .eql 20 (.iface u v) .nilIface).run Tryz.prog w = .ok (.bool false) w := fun _ _ _ => by kernel_rfl
 have q2 : ∀ (v : Value) (w : World), (Instr.typeAssert (.iface 70 v) 20 70 true).run Tryz.prog w = .ok (.tuple #[v, .bool true]) w := fun _ _ => by kernel_rfl
 have d1 := ay h1;have d2 := ay h2;have d3 := ay h3;have d4 := ay h4;have d5 := ay h5;refine callsD_of_wpS Tryz.func29 rfl fun c₀ cs hu => ?_;simp only [Tryz.ntmps29, List.size_toArray, ξ2, ξ5, Nat.reduceAdd, Nat.reduceSub, Array.replicate_succ, Array.replicate_zero, List.push_toArray, List.append_toArray, List.nil_append, List.cons_append];apply wpS_seq;apply wpS_region;simp [wpOpsS, go_sem, recoverD, hu, Exit.thenS];refine wpS_of_wp (wp_mono (Q := fun e a' w' => e = .normal ∧ a'.defers = [] ∧ (w'.cell? ⟨b, 0, none⟩ = some (.slice none 0 0) ∧ w'.cell? ⟨b + 1, 0, none⟩ = some (.int .i64 0) ∧ w'.cell? ⟨b + 2, 0, none⟩ = some (.int .i64 l) ∧ w'.cell? ⟨b + 3, 0, none⟩ = some (.int .i64 c) ∧ w'.cell? ⟨b + 4, 0, none⟩ = some (.int .i64 k)) ∧ Below B w w') ?_ ?_)
 · clear hu;go_wp2_with fail;obtain ⟨w1, hw1⟩ : ∃ w1, w.alloc (.cells #[.int .i64 l, .int .i64 c, .int .i64 k] 70) = w1 := ⟨_, rfl⟩;have e1 : w1.cell? ⟨b, 0, none⟩ = some x1 := by rw [← hw1]; exact d1 _
   have e2 : w1.cell? ⟨b + 1, 0, none⟩ = some x2 := by rw [← hw1]; exact d2 _
   have e3 : w1.cell? ⟨b + 2, 0, none⟩ = some x3 := by rw [← hw1]; exact d3 _
   have e4 : w1.cell? ⟨b + 3, 0, none⟩ = some x4 := by rw [← hw1]; exact d4 _
   have e5 : w1.cell? ⟨b + 4, 0, none⟩ = some x5 := by rw [← hw1]; exact d5 _
   have g : ∀ i, i ≤ 4 → w1.frozen? ⟨b + i, 0, none⟩ = false := fun i hi => by rw [← hw1]; exact (World.frozen?_alloc_old w _ _ (by simp; omega)).trans (hf i hi)
   have g1 : w1.frozen? ⟨b, 0, none⟩ = false := g 0 (by omega);have g2 := g 1 (by omega);have g3 := g 2 (by omega);have g4 := g 3 (by omega);have g5 := g 4 (by omega);have hh : w1.heap[w.heap.size]? = some (.cells #[.int .i64 l, .int .i64 c, .int .i64 k] 70 (0, 0)) := by rw [← hw1]; exact ψe w _
   have k0 : w1.cell? ⟨w.heap.size, 0, none⟩ = some (.int .i64 l) := by simp [World.cell?, hh]
   have k1 : w1.cell? ⟨w.heap.size, 1, none⟩ = some (.int .i64 c) := by simp [World.cell?, hh]
   have k2 : w1.cell? ⟨w.heap.size, 2, none⟩ = some (.int .i64 k) := by simp [World.cell?, hh]
   have HB1 := κ (show Below B w w1 by rw [← hw1]; exact (ξf B w).alloc (by omega) _);obtain ⟨N, hN⟩ : ∃ N, w.heap.size = N := ⟨_, rfl⟩;rw [hw1, hN];rw [hN] at k0 k1 k2 hbw;clear g hw1 hh h1 h2 h3 h4 h5 d1 d2 d3 d4 d5 hf hN q1 q2;go_region;refine ⟨rfl, rfl, ⟨?_, ?_, ?_, ?_, ?_⟩, ?_⟩
   · simp [go_sem, e1]
   · simp [go_sem, e2]
   · simp [go_sem, e3]
   · simp [go_sem, e4]
   · simp [go_sem, e5]
   · have := (((((HB1.setCell (p := ⟨b, 0, none⟩) hB (.slice none 0 0)).setCell (p := ⟨b + 1, 0, none⟩) (by simp; omega) (.int .i64 0)).setCell (p := ⟨b + 2, 0, none⟩) (by simp; omega) (.int .i64 l)).setCell (p := ⟨b + 3, 0, none⟩) (by simp; omega) (.int .i64 c)).setCell (p := ⟨b + 4, 0, none⟩) (by simp; omega) (.int .i64 k));exact ⟨this.os, this.tape, this.output, this.size, this.block⟩
 · rintro e a' w' ⟨rfl, hd, hw, hb⟩;cases c₀;simp_all [bodyPostS, results, Tryz.results29]
end Go.Proofs.YtbchkldhnjahaaaGreatDoor
namespace Go.Proofs.YtbchkldhnjahaaaGreatDoor
open Go.RowKit Kiln
open Go.Proofs
def NdO (B : Nat) (w : World) (nv : Value) (l : List Nd) : Prop :=
 ∃ U xs, w.ownsRow B 41 6 nv l.length xs ∧ NdS w U l xs ∧ Im U nv 2 ∧ ∀ k, U k = 4 → B ≤ k ∧ Fz w k
theorem NdO.low {B B' : Nat} {w : World} {nv : Value} {l : List Nd} (h : NdO B w nv l) (hb : B' ≤ B) : NdO B' w nv l := let ⟨U, xs, h1, h2, h3, h4⟩ := h; ⟨U, xs, h1.mono hb, h2, h3, fun k e => ⟨ξG hb (h4 k e).1, (h4 k e).2⟩⟩
theorem NdO.nds {B : Nat} {w : World} {nv : Value} {l : List Nd} (h : NdO B w nv l) : NdT w nv l := let ⟨_, _, h1, h2, _⟩ := h; EJ h1 h2
def F5 (w : World) (ok : Bool) (R : Except Flt (Nat × PS)) (e : Ending) (w' : World) : Prop :=
 Below w.heap.size w w' ∧ match ok with
 | false => e = .returned (.tuple #[.slice none 0 0, .int .i64 0, .int .i64 0, .int .i64 0, .int .i64 1])
 | true => match R with
  | .ok x => ∃ nv, e = .returned (.tuple #[nv, .int .i64 (x.1 : Nat), .int .i64 0, .int .i64 0, .int .i64 0]) ∧ NdO w.heap.size w' nv x.2.nodes
  | .error (.stop l c k) => e = .returned (.tuple #[.slice none 0 0, .int .i64 0, .int .i64 l, .int .i64 c, .int .i64 (k : Nat)])
  | .error .out => False
structure Dn (w : World) (N : Nat) : Prop where
 c0 : w.heap[N]? = some (.cells #[.slice none 0 0] 33 (0, 0))
 c1 : w.heap[N + 1]? = some (.cells #[.int .i64 0] 3 (0, 0))
 c2 : w.heap[N + 2]? = some (.cells #[.int .i64 0] 3 (0, 0))
 c3 : w.heap[N + 3]? = some (.cells #[.int .i64 0] 3 (0, 0))
 c4 : w.heap[N + 4]? = some (.cells #[.int .i64 0] 23 (0, 0))
theorem Dn.lt {w : World} {N : Nat} (h : Dn w N) : N + 4 < w.heap.size := (ξd.1 h.c4).1
theorem Dn.keep {w w' : World} {N : Nat} (h : Dn w N) (hk : ∀ k, k < w.heap.size → w'.heap[k]? = w.heap[k]?) : Dn w' N := by
 have := h.lt;exact ⟨(hk _ (by omega)).trans h.c0, (hk _ (by omega)).trans h.c1, (hk _ (by omega)).trans h.c2, (hk _ (by omega)).trans h.c3, (hk _ (by omega)).trans h.c4⟩
theorem Dn.below {w w' : World} {N : Nat} (h : Dn w N) (hb : Below w.heap.size w w') : Dn w' N := h.keep hb.block
theorem Dn.cells {w : World} {N : Nat} (h : Dn w N) : w.cell? ⟨N, 0, none⟩ = some (.slice none 0 0) ∧ w.cell? ⟨N + 1, 0, none⟩ = some (.int .i64 0) ∧ w.cell? ⟨N + 2, 0, none⟩ = some (.int .i64 0) ∧ w.cell? ⟨N + 3, 0, none⟩ = some (.int .i64 0) ∧ w.cell? ⟨N + 4, 0, none⟩ = some (.int .i64 0) :=
 ⟨bO h.c0 0 _ rfl, bO h.c1 0 _ rfl, bO h.c2 0 _ rfl, bO h.c3 0 _ rfl, bO h.c4 0 _ rfl⟩
theorem Dn.frozen {w : World} {N : Nat} (h : Dn w N) : ∀ i, i ≤ 4 → w.frozen? ⟨N + i, 0, none⟩ = false := fun i hi => by
 obtain rfl | rfl | rfl | rfl | rfl : i = 0 ∨ i = 1 ∨ i = 2 ∨ i = 3 ∨ i = 4 := by omega
 · exact frozen_of_row w _ 0 _ _ h.c0
 · exact frozen_of_row w _ 0 _ _ h.c1
 · exact frozen_of_row w _ 0 _ _ h.c2
 · exact frozen_of_row w _ 0 _ _ h.c3
 · exact frozen_of_row w _ 0 _ _ h.c4
theorem iP {w : World} {o : Obj} {n : Nat} (hn : n = w.heap.size) : (w.alloc o).heap[n]? = some o := by subst hn; exact ψe w o
theorem TSt.start {w0 w1 : World} {tv : Value} {ts : List Tok} {q m : Nat} (hm : w0.heap.size ≤ m) (hmq : m < q) (hq : q < w1.heap.size) (hs : w1.heap[q]? = some (.cells #[.pointer none, .map (some m)] 107 (0, 0))) (hn : NmS w1 m uV) (hb : Below w0.heap.size w0 w1) :
 ∃ U : Rl, TSt w0 tv ts w1.heap.size [q] (w1.alloc (.cells #[tv, .int .i64 0, .slice none 0 0, .slice none 0 0, .int .i64 0, .pointer (some ⟨q, 0, none⟩)] 76)) U ps0 := by
 have hsz := hb.size;refine ⟨fun k => if k = w1.heap.size then 1 else if k = q then 4 else if k = m then 5 else 0, .slice none 0 0, .slice none 0 0, [], hb.alloc hb.size _, fun k hk => ?_, by simp, ψe _ _, ξX _ _ _ _, rfl, Im.nil _ _, ξX _ _ _ _, Im.nil _ _, ?_, by simp [ps0], ξM _, by simp [ps0], by simp [ps0], by simp [ps0], fun k hk => ?_⟩
 · simp only [World.size_alloc];split at hk
   · omega
   · split at hk
     · omega
     · split at hk
       · omega
       · exact absurd rfl hk
 · refine ⟨by simp [show q ≠ w1.heap.size by omega], m, (ξe w1 _ q hq).trans hs, by simp [show m ≠ w1.heap.size by omega, show m ≠ q by omega], hn.alloc _⟩
 · obtain rfl : k = q := by
    replace hk : (if k = w1.heap.size then 1 else if k = q then 4 else if k = m then 5 else 0) = 4 := hk;split at hk
    · omega
    · split at hk
      · assumption
      · split at hk <;> omega
   exact ⟨_, _, (ξe w1 _ k hq).trans hs⟩
theorem TSt.nodesK {w0 w : World} {tv : Value} {ts : List Tok} {b : Nat} {qs : List Nat} {U : Rl} {st : PS} (h : TSt w0 tv ts b qs w U st) :
 ∃ a cap, w.cell? ⟨b, 2, none⟩ = some (.slice a st.nodes.length cap) ∧ ∀ w' : World, (∀ k, w0.heap.size ≤ k → w'.heap[k]? = w.heap[k]?) → NdO w0.heap.size w' (.slice a st.nodes.length cap) st.nodes := by
 obtain ⟨nv, dv, xs, h⟩ := h;have h1 := h.blk;obtain ⟨a, cap, rfl, _⟩ := EJ h.nrow h.nds;refine ⟨a, cap, by simp [World.cell?, h1], fun w' hk => ?_⟩;exact ⟨U, xs, cE h.nrow fun k e => hk k (h.hi k (by rw [h.nim k e]; decide)).1, h.nds.keep fun k e => ⟨hk k (h.hi k (by rw [e]; decide)).1, e⟩, h.nim, fun k e => ⟨(h.hi k (by rw [e]; decide)).1, (h.fz k e).keep (hk k (h.hi k (by rw [e]; decide)).1)⟩⟩
theorem BU {ts : List Tok} {t : Nat} (h : ∀ i u, i < t → ts[i]? = some u → cL u = true) (hl : ts.length ≤ t) : ts.all cL = true := by
 rw [List.all_eq_true];intro u hu;obtain ⟨i, hi, rfl⟩ := List.getElem_of_mem hu;exact h i _ (by omega) (ξw hi)
theorem BS {ts : List Tok} {t : Nat} {u : Tok} (hu : ts[t]? = some u) (h : cL u = false) : ts.all cL = false := by
 rw [List.all_eq_false];exact ⟨u, ξB hu, by simp [h]⟩
theorem Ev (tv : Value) (ts : List Tok) (n : Nat) (w : World) (hg : Gl w) (ht : TkS w tv ts) (hlen : ts.length ≤ 4398046511104) (hz : ∀ u ∈ ts, Fits u) (hint : ts.all cL = true → ∀ t ∈ ts, t.kind = 4 → t.text ≠ []) (hne : ts.all cL = true → eY ts (iV ts n) ps0 ≠ .error .out) :
 Calls Tryz.prog 12 #[tv] w (F5 w (ts.all cL) (eY ts (iV ts n) ps0)) := by
 have hmf : ∀ (fn : Fn) (first cap : Array Value) (w : World), (Instr.makeFunc fn first cap).run Tryz.prog w = .ok (.func fn first cap) w := fun _ _ _ _ => rfl;have HT := κ ht;obtain ⟨a, cap, rfl, hl⟩ := ht;have HL := κ hl;have HG := κ hg;have HZ := κ hz;have HI := κ hint;have HNE := κ hne;obtain ⟨OK, hOK⟩ : ∃ OK, ts.all cL = OK := ⟨_, rfl⟩;obtain ⟨R, hR⟩ : ∃ R, eY ts (iV ts n) ps0 = R := ⟨_, rfl⟩;rw [hOK, hR];have HOK := κ hOK;have HR := κ hR;clear hl hg hz hint hne hOK hR;obtain ⟨N, hN⟩ : ∃ N, w.heap.size = N := ⟨_, rfl⟩;obtain ⟨wa, hwa⟩ : ∃ wa, ((((w.alloc (.cells #[.slice none 0 0] 33)).alloc (.cells #[.int .i64 0] 3)).alloc (.cells #[.int .i64 0] 3)).alloc (.cells #[.int .i64 0] 3)).alloc (.cells #[.int .i64 0] 23) = wa := ⟨_, rfl⟩;have hba : Below w.heap.size w wa := by
  rw [← hwa]; exact bQ (bQ (bQ (bQ (bQ (ξf _ _) _) _) _) _) _
 have hra : Dn wa N := by
  subst hN hwa;have e0 := ψe w (.cells #[.slice none 0 0] 33);refine ⟨?_, ?_, ?_, ?_, ?_⟩
  · rw [ξe _ _ _ (by first | (simp; done) | (simp; omega)), ξe _ _ _ (by first | (simp; done) | (simp; omega)), ξe _ _ _ (by first | (simp; done) | (simp; omega)), ξe _ _ _ (by first | (simp; done) | (simp; omega))]; exact e0
  · rw [ξe _ _ _ (by first | (simp; done) | (simp; omega)), ξe _ _ _ (by first | (simp; done) | (simp; omega)), ξe _ _ _ (by first | (simp; done) | (simp; omega))]; exact iP (by first | (simp; done) | (simp; omega))
  · rw [ξe _ _ _ (by first | (simp; done) | (simp; omega)), ξe _ _ _ (by first | (simp; done) | (simp; omega))]; exact iP (by first | (simp; done) | (simp; omega))
  · rw [ξe _ _ _ (by first | (simp; done) | (simp; omega))]; exact iP (by first | (simp; done) | (simp; omega))
  · exact iP (by first | (simp; done) | (simp; omega))
 have HBA := κ hba;have HRA := κ hra;clear hba hra;go_enter_defers Tryz.func12, Tryz.ntmps12
 go_wp2_with fail;rw [show N + 1 + 1 = N + 2 from rfl, show N + 2 + 1 = N + 3 from rfl, show N + 3 + 1 = N + 4 from rfl];clear hwa;go_loopg [15] (ts.length + 1) (fun g v wr => ∃ (t : Nat) (wx : World), wx = wr ∧ v = .int .i64 (t : Nat) ∧ t + g = ts.length + 1 ∧ t ≤ ts.length ∧ (∀ i u, i < t → ts[i]? = some u → cL u = true) ∧ Below wa.heap.size wa wr)
 case atStart => exact ⟨0, _, rfl, rfl, by omega, ξM _, fun i u h => absurd h (by omega), ξf _ _⟩
 case round =>
  obtain ⟨t, wx1, rfl, rfl, hg, ht, hw, hb⟩ := hrel;have HW := κ hw;have HB := κ hb;have hsz := hb.size;clear hw hb;by_cases hlt : t < ts.length
  · have hti : (t : Int) < (ts.length : Int) := by omega
    obtain ⟨fu, rfl⟩ : ∃ fu, gk = fu + 1 := ⟨gk - 1, by omega⟩;obtain ⟨u, hu⟩ : ∃ u, ts[t]? = some u := ⟨_, ξw hlt⟩;obtain ⟨b, off, rfl, hx⟩ := HL.out (by rintro rfl; simp at hlt);obtain ⟨pv, hs, hc⟩ := hx t u hu;obtain ⟨a2, cap2, rfl, _⟩ := id hs;have hwr1 : Below w.heap.size w wx1 := HBA.trans (HB.mono HBA.size);have hc' : ∀ (j : Nat) x q, (fV u (.slice a2 u.path.length cap2))[j]? = some x → q = off + (5 * t + j) → wx1.cell? ⟨b, q, none⟩ = some x := fun j x q hj hq => by
     subst hq; exact cell_later hwr1 (hc j x hj)
    have c0 : wx1.cell? ⟨b, off + t * 5, none⟩ = some (.int .i64 u.kind) := hc' 0 _ _ rfl (by omega);have c1 : wx1.cell? ⟨b, off + t * 5 + 1, none⟩ = some (str u.text) := hc' 1 _ _ rfl (by omega);have c2 : wx1.cell? ⟨b, off + t * 5 + 2, none⟩ = some (.slice a2 u.path.length cap2) := hc' 2 _ _ rfl (by omega);have c3 : wx1.cell? ⟨b, off + t * 5 + 3, none⟩ = some (.int .i64 u.line) := hc' 3 _ _ rfl (by omega);have c4 : wx1.cell? ⟨b, off + t * 5 + 4, none⟩ = some (.int .i64 u.col) := hc' 4 _ _ rfl (by omega);have HU := κ hu;have HF := HZ.out u (ξB hu);have hal1 := (ξf wx1.heap.size wx1).alloc (ξF _) (.cells #[.int .i64 u.kind, str u.text, .slice a2 u.path.length cap2, .int .i64 u.line, .int .i64 u.col] 32);have HW1 := κ (HB.trans (hal1.mono hsz));have HWR := κ (Dv u.kind u.text (.slice a2 u.path.length cap2) u.path u.line u.col _ (HG.below (HBA.trans (HW1.mono HBA.size))) (hs.below (HBA.trans (HW1.mono HBA.size))) HF.1 HF.2.1 HF.2.2);clear hs hal1 HF hx hc hc' hu hwr1;go_wp2_with fail;obtain ⟨W, hW⟩ : ∃ W, wx1.alloc (.cells #[.int .i64 u.kind, str u.text, .slice a2 u.path.length cap2, .int .i64 u.line, .int .i64 u.col] 32) = W := ⟨_, rfl⟩;rw [hW] at HW1 HWR;rw [show wx1.alloc (.cells #[.int .i64 u.kind, .string { data := List.toArray u.text }, .slice a2 u.path.length cap2, .int .i64 u.line, .int .i64 u.col] 32) = W from hW];clear hW c0 c1 c2 c3 c4;refine HWR.mono ?_;rintro e w2 ⟨hb2, hr⟩;have HB2 := κ (HW1.trans (hb2.mono HW1.size));clear hb2 HWR HW1;cases hwr : kX u.kind u.text u.path with
    | error c =>
     rw [hwr] at hr;obtain rfl : c = 1 := BW hwr;have HOF := κ (HOK.symm.trans (BS HU.out (by unfold cL; rw [hwr])));have hrc := HRA.below HB2;have hcs := hrc.cells;obtain ⟨r0, r1, r2, r3, r4⟩ := hcs;have f0 : w2.frozen? ⟨N, 0, none⟩ = false := hrc.frozen 0 (by omega);have f1 := hrc.frozen 1 (by omega);have f2 := hrc.frozen 2 (by omega);have f3 := hrc.frozen 3 (by omega);have f4 := hrc.frozen 4 (by omega);subst hr;clear hwr hrc;go_wp2_with fail;obtain ⟨w5, hw5⟩ : ∃ w5, ((((w2.setCell ⟨N, 0, none⟩ (.slice none 0 0)).setCell ⟨N + 1, 0, none⟩ (.int .i64 0)).setCell ⟨N + 2, 0, none⟩ (.int .i64 0)).setCell ⟨N + 3, 0, none⟩ (.int .i64 0)).setCell ⟨N + 4, 0, none⟩ (.int .i64 1) = w5 := ⟨_, rfl⟩;have k0 : w5.cell? ⟨N, 0, none⟩ = some (.slice none 0 0) := by rw [← hw5]; simp [go_sem, r0]
     have k1 : w5.cell? ⟨N + 1, 0, none⟩ = some (.int .i64 0) := by rw [← hw5]; simp [go_sem, r1]
     have k2 : w5.cell? ⟨N + 2, 0, none⟩ = some (.int .i64 0) := by rw [← hw5]; simp [go_sem, r2]
     have k3 : w5.cell? ⟨N + 3, 0, none⟩ = some (.int .i64 0) := by rw [← hw5]; simp [go_sem, r3]
     have k4 : w5.cell? ⟨N + 4, 0, none⟩ = some (.int .i64 1) := by rw [← hw5]; simp [go_sem, r4]
     have hb5 : Below w.heap.size w w5 := by
      rw [← hw5];exact (((((HBA.trans (HB2.mono HBA.size)).setCell (p := ⟨N, 0, none⟩) (by simp; omega) (.slice none 0 0)).setCell (p := ⟨N + 1, 0, none⟩) (by simp; omega) (.int .i64 0)).setCell (p := ⟨N + 2, 0, none⟩) (by simp; omega) (.int .i64 0)).setCell (p := ⟨N + 3, 0, none⟩) (by simp; omega) (.int .i64 0)).setCell (p := ⟨N + 4, 0, none⟩) (by simp; omega) (.int .i64 1)
     rw [hw5];clear hw5 r0 r1 r2 r3 r4 f0 f1 f2 f3 f4;refine ⟨.tuple #[.slice none 0 0, .int .i64 0, .int .i64 0, .int .i64 0, .int .i64 1], by simp [results, Tryz.results12, go_sem, k0, k1, k2, k3, k4], ?_⟩;rw [HOF.out];exact ⟨hb5, rfl⟩
    | ok s =>
     rw [hwr] at hr;have HT1 := κ (show cL u = true by unfold cL; rw [hwr]);subst hr;clear hwr;go_wp2_with fail;go_roundg fu
     case measure => omega
     case rel => exact ⟨t + 1, _, rfl, rfl, by omega, by omega, fun i v hi hv => by
      by_cases hit : i = t
      · subst hit;rw [HU.out] at hv;simp only [ξO] at hv;rw [← hv]; exact HT1.out
      · exact HW i v (by omega) hv, HB2⟩
  · obtain rfl : t = ts.length := by omega
    have hok : OK = true := HOK.symm.trans (BU HW (ξF _));have hbw : Below w.heap.size w wx1 := HBA.trans (HB.mono HBA.size);have HTS : Tks wx1 (.slice a ts.length cap) ts := ⟨HT.below hbw, hlen, HI (HOK.trans hok), fun u hu => (HZ u hu).1, fun u hu => (HZ u hu).2.1⟩;have hne := HNE.out (HOK.trans hok);have HBW := κ hbw;have HRX := κ (HRA.below HB);have HOT := κ hok;have HN := κ hne;clear hbw hok hne HNE HI HT HL HZ HG HW HB HBA HRA hg ht hlt;go_wp2_with fail;refine (FD _).mono ?_;rintro e w2 ⟨q, m, rfl, hm, hmq, hq, hs, hn, hb2⟩;obtain ⟨U, hT⟩ := TSt.start (tv := .slice a ts.length cap) (ts := ts) hm hmq hq hs hn hb2;have HS := κ hT;clear hT hm hmq hq hs hn hb2;go_wp2_with fail;obtain ⟨D, hD⟩ : ∃ D, mO ts (iV ts n) ps0 = D := ⟨_, rfl⟩;have hne : D ≠ .error .out := fun e => HN (by unfold eY; exact dB (hD.trans e));refine (Bu HTS (lI HTS n) HS.out (by rw [hD]; exact hne)).mono ?_;rw [hD];have HD := κ hD;clear hD;intro e w3 hp;cases D with
    | error f =>
     cases f with
     | out => exact absurd rfl hne
     | stop l c k =>
      obtain ⟨rfl, hb3⟩ := hp;have HB3 := κ hb3;have HRR : RowKit.Hid (R = .error (.stop l c k)) := HR.symm.trans (dB HD);clear hb3;go_wp2_with fail;have hrc := HRX.below HB3;obtain ⟨r0, r1, r2, r3, r4⟩ := hrc.cells;refine leaves_cons (f := 29) (args := #[.pointer (some ⟨N, 0, none⟩), .pointer (some ⟨N + 1, 0, none⟩), .pointer (some ⟨N + 2, 0, none⟩), .pointer (some ⟨N + 3, 0, none⟩), .pointer (some ⟨N + 4, 0, none⟩)]) (by simp) (by simp [go_sem]) ?_;refine (yV w.heap.size N l c k _ _ _ _ _ [] w3 (by omega) hrc.lt r0 r1 r2 r3 r4 hrc.frozen).mono ?_;rintro e u' w4 ⟨rfl, rfl, ⟨k0, k1, k2, k3, k4⟩, hb4⟩;refine ⟨.tuple #[.slice none 0 0, .int .i64 0, .int .i64 l, .int .i64 c, .int .i64 k], by simp [results, Tryz.results12, go_sem, k0, k1, k2, k3, k4], ?_⟩;rw [HOT.out, HRR.out];exact ⟨(HBW.trans (HB3.mono HBW.size)).trans hb4, rfl⟩
    | ok x =>
     obtain ⟨top, st⟩ := x;obtain ⟨v, U', rfl, rfl, hT, hf⟩ := hp;have HRR : RowKit.Hid (R = (if st.pos < ts.length then jK ts st else .ok (top, st))) := HR.symm.trans (bind_ok HD);obtain ⟨nv, dv, -, d1, d2, -, -, -, hfz⟩ := hT.reads;have HT3 := κ hT;have hpos := hT.pos;clear hne hf hT;by_cases hlt : st.pos < ts.length
     · have hlt' : (st.pos : Int) < (ts.length : Int) := by omega
       have HR2 : RowKit.Hid (R = jK ts st) := by show _ = _; rw [HRR.out, ψi hlt]
       go_wp2_with fail;refine (iT HTS HT3).mono ?_;rintro e w4 ⟨rfl, hb3⟩;obtain ⟨l, c, hlc⟩ : ∃ l c, ak ts st = (l, c) := ⟨_, _, rfl⟩;obtain ⟨k, hk⟩ : ∃ k : Nat, 50 = k := ⟨_, rfl⟩;rw [hlc, hk];have HRR : RowKit.Hid (R = .error (.stop l c k)) := by show _ = _; rw [HR2.out]; unfold jK; rw [hlc, hk]
       clear hk hlc;have HB3 := κ (HT3.base.trans (hb3.mono HT3.base.size));clear hb3 d1 d2 hfz;go_wp2_with fail;have hrc := HRX.below HB3;obtain ⟨r0, r1, r2, r3, r4⟩ := hrc.cells;refine leaves_cons (f := 29) (args := #[.pointer (some ⟨N, 0, none⟩), .pointer (some ⟨N + 1, 0, none⟩), .pointer (some ⟨N + 2, 0, none⟩), .pointer (some ⟨N + 3, 0, none⟩), .pointer (some ⟨N + 4, 0, none⟩)]) (by simp) (by simp [go_sem]) ?_;refine (yV w.heap.size N l c k _ _ _ _ _ [] w4 (by omega) hrc.lt r0 r1 r2 r3 r4 hrc.frozen).mono ?_;rintro e u' w5 ⟨rfl, rfl, ⟨k0, k1, k2, k3, k4⟩, hb4⟩;refine ⟨.tuple #[.slice none 0 0, .int .i64 0, .int .i64 l, .int .i64 c, .int .i64 k], by simp [results, Tryz.results12, go_sem, k0, k1, k2, k3, k4], ?_⟩;rw [HOT.out, HRR.out];exact ⟨(HBW.trans (HB3.mono HBW.size)).trans hb4, rfl⟩
     · have hlt' : ¬ (st.pos : Int) < (ts.length : Int) := by omega
       have HRR2 : RowKit.Hid (R = .ok (top, st)) := by show _ = _; rw [HRR.out, ψh hlt]
       obtain ⟨na, ncap, e2, hnd⟩ := HT3.nodesK;have HND := κ hnd;have hrc := HRX.below HT3.base;obtain ⟨r0, r1, r2, r3, r4⟩ := hrc.cells;have f0 : w3.frozen? ⟨N, 0, none⟩ = false := hrc.frozen 0 (by omega);have f1 := hrc.frozen 1 (by omega);have f2 := hrc.frozen 2 (by omega);have f3 := hrc.frozen 3 (by omega);have f4 := hrc.frozen 4 (by omega);have hlN := HRX.lt;clear hnd hrc d2 HRR;go_wp2_with fail;obtain ⟨w5, hw5⟩ : ∃ w5, ((((w3.setCell ⟨N, 0, none⟩ (.slice na st.nodes.length ncap)).setCell ⟨N + 1, 0, none⟩ (.int .i64 top)).setCell ⟨N + 2, 0, none⟩ (.int .i64 0)).setCell ⟨N + 3, 0, none⟩ (.int .i64 0)).setCell ⟨N + 4, 0, none⟩ (.int .i64 0) = w5 := ⟨_, rfl⟩;have k0 : w5.cell? ⟨N, 0, none⟩ = some (.slice na st.nodes.length ncap) := by rw [← hw5]; simp [go_sem, r0]
       have k1 : w5.cell? ⟨N + 1, 0, none⟩ = some (.int .i64 top) := by rw [← hw5]; simp [go_sem, r1]
       have k2 : w5.cell? ⟨N + 2, 0, none⟩ = some (.int .i64 0) := by rw [← hw5]; simp [go_sem, r2]
       have k3 : w5.cell? ⟨N + 3, 0, none⟩ = some (.int .i64 0) := by rw [← hw5]; simp [go_sem, r3]
       have k4 : w5.cell? ⟨N + 4, 0, none⟩ = some (.int .i64 0) := by rw [← hw5]; simp [go_sem, r4]
       have hb5 : Below w.heap.size w w5 := by
        rw [← hw5];exact (((((HBW.trans (HT3.base.mono HBW.size)).setCell (p := ⟨N, 0, none⟩) (by simp; omega) (.slice na st.nodes.length ncap)).setCell (p := ⟨N + 1, 0, none⟩) (by simp; omega) (.int .i64 top)).setCell (p := ⟨N + 2, 0, none⟩) (by simp; omega) (.int .i64 0)).setCell (p := ⟨N + 3, 0, none⟩) (by simp; omega) (.int .i64 0)).setCell (p := ⟨N + 4, 0, none⟩) (by simp; omega) (.int .i64 0)
       have hn5 : NdO w.heap.size w5 (.slice na st.nodes.length ncap) st.nodes := (HND w5 fun k hk => by
        rw [← hw5];rw [ψf _ _ k _ (by simp; omega), ψf _ _ k _ (by simp; omega), ψf _ _ k _ (by simp; omega), ψf _ _ k _ (by simp; omega), ψf _ _ k _ (by simp; omega)]).low HBW.size
       rw [hw5];clear hw5 r0 r1 r2 r3 r4 f0 f1 f2 f3 f4;refine leaves_cons (f := 29) (args := #[.pointer (some ⟨N, 0, none⟩), .pointer (some ⟨N + 1, 0, none⟩), .pointer (some ⟨N + 2, 0, none⟩), .pointer (some ⟨N + 3, 0, none⟩), .pointer (some ⟨N + 4, 0, none⟩)]) (by simp) (by simp [go_sem]) ?_;refine (Ht ⟨N, 0, none⟩ ⟨N + 1, 0, none⟩ ⟨N + 2, 0, none⟩ ⟨N + 3, 0, none⟩ ⟨N + 4, 0, none⟩ w5).mono ?_;rintro e u' w6 ⟨rfl, rfl, rfl⟩;refine ⟨.tuple #[.slice na st.nodes.length ncap, .int .i64 top, .int .i64 0, .int .i64 0, .int .i64 0], by simp [results, Tryz.results12, go_sem, k0, k1, k2, k3, k4], ?_⟩;rw [HOT.out, HRR2.out];exact ⟨hb5, _, rfl, hn5⟩
theorem xU (tv : Value) (ts : List Tok) (w : World) (hg : Gl w) (ht : TkS w tv ts) (hlen : ts.length ≤ 4398046511104) (hz : ∀ u ∈ ts, Fits u) :
 Calls Tryz.prog 12 #[tv] w (F5 w (ts.all cL) (eY ts (iV ts 1001) ps0)) :=
 Ev tv ts 1001 w hg ht hlen hz (fun h => mX h) (fun h => Ak h fun u hu => (hz u hu).2.1)
end Go.Proofs.YtbchkldhnjahaaaGreatDoor
