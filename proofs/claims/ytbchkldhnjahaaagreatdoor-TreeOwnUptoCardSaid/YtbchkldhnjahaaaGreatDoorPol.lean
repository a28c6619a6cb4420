/- Part of the proof. Conditions: those of each theorem. -/
import Derived.Deep.CutBlock
import Derived.Test.YtbchkldhnjahaaaGreatDoorPoa
import Derived.Test.YtbchkldhnjahaaaGreatDoorPoj
import Derived.Test.YtbchkldhnjahaaaGreatDoorPok
set_option maxRecDepth 100000
set_option maxHeartbeats 40000000
namespace Go.Proofs.YtbchkldhnjahaaaGreatDoor
open Go.RowKit Kiln
open Go.Proofs
section
variable {w0 : World} {tv : Value} {ts : List Tok} {b : Nat} {qs : List Nat} {w : World} {U : Rl} {st : PS} {L : Low}
theorem Loc.set1 {wc : World} {Uc : Rl} {K : Nat} {a : Value} {T : TypeId} (h : Loc wc Uc K #[a] T) (x : Value) : Loc (wc.setCell ⟨K, 0, none⟩ x) Uc K #[x] T := ⟨ψg wc K 0 _ T x h.1, h.2⟩
theorem LR.offT {wc : World} {Uc : Rl} {B K i : Nat} {cs : Array Value} {T : TypeId} {v : Value} {l : List Int} (h : LR B wc Uc v l) (hk : Loc wc Uc K cs T) (hT : T ≠ 3) (x : Value) : LR B (wc.setCell ⟨K, i, none⟩ x) Uc v l :=
 ⟨cE h.1 fun k e => ψf wc _ k x (by
  rintro rfl;rcases id h.1.2 with ⟨e1, _⟩ | ⟨g, cap, cur, e1, _, h2, _⟩
  · rw [e1] at e; simp [Value.ownBlock] at e
  · rw [e1] at e;simp only [Value.ownBlock, ξO] at e;subst e;rw [hk.1] at h2;simp only [ξO, Obj.cells.injEq] at h2;exact hT h2.2.1), h.2⟩
def vC (b lb pb : Nat) (w : World) (U : Rl) : Prop := Loc w U lb #[.slice none 0 0] 39 ∧ Loc w U pb #[bL b] 72
def K5 (B lb : Nat) (l : List Nat) (v : Value) (w : World) (U : Rl) : Prop := v = .tuple #[] ∧ (∃ sv, Loc w U lb #[sv] 39 ∧ LR B w U sv (l.map Int.ofNat)) ∧ l.length ≤ 1099511627776
def ES (ts : List Tok) (L : Low) : M (List Nat) := do
 let d ← L.decs
 bF ts [105, 110]
 let e ← L.exp
 let l ← dw ts [59] L.exp (ts.length + 1) [d, e]
 bF ts [101, 110, 100]
 pure l
theorem Rb {p : Prop} (h : p := by
 refine rk 4 fun K hK => ?_;have hroom_ := bD HR HNE;have hroom := hroom_.1;replace HR := κ (hroom_.2);clear hroom_;obtain ⟨j0, hj, hj0, hj1, hj2⟩ := info_parts Tryz.infoInt;have HJ := κ (ξc hj (ξc hj0 (ξc hj1 hj2)));clear hj hj0 hj1 hj2;have hbs := HC.size;have hll := HLL.out;refine ψj _ rfl (.tmp 16) (.tmp 19) 39 rfl (w.heap.size) 3 j0 (.int .i64 0) 1 8 Tryz.underlying39 HJ.out.1 HJ.out.2.1 HJ.out.2.2.1 HJ.out.2.2.2 rfl (by decide) _ (l.map Int.ofNat).length _ (by simp [Act.eval]; try rfl) (HL.out.1.alloc _) ⟨w6.heap.size, 0, none⟩ 1 1 [.int .i64 x6] (by simp [Act.eval]; try rfl) rfl (ξW (ψe _ _)) (bP _) (by decide) (by first | (simp [maxLen]; done) | (simp; unfold maxLen; omega)) (by first | (simp; done) | (simp; omega)) (by first | (simp; done) | (simp; omega)) _ rfl ?_;intro g2 cap2 w5 hrow2 hgr2 hgb2 hgl2;have hpu := (HC.alloc _).push (n := l.length + 1) (cap := cap2) (fun k e => (HL.lt k e).1) HL.out.2 (by omega) hgr2 hgb2;have hl5 : LR (w.heap.size) w5 U6 (.slice (some ⟨g2, 0, none⟩) (l.length + 1) cap2) ((l ++ [x6]).map Int.ofNat) := ⟨by simpa using hrow2, hpu.2⟩;replace HLB := κ ((HLB.alloc _).besideT (HL.step ((Fr.refl w6 U6).alloc _)) (by decide) hgr2);replace HPB := κ ((HPB.alloc _).besideT (HL.step ((Fr.refl w6 U6).alloc _)) (by decide) hgr2);clear HC HL hrow2 hgr2 hgb2 hgl2 hbs HJ;have HC := κ hpu.1;have HL := κ hl5;clear hpu hl5;refine hK _ _ (by exact HPB.cell 0 _ rfl) fun hH4 => ?_;clear hK K hH3;(try simp only [z0, zz])
 refine rk 5 fun K hK => ?_;(try simp only [zz])
 have l0 := HLB.cell 0 _ rfl;have lf := HLB.frozen 0;go_simp;have hc_ := HC.offM (i := 0) HLB.out.2 (by simp) HLG.out (.slice (some ⟨g2, 0, none⟩) (l.length + 1) cap2);have hp_ := HPB.offL (i := 0) (M := lb) HNE2 (.slice (some ⟨g2, 0, none⟩) (l.length + 1) cap2);have hl_ := HL.offT HLB (by decide) (i := 0) (.slice (some ⟨g2, 0, none⟩) (l.length + 1) cap2);have hb_ := HLB.set1 (.slice (some ⟨g2, 0, none⟩) (l.length + 1) cap2);clear HC HPB HL HLB l0 lf;have HC := κ hc_;have HPB := κ hp_;have HL := κ hl_;have HLB := κ hb_;clear hc_ hp_ hl_ hb_;refine hK _ _ (by exact HPB.cell 0 _ rfl) fun hH5 => ?_;clear hK K hH4;(try simp only [z0, zz])
 refine ψk (by kernel_rfl) ?_ _;go_wp2_with fail;go_roundg fu
 case measure => omega
 case rel => exact ⟨l ++ [x6], st6, U6, HC.out, HPB.out, ⟨_, HLB.out, HL.out⟩, by simp; omega, HR.out⟩
 ) : p := h
theorem Ra {p : Prop} (h : p := by
 refine rk 4 fun K hK => ?_;obtain ⟨j0, hj, hj0, hj1, hj2⟩ := info_parts Tryz.infoInt;have HJ := κ (ξc hj (ξc hj0 (ξc hj1 hj2)));clear hj hj0 hj1 hj2;have hbs := HC.size;have hll := HLL.out;refine ψj _ rfl (.tmp 2) (.tmp 5) 39 rfl (w.heap.size) 3 j0 (.int .i64 0) 1 8 Tryz.underlying39 HJ.out.1 HJ.out.2.1 HJ.out.2.2.1 HJ.out.2.2.2 rfl (by decide) _ (([] : List Nat).map Int.ofNat).length _ (by simp [Act.eval]; try rfl) (HL.out.1.alloc _) ⟨w3.heap.size, 0, none⟩ 1 1 [.int .i64 x3] (by simp [Act.eval]; try rfl) rfl (ξW (ψe _ _)) (bP _) (by decide) (by first | (simp [maxLen]; done) | (simp; unfold maxLen; omega)) (by first | (simp; done) | (simp; omega)) (by first | (simp; done) | (simp; omega)) _ rfl ?_;intro g2 cap2 w5 hrow2 hgr2 hgb2 hgl2;have hpu := (HC.alloc _).push (n := ([] : List Nat).length + 1) (cap := cap2) (fun k e => (HL.lt k e).1) HL.out.2 (by omega) hgr2 hgb2;have hl5 : LR (w.heap.size) w5 U3 (.slice (some ⟨g2, 0, none⟩) (([] : List Nat).length + 1) cap2) ((([] : List Nat) ++ [x3]).map Int.ofNat) := ⟨by simpa using hrow2, hpu.2⟩;replace HLB := κ ((HLB.alloc _).besideT (HL.step ((Fr.refl w3 U3).alloc _)) (by decide) hgr2);replace HPB := κ ((HPB.alloc _).besideT (HL.step ((Fr.refl w3 U3).alloc _)) (by decide) hgr2);clear HC HL hrow2 hgr2 hgb2 hgl2 hbs HJ;have HC := κ hpu.1;have HL := κ hl5;clear hpu hl5;refine hK _ _ (by exact HPB.cell 0 _ rfl) fun hH4 => ?_;clear hK K hH3;(try simp only [z0, zz])
 refine rk 5 fun K hK => ?_;(try simp only [zz])
 have l0 := HLB.cell 0 _ rfl;have lf := HLB.frozen 0;go_simp;have hc_ := HC.offM (i := 0) HLB.out.2 (by simp) HLG.out (.slice (some ⟨g2, 0, none⟩) (([] : List Nat).length + 1) cap2);have hp_ := HPB.offL (i := 0) (M := lb) HNE2 (.slice (some ⟨g2, 0, none⟩) (([] : List Nat).length + 1) cap2);have hl_ := HL.offT HLB (by decide) (i := 0) (.slice (some ⟨g2, 0, none⟩) (([] : List Nat).length + 1) cap2);have hb_ := HLB.set1 (.slice (some ⟨g2, 0, none⟩) (([] : List Nat).length + 1) cap2);clear HC HPB HL HLB l0 lf;have HC := κ hc_;have HPB := κ hp_;have HL := κ hl_;have HLB := κ hb_;clear hc_ hp_ hl_ hb_;refine hK _ _ (by exact HPB.cell 0 _ rfl) fun hH5 => ?_;clear hK K hH4;(try simp only [z0, zz])
 refine ψk (by kernel_rfl) ?_ _;go_wp2_with fail;go_meet
 exact ⟨[x3], st3, U3, HC, HPB, ⟨_, HLB, HL⟩, HR, rfl⟩
 ) : p := h
theorem Q9 {p : Prop} (h : p := by
 refine rk 4 fun K hK => ?_;obtain ⟨j0, hj, hj0, hj1, hj2⟩ := info_parts Tryz.infoInt;have HJ := κ (ξc hj (ξc hj0 (ξc hj1 hj2)));clear hj hj0 hj1 hj2;have hbs := HC.size;have hll := HLL.out;refine ψj _ rfl (.tmp 9) (.tmp 12) 39 rfl (w.heap.size) 3 j0 (.int .i64 0) 1 8 Tryz.underlying39 HJ.out.1 HJ.out.2.1 HJ.out.2.2.1 HJ.out.2.2.2 rfl (by decide) _ (l.map Int.ofNat).length _ (by simp [Act.eval]; try rfl) (HL.out.1.alloc _) ⟨w6.heap.size, 0, none⟩ 1 1 [.int .i64 x6] (by simp [Act.eval]; try rfl) rfl (ξW (ψe _ _)) (bP _) (by decide) (by first | (simp [maxLen]; done) | (simp; unfold maxLen; omega)) (by first | (simp; done) | (simp; omega)) (by first | (simp; done) | (simp; omega)) _ rfl ?_;intro g2 cap2 w5 hrow2 hgr2 hgb2 hgl2;have hpu := (HC.alloc _).push (n := l.length + 1) (cap := cap2) (fun k e => (HL.lt k e).1) HL.out.2 (by omega) hgr2 hgb2;have hl5 : LR (w.heap.size) w5 U6 (.slice (some ⟨g2, 0, none⟩) (l.length + 1) cap2) ((l ++ [x6]).map Int.ofNat) := ⟨by simpa using hrow2, hpu.2⟩;replace HLB := κ ((HLB.alloc _).besideT (HL.step ((Fr.refl w6 U6).alloc _)) (by decide) hgr2);replace HPB := κ ((HPB.alloc _).besideT (HL.step ((Fr.refl w6 U6).alloc _)) (by decide) hgr2);clear HC HL hrow2 hgr2 hgb2 hgl2 hbs HJ;have HC := κ hpu.1;have HL := κ hl5;clear hpu hl5;refine hK _ _ (by exact HPB.cell 0 _ rfl) fun hH4 => ?_;clear hK K hH3;(try simp only [z0, zz])
 refine rk 5 fun K hK => ?_;(try simp only [zz])
 have l0 := HLB.cell 0 _ rfl;have lf := HLB.frozen 0;go_simp;have hc_ := HC.offM (i := 0) HLB.out.2 (by simp) HLG.out (.slice (some ⟨g2, 0, none⟩) (l.length + 1) cap2);have hp_ := HPB.offL (i := 0) (M := lb) HNE2 (.slice (some ⟨g2, 0, none⟩) (l.length + 1) cap2);have hl_ := HL.offT HLB (by decide) (i := 0) (.slice (some ⟨g2, 0, none⟩) (l.length + 1) cap2);have hb_ := HLB.set1 (.slice (some ⟨g2, 0, none⟩) (l.length + 1) cap2);clear HC HPB HL HLB l0 lf;have HC := κ hc_;have HPB := κ hp_;have HL := κ hl_;have HLB := κ hb_;clear hc_ hp_ hl_ hb_;refine hK _ _ (by exact HPB.cell 0 _ rfl) fun hH5 => ?_;clear hK K hH4;(try simp only [z0, zz])
 refine ψk (by kernel_rfl) ?_ _;go_wp2_with fail;go_meet
 exact ⟨l ++ [x6], st6, U6, HC.out, HPB.out, ⟨_, HLB.out, HL.out⟩, HR.out, by have := HN.out; simp; omega⟩
 ) : p := h
theorem Hp (HT : Tks w0 tv ts) (HLow : bW w0 tv ts b L) (lb pb B : Nat) (hne2 : pb ≠ lb) (hlg : w0.heap.size ≤ lb) (hB : B ≤ lb) : OkC w0 tv ts b 307 #[.pointer (some ⟨lb, 0, none⟩), .pointer (some ⟨pb, 0, none⟩)] [lb] (vC b lb pb) (K5 B lb) (ES ts L) := by
 intro q qs w U st hp hpre hne;obtain ⟨hlb, hpb⟩ := hpre;have hBw : B ≤ w.heap.size := by have := hlb.lt; omega
 have HNE2 := κ hne2;have HLG := κ hlg;have HBW := κ hBw;obtain ⟨R, hR⟩ : ∃ R, ES ts L st = R := ⟨_, rfl⟩;rw [hR] at hne ⊢;have HNE := κ hne;unfold ES at hR;have HR := κ hR.symm;have HC := κ (Cur.startM [lb] hp);obtain ⟨v0, hv0⟩ : ∃ v0, v0 = Value.slice none 0 0 := ⟨_, rfl⟩;have hl0 : LR w.heap.size w U v0 (([] : List Nat).map Int.ofNat) := by rw [hv0]; exact LR.nil _ _ _
 rw [← hv0] at hlb;have HLB := κ hlb;have HPB := κ hpb;have HL := κ hl0;have HLL := κ (show ([] : List Nat).length ≤ 1099511627776 by simp);clear hR hne hp hlb hpb hl0 hv0 hne2 hlg;go_enter Tryz.func307, Tryz.ntmps307;go_wp2_with fail;go_cut [] (fun wx => ∃ (l : List Nat) (st' : PS) (U' : Rl), Cur w0 tv ts b (q :: qs) w (U.mark [lb]) wx U' st' ∧ Loc wx U' pb #[bL b] 72 ∧ (∃ sv, Loc wx U' lb #[sv] 39 ∧ LR w.heap.size wx U' sv (l.map Int.ofNat)) ∧ R = (bF ts [105, 110] >>= fun _ => L.exp >>= fun e => dw ts [59] L.exp (ts.length + 1) (l ++ [e]) >>= fun l => bF ts [101, 110, 100] >>= fun _ => pure l) st' ∧ l.length = 1)
 case first =>
  have p0 := HPB.cell 0 _ rfl;refine ψn (S := (fun W => W.cell? ⟨pb, 0, none⟩ = some (bL b))) (by kernel_rfl) (by exact p0) (fun hH0 => ?_);refine tk 1 hH0 ?_;(try simp only [z0, zz])
  refine ψl (rs := [0, 2]) (by kernel_rfl) (by simp) (ξa rfl (fun K hK => ?_) (ξa rfl (fun K hK => ?_) ξb))
  · (try simp only [zz])
    have l0 := HLB.cell 0 _ rfl;have pq := HPB.cell 0 _ rfl;go_simp;refine hK _ _ (by exact pq) fun hH1 => ?_;clear hK K hH0;(try simp only [z0, zz])
    clear l0 pq;refine rk 2 fun K hK => ?_;(try simp only [zz])
    go_simp;refine (HLow.decs HC.p.drew (aC HR HNE)).mono (HC.drew.cl HR ?_);rintro x3 st3 v3 w3 U3 rfl HF3 HC HR;replace HLB := κ (HLB.drew.step HF3);replace HPB := κ (HPB.drew.step HF3);replace HL := κ (HL.drew.step HF3);go_wp2_with fail;refine hK _ _ (by exact HPB.cell 0 _ rfl) fun hH2 => ?_;clear hK K hH1;(try simp only [z0, zz])
    refine rk 3 fun K hK => ?_;(try simp only [zz])
    go_simp;refine hK _ _ (by exact ay (HPB.cell 0 _ rfl) _) fun hH3 => ?_;clear hK K hH2;(try simp only [z0, zz])
    exact Ra
  · (try simp only [zz])
    go_simp;refine (HLow.decs HC.p.drew (aC HR HNE)).mono (HC.drew.cl HR ?_);rintro x3 st3 v3 w3 U3 rfl HF3 HC HR;replace HLB := κ (HLB.drew.step HF3);replace HPB := κ (HPB.drew.step HF3);replace HL := κ (HL.drew.step HF3);go_wp2_with fail;refine hK _ _ (by exact HPB.cell 0 _ rfl) fun hH1 => ?_;clear hK K hH0;(try simp only [z0, zz])
    refine ψl (rs := [0, 3]) (by kernel_rfl) (by simp) (ξa rfl (fun K hK => ?_) (ξa rfl (fun K hK => ?_) ξb))
    · (try simp only [zz])
      have l0 := HLB.cell 0 _ rfl;have pq := HPB.cell 0 _ rfl;go_simp;refine hK _ _ (by exact pq) fun hH2 => ?_;clear hK K hH1;(try simp only [z0, zz])
      clear l0 pq;refine rk 3 fun K hK => ?_;(try simp only [zz])
      go_simp;refine hK _ _ (by exact ay (HPB.cell 0 _ rfl) _) fun hH3 => ?_;clear hK K hH2;(try simp only [z0, zz])
      exact Ra
    · (try simp only [zz])
      go_simp;refine hK _ _ (by exact ay (HPB.cell 0 _ rfl) _) fun hH2 => ?_;clear hK K hH1;(try simp only [z0, zz])
      refine rk 0 fun K hK => ?_;(try simp only [zz])
      have l0 := ay (HLB.cell 0 _ rfl) (.cells #[.int .i64 x3] 3);have pq := ay (HPB.cell 0 _ rfl) (.cells #[.int .i64 x3] 3);go_simp;refine hK _ _ (by exact pq) fun hH3 => ?_;clear hK K hH2;(try simp only [z0, zz])
      clear l0 pq;exact Ra
 case rest =>
  obtain ⟨l, st', U', hc, hp_, ⟨sv, hb_, hl_⟩, hr, hn1⟩ := hcut;have HC := κ hc;have HR := κ hr;have HPB := κ hp_;have HLB := κ hb_;have HL := κ hl_;clear hc hr hp_ hb_ hl_;have HLL := κ (show l.length ≤ 1099511627776 by omega);have HN := κ hn1;clear hn1;have p0 := HPB.cell 0 _ rfl;go_wp2_with fail;clear p0;refine (bf HT HC.p [105, 110]).mono (HC.cl HR ?_);rintro x4 st4 v4 w4 U4 rfl HF4 HC HR;replace HPB := κ (HPB.step HF4);replace HLB := κ (HLB.step HF4);replace HL := κ (HL.step HF4);go_wp2_with fail;go_cut [] (fun wx => ∃ (l : List Nat) (st' : PS) (U' : Rl), Cur w0 tv ts b (q :: qs) w (U.mark [lb]) wx U' st' ∧ Loc wx U' pb #[bL b] 72 ∧ (∃ sv, Loc wx U' lb #[sv] 39 ∧ LR w.heap.size wx U' sv (l.map Int.ofNat)) ∧ R = (dw ts [59] L.exp (ts.length + 1) l >>= fun l => bF ts [101, 110, 100] >>= fun _ => pure l) st' ∧ l.length = 2)
  case first =>
   have hll := HLL.out;have p0 := HPB.cell 0 _ rfl;refine ψn (S := (fun W => W.cell? ⟨pb, 0, none⟩ = some (bL b))) (by kernel_rfl) (by exact p0) (fun hH0 => ?_);refine tk 1 hH0 ?_;(try simp only [z0, zz])
   refine ψl (rs := [0, 2]) (by kernel_rfl) (by simp) (ξa rfl (fun K hK => ?_) (ξa rfl (fun K hK => ?_) ξb))
   · (try simp only [zz])
     have l0 := HLB.cell 0 _ rfl;have pq := HPB.cell 0 _ rfl;go_simp;refine hK _ _ (by exact pq) fun hH1 => ?_;clear hK K hH0;(try simp only [z0, zz])
     clear l0 pq;refine rk 2 fun K hK => ?_;(try simp only [zz])
     go_simp;refine (HLow.exp HC.p.drew (aC HR HNE)).mono (HC.drew.cl HR ?_);rintro x6 st6 v6 w6 U6 rfl HF6 HC HR;replace HLB := κ (HLB.drew.step HF6);replace HPB := κ (HPB.drew.step HF6);replace HL := κ (HL.drew.step HF6);go_wp2_with fail;refine hK _ _ (by exact HPB.cell 0 _ rfl) fun hH2 => ?_;clear hK K hH1;(try simp only [z0, zz])
     refine rk 3 fun K hK => ?_;(try simp only [zz])
     go_simp;refine hK _ _ (by exact ay (HPB.cell 0 _ rfl) _) fun hH3 => ?_;clear hK K hH2;(try simp only [z0, zz])
     exact Q9
   · (try simp only [zz])
     go_simp;refine (HLow.exp HC.p.drew (aC HR HNE)).mono (HC.drew.cl HR ?_);rintro x6 st6 v6 w6 U6 rfl HF6 HC HR;replace HLB := κ (HLB.drew.step HF6);replace HPB := κ (HPB.drew.step HF6);replace HL := κ (HL.drew.step HF6);go_wp2_with fail;refine hK _ _ (by exact HPB.cell 0 _ rfl) fun hH1 => ?_;clear hK K hH0;(try simp only [z0, zz])
     refine ψl (rs := [0, 3]) (by kernel_rfl) (by simp) (ξa rfl (fun K hK => ?_) (ξa rfl (fun K hK => ?_) ξb))
     · (try simp only [zz])
       have l0 := HLB.cell 0 _ rfl;have pq := HPB.cell 0 _ rfl;go_simp;refine hK _ _ (by exact pq) fun hH2 => ?_;clear hK K hH1;(try simp only [z0, zz])
       clear l0 pq;refine rk 3 fun K hK => ?_;(try simp only [zz])
       go_simp;refine hK _ _ (by exact ay (HPB.cell 0 _ rfl) _) fun hH3 => ?_;clear hK K hH2;(try simp only [z0, zz])
       exact Q9
     · (try simp only [zz])
       go_simp;refine hK _ _ (by exact ay (HPB.cell 0 _ rfl) _) fun hH2 => ?_;clear hK K hH1;(try simp only [z0, zz])
       refine rk 0 fun K hK => ?_;(try simp only [zz])
       have l0 := ay (HLB.cell 0 _ rfl) (.cells #[.int .i64 x6] 3);have pq := ay (HPB.cell 0 _ rfl) (.cells #[.int .i64 x6] 3);go_simp;refine hK _ _ (by exact pq) fun hH3 => ?_;clear hK K hH2;(try simp only [z0, zz])
       clear l0 pq;exact Q9
  case rest =>
   obtain ⟨l, st', U', hc, hp_, ⟨sv, hb_, hl_⟩, hr, hn2⟩ := hcut;have HC := κ hc;have HR := κ hr;have HPB := κ hp_;have HLB := κ hb_;have HL := κ hl_;clear hc hr hp_ hb_ hl_;have HLL := κ (show l.length ≤ 1099511627776 by omega);clear hn2;go_wp2_with fail;go_loopg [14] (ts.length + 1) (fun g v wx => ∃ (l : List Nat) (st' : PS) (U' : Rl), Cur w0 tv ts b (q :: qs) w (U.mark [lb]) wx U' st' ∧ Loc wx U' pb #[bL b] 72 ∧ (∃ sv, Loc wx U' lb #[sv] 39 ∧ LR w.heap.size wx U' sv (l.map Int.ofNat)) ∧ l.length ≤ 1099511627776 ∧ R = (dw ts [59] L.exp g l >>= fun l => bF ts [101, 110, 100] >>= fun _ => pure l) st')
   case atStart => exact ⟨l, st', U', HC, HPB, ⟨_, HLB, HL⟩, HLL, HR⟩
   case round =>
    obtain ⟨l, st', U', hc, hp_, ⟨sv, hb_, hl_⟩, hll_, hr⟩ := hrel;cases gk with
    | zero => exact absurd hr HNE
    | succ fu =>
     have HC := κ hc;have HR := κ hr;have HPB := κ hp_;have HLB := κ hb_;have HL := κ hl_;have HLL := κ hll_;clear hc hr hp_ hb_ hl_ hll_;replace HR := κ (dO HR);have p0 := HPB.cell 0 _ rfl;go_wp2_with fail;clear p0;refine (aI HT HC.p [59]).mono (HC.cl HR ?_);rintro x2 st2 v2 w2 U2 rfl HF2 HC HR;replace HPB := κ (HPB.step HF2);replace HLB := κ (HLB.step HF2);replace HL := κ (HL.step HF2);cases x2
     · first | replace HR := κ (spt HR.out) | replace HR := κ (spf HR.out)
       have p0 := HPB.cell 0 _ rfl;go_wp2_with fail;clear p0;refine (bf HT HC.p [101, 110, 100]).mono (HC.cl HR ?_);rintro x4 st4 v4 w4 U4 rfl HF4 HC HR;replace HPB := κ (HPB.step HF4);replace HLB := κ (HLB.step HF4);replace HL := κ (HL.step HF4);go_wp2_with fail;go_end0
       exact aG.good HR rfl ⟨rfl, ⟨_, HLB, HL.low HBW⟩, HLL⟩ HC.p HC.f
     · first | replace HR := κ (spt HR.out) | replace HR := κ (spf HR.out)
       go_wp2_with fail;have hll := HLL.out;have p0 := HPB.cell 0 _ rfl;refine ψn (S := (fun W => W.cell? ⟨pb, 0, none⟩ = some (bL b))) (by kernel_rfl) (by exact p0) (fun hH0 => ?_);refine tk 1 hH0 ?_;(try simp only [z0, zz])
       refine ψl (rs := [0, 2]) (by kernel_rfl) (by simp) (ξa rfl (fun K hK => ?_) (ξa rfl (fun K hK => ?_) ξb))
       · (try simp only [zz])
         have l0 := HLB.cell 0 _ rfl;have pq := HPB.cell 0 _ rfl;go_simp;refine hK _ _ (by exact pq) fun hH1 => ?_;clear hK K hH0;(try simp only [z0, zz])
         clear l0 pq;refine rk 2 fun K hK => ?_;(try simp only [zz])
         go_simp;refine (HLow.exp HC.p.drew (aC HR HNE)).mono (HC.drew.cl HR ?_);rintro x6 st6 v6 w6 U6 rfl HF6 HC HR;replace HLB := κ (HLB.drew.step HF6);replace HPB := κ (HPB.drew.step HF6);replace HL := κ (HL.drew.step HF6);go_wp2_with fail;refine hK _ _ (by exact HPB.cell 0 _ rfl) fun hH2 => ?_;clear hK K hH1;(try simp only [z0, zz])
         refine rk 3 fun K hK => ?_;(try simp only [zz])
         go_simp;refine hK _ _ (by exact ay (HPB.cell 0 _ rfl) _) fun hH3 => ?_;clear hK K hH2;(try simp only [z0, zz])
         exact Rb
       · (try simp only [zz])
         go_simp;refine (HLow.exp HC.p.drew (aC HR HNE)).mono (HC.drew.cl HR ?_);rintro x6 st6 v6 w6 U6 rfl HF6 HC HR;replace HLB := κ (HLB.drew.step HF6);replace HPB := κ (HPB.drew.step HF6);replace HL := κ (HL.drew.step HF6);go_wp2_with fail;refine hK _ _ (by exact HPB.cell 0 _ rfl) fun hH1 => ?_;clear hK K hH0;(try simp only [z0, zz])
         refine ψl (rs := [0, 3]) (by kernel_rfl) (by simp) (ξa rfl (fun K hK => ?_) (ξa rfl (fun K hK => ?_) ξb))
         · (try simp only [zz])
           have l0 := HLB.cell 0 _ rfl;have pq := HPB.cell 0 _ rfl;go_simp;refine hK _ _ (by exact pq) fun hH2 => ?_;clear hK K hH1;(try simp only [z0, zz])
           clear l0 pq;refine rk 3 fun K hK => ?_;(try simp only [zz])
           go_simp;refine hK _ _ (by exact ay (HPB.cell 0 _ rfl) _) fun hH3 => ?_;clear hK K hH2;(try simp only [z0, zz])
           exact Rb
         · (try simp only [zz])
           go_simp;refine hK _ _ (by exact ay (HPB.cell 0 _ rfl) _) fun hH2 => ?_;clear hK K hH1;(try simp only [z0, zz])
           refine rk 0 fun K hK => ?_;(try simp only [zz])
           have l0 := ay (HLB.cell 0 _ rfl) (.cells #[.int .i64 x6] 3);have pq := ay (HPB.cell 0 _ rfl) (.cells #[.int .i64 x6] 3);go_simp;refine hK _ _ (by exact pq) fun hH3 => ?_;clear hK K hH2;(try simp only [z0, zz])
           clear l0 pq;exact Rb
theorem Loc.setU {wc : World} {Uc : Rl} {K i : Nat} {cs : Array Value} {T : TypeId} (h : Loc wc Uc K cs T) (hb : Uc b = 1) (x : Value) : Loc (wc.setCell ⟨b, i, none⟩ x) Uc K cs T :=
 ⟨(ψf wc _ K x (by rintro rfl; have h2 := h.2; omega)).trans h.1, h.2⟩
theorem LR.setU {wc : World} {Uc : Rl} {B i : Nat} {v : Value} {l : List Int} (h : LR B wc Uc v l) (hb : Uc b = 1) (x : Value) : LR B (wc.setCell ⟨b, i, none⟩ x) Uc v l :=
 ⟨cE h.1 fun k e => ψf wc _ k x (by rintro rfl; have h2 := h.2 _ e; omega), h.2⟩
theorem vC.stable {lb pb : Nat} (wa : World) (Ua : Rl) (wb : World) (Ub : Rl) (h : vC b lb pb wa Ua) (hf : Fr wa Ua wb Ub) : vC b lb pb wb Ub := ⟨h.1.step hf, h.2.step hf⟩
theorem K5.stable {B lb : Nat} (l : List Nat) (v : Value) (wa : World) (Ua : Rl) (y : Value) (h : K5 B lb l v wa Ua) (hb : Ua b = 1) : K5 B lb l v (wa.setCell ⟨b, 5, none⟩ y) Ua :=
 ⟨h.1, let ⟨sv, h1, h2⟩ := h.2.1; ⟨sv, h1.setU hb y, h2.setU hb y⟩, h.2.2⟩
theorem J6 (HT : Tks w0 tv ts) (HLow : bW w0 tv ts b L) (s : Int × Int) (hp : TSt w0 tv ts b qs w U st) (hne : Gc ts L s st ≠ .error .out) :
 Calls Tryz.prog 300 #[bL b, .agg #[.int .i64 s.1, .int .i64 s.2]] w (aG w0 tv ts b qs idR (Gc ts L s st) w U) := by
 obtain ⟨R, hR⟩ : ∃ R, Gc ts L s st = R := ⟨_, rfl⟩;rw [hR] at hne ⊢;have HNE := κ hne;unfold Gc at hR;have HR := κ hR.symm;have HC := κ (Cur.start hp);clear hR hne hp;go_enter Tryz.func300, Tryz.ntmps300;go_wp2_with fail;have HPB := κ ((Loc.new HC #[bL b] 72).alloc (.cells #[.int .i64 s.1, .int .i64 s.2] 109));have HS := κ (Loc.new (HC.alloc (.cells #[bL b] 72)) #[.int .i64 s.1, .int .i64 s.2] 109);have hc_ := (HC.alloc (.cells #[bL b] 72)).alloc (.cells #[.int .i64 s.1, .int .i64 s.2] 109);rw [show (w.alloc (.cells #[bL b] 72)).heap.size = w.heap.size + 1 from by simp] at HS;have HC := κ hc_;clear hc_;have hpb_ := HPB.alloc (.cells #[.slice none 0 0] 39);have hs_ := HS.alloc (.cells #[.slice none 0 0] 39);have hlb_ := Loc.new HC #[.slice none 0 0] 39;rw [show ((w.alloc (.cells #[bL b] 72)).alloc (.cells #[.int .i64 s.1, .int .i64 s.2] 109)).heap.size = w.heap.size + 2 from by simp] at hlb_;have hc_ := HC.alloc (.cells #[.slice none 0 0] 39);have HC := κ hc_;have HPB := κ hpb_;have HS := κ hs_;have HLB := κ hlb_;clear hc_ hpb_ hs_ hlb_;have hr_ : R = (dQ (ES ts L) >>= fun l => aV s 16 [] l) st := HR.out;have HR := κ hr_;clear hr_;have p0 := HPB.cell 0 _ rfl;go_wp2_with fail;have hle := HC.le;refine (r9 307 #[.pointer (some ⟨w.heap.size + 2, 0, none⟩), .pointer (some ⟨w.heap.size, 0, none⟩)] [w.heap.size + 2] (vC b (w.heap.size + 2) w.heap.size) (K5 w.heap.size (w.heap.size + 2)) (ES ts L) (fun _ _ => rfl) vC.stable K5.stable (fun _ _ _ _ h => h.1) (Hp HT HLow _ _ _ (by omega) (by omega) (by omega)) ⟨HLB, HPB⟩ HC.p (aC HR HNE)).mono ?_;intro e w2 hq2;rcases HC.callM hq2 (fun i hi => by simp at hi; subst hi; left; omega) HR.out with ⟨x2, st2, v2, U2, rfl, ⟨rfl, ⟨sv, hlb, hlr⟩, hll⟩, hc2, hf2, hr2⟩ | ⟨ln, cl, kd, rfl, hb2, hd2⟩;rotate_left
 · clear hq2 hb2;have HD := κ hd2; clear hd2;go_wp2_with fail;exact ⟨rfl, HD _⟩
 have hpb_ := HPB.stepM hf2 (by simp);have hs_ := HS.stepM hf2 (by simp);clear HC HR HPB HS HLB hq2 hf2 p0;have HC := κ hc2;have HR := κ hr2;have HLL := κ hll;have HLR := κ hlr;have p0 := hpb_.cell 0 _ rfl;have s0 := hs_.cell 0 _ rfl;have s1 := hs_.cell 1 _ rfl;have l0 := hlb.cell 0 _ rfl;clear hc2 hr2 hll hlr hpb_ hs_ hlb;go_wp2_with fail;clear p0 s0 s1 l0;have hl := HC.own HLR;have hll := HLL.out;refine (bK hl.1.p s 16 [] x2 hl.2.1 hl.2.2 (by omega) (HR.out ▸ HNE.out)).mono (hl.1.ls HR.out ?_);rintro x9 v9 w9 U9 rfl HFIN;go_wp2_with fail;go_ret;exact HFIN
end
section
variable {w0 : World} {tv : Value} {ts : List Tok} {b : Nat} {qs : List Nat} {w : World} {U : Rl} {st : PS} {L : Low}
theorem RN {p : Prop} (h : p := by
 rintro x8 st8 v8 w8 U8 rfl HF8 HC HR;replace HS := κ (HS.lits.drew.step HF8);clear hl;go_wp2_with fail;refine hK _ _ (by exact ⟨HS.cell 0 _ rfl, HS.cell 1 _ rfl⟩) fun hH2 => ?_;clear hK K hH1;(try simp only [z0, zz])
 refine rk 9 fun K hK => ?_;(try simp only [zz])
 go_simp;refine hK _ _ (by exact ⟨ay (HS.cell 0 _ rfl) _, ay (HS.cell 1 _ rfl) _⟩) fun hH3 => ?_;clear hK K hH2;(try simp only [z0, zz])
 refine rk 10 fun K hK => ?_;(try simp only [zz])
 go_simp;replace HR := κ (aQ HR);have hl := HC.lit [x8] _ rfl (by unfold maxLen; simp);refine (bK hl.1.p s 28 x4 [x8] hl.2.1 hl.2.2 (by simp) (aC HR.out HNE.out)).mono (hl.1.cl HR.out ?_);rintro x9 st9 v9 w9 U9 rfl HF9 HC HR;replace HS := κ (HS.lits.step HF9);clear hl;go_wp2_with fail;refine hK _ _ (by exact ⟨HS.cell 0 _ rfl, HS.cell 1 _ rfl⟩) fun hH4 => ?_;clear hK K hH3;(try simp only [z0, zz])
 refine tk 11 hH4 ?_;(try simp only [z0, zz])
 refine ψk (by kernel_rfl) ?_ _;go_wp2_with fail;go_ret;exact aG.good HR rfl rfl HC.p HC.f
 ) : p := h
theorem xS (HT : Tks w0 tv ts) (HLow : bW w0 tv ts b L) (s : Int × Int) (hp : TSt w0 tv ts b qs w U st) (hne : eT ts L s st ≠ .error .out) :
 Calls Tryz.prog 260 #[bL b, .agg #[.int .i64 s.1, .int .i64 s.2]] w (aG w0 tv ts b qs idR (eT ts L s st) w U) := by
 obtain ⟨R, hR⟩ : ∃ R, eT ts L s st = R := ⟨_, rfl⟩;rw [hR] at hne ⊢;have HNE := κ hne;unfold eT at hR;have HR := κ hR.symm;have HC := κ (Cur.start hp);clear hR hne hp;go_enter Tryz.func260, Tryz.ntmps260;cases htb : qd ts st
 · exact absurd (HR.trans (dB (by unfold jm; rw [htb]; rfl))) HNE.out
 have HS := κ (Loc.new HC #[.int .i64 s.1, .int .i64 s.2] 109);replace HC := κ (HC.alloc (.cells #[.int .i64 s.1, .int .i64 s.2] 109));obtain ⟨lb, hlb⟩ : ∃ lb, dF ts st = lb := ⟨_, rfl⟩;have hr_ : R = (isM ts 1 [61] >>= fun eq => if (lb != [] && eq) = true then (cK ts >>= fun text => cu ts 1 >>= fun _ => L.pat >>= fun i => aV s 28 text [i]) else (mJ ts 0 >>= fun t => if (!cJ t) = true then (if (lb != []) = true then (cu ts 1 >>= fun _ => jK ts) else jK ts) else (aW ts >>= fun text => aX ts [58] >>= fun typed => (if typed = true then L.ty else pure 0) >>= fun ty => aX ts [97, 115] >>= fun c => if c = true then (L.pat >>= fun q => (if typed = true then (ofM q >>= fun o => aV o 37 [] [q, ty]) else pure q) >>= fun q => aV s 38 text [q] >>= fun i => aV s 28 text [i]) else (aV s 31 text [] >>= fun i => (if typed = true then aV s 37 [] [i, ty] else pure i) >>= fun i => aV s 28 text [i])))) st := HR.trans (bind_ok (by unfold jm; rw [htb, hlb]; rfl));have HR := κ hr_;clear hr_;replace HR := κ (aK (g := isP ts 1 [61]) HR);have HTB := κ htb;have HLB := κ hlb;clear htb hlb;go_upto_region 1 with fail;obtain ⟨wb, hwb⟩ : ∃ wb, w.alloc (.cells #[.int .i64 s.1, .int .i64 s.2] 109) = wb := ⟨_, rfl⟩;rw [hwb] at HC HS ⊢;clear hwb;go_cut [18] (fun v wx => v = .bool (lb != [] && isP ts 1 [61] st) ∧ Below wb.heap.size wb wx)
 case first =>
  go_wp2_with fail;refine (rY HT HC.p HTB).mono ?_;rw [HLB.out];rintro e w1 ⟨rfl, hb1⟩;have HB1 := κ hb1;have hc1 := HC.below hb1;clear HC hb1;have HC := κ hc1;clear hc1;by_cases hl : lb = []
  · have hl2 : (lb == []) = true := by rw [hl]; rfl
    rw [hl];go_wp2_with fail;go_meet
    exact ⟨by rw [hl]; rfl, HB1.out⟩
  · have hl2 : (lb == []) = false := by rw [ξY]; exact hl
    go_wp2_with fail;refine (gq HT HC.p 1 (by omega) [61]).mono ?_;rintro e w2 ⟨rfl, hb2⟩;have HB2 := κ (HB1.trans (hb2.mono HB1.size));clear hb2;go_wp2_with fail;go_meet
    exact ⟨by rw [show (lb != []) = true from by simpa using hl, Bool.true_and], HB2.out⟩
 case rest =>
  obtain ⟨rfl, hbx⟩ := hcut;have hc1 := HC.below hbx;have hs1 := HS.below hbx;clear HC HS hbx;have HC := κ hc1;have HS := κ hs1;clear hc1 hs1;obtain ⟨B, hB⟩ : ∃ B, (lb != [] && isP ts 1 [61] st) = B := ⟨_, rfl⟩;rw [hB] at HR ⊢;clear hB;cases B;rotate_left
  · replace HR := HR.out;simp only [ξh, ↓reduceIte] at HR;replace HR := κ HR;go_wp2_with fail;refine (kC HT HC.p (aC HR HNE)).mono (HC.cl HR ?_);rintro x3 st3 v3 w3 U3 rfl HF3 HC HR;replace HS := κ (HS.step HF3);obtain ⟨⟨nv_, dv_, c1_⟩, hf1_, hpos_, hlen_⟩ := HC.ats HT;go_wp2_with fail;clear c1_ hf1_ hpos_ hlen_;have HS := κ (HS.setb HC (i := 1) (.int .i64 ((st3.pos : Int) + 1)));have hk_ := HC.skip (1) HR HNE;have HC := κ hk_.1;have HR := κ hk_.2;clear hk_;have s0 := HS.cell 0 _ rfl;have s1 := HS.cell 1 _ rfl;refine ψn (S := (fun W => W.cell? ⟨w.heap.size, 0, none⟩ = some (.int .i64 s.1) ∧ W.cell? ⟨w.heap.size, 1, none⟩ = some (.int .i64 s.2))) (by kernel_rfl) (by exact ⟨s0, s1⟩) (fun hH0 => ?_);refine tk 0 hH0 ?_;refine tk 1 hH0 ?_;refine tk 2 hH0 ?_;refine tk 3 hH0 ?_;(try simp only [z0, zz])
    refine rk 4 fun K hK => ?_;(try simp only [zz])
    go_simp;refine (HLow.pat HC.p.drew (aC HR HNE)).mono (HC.drew.cl HR ?_);rintro x5 st5 v5 w5 U5 rfl HF5 HC HR;replace HS := κ (HS.drew.step HF5);go_wp2_with fail;refine hK _ _ (by exact ⟨HS.cell 0 _ rfl, HS.cell 1 _ rfl⟩) fun hH1 => ?_;clear hK K hH0;(try simp only [z0, zz])
    refine rk 5 fun K hK => ?_;(try simp only [zz])
    go_simp;refine hK _ _ (by exact ⟨ay (HS.cell 0 _ rfl) _, ay (HS.cell 1 _ rfl) _⟩) fun hH2 => ?_;clear hK K hH1;(try simp only [z0, zz])
    refine rk 6 fun K hK => ?_;(try simp only [zz])
    go_simp;replace HR := κ (aQ HR);have hl := HC.lit [x5] _ rfl (by unfold maxLen; simp);refine (bK hl.1.p s 28 x3 [x5] hl.2.1 hl.2.2 (by simp) (aC HR.out HNE.out)).mono (hl.1.cl HR.out ?_);rintro x6 st6 v6 w6 U6 rfl HF6 HC HR;replace HS := κ (HS.lits.step HF6);clear hl;go_wp2_with fail;refine hK _ _ (by exact ⟨HS.cell 0 _ rfl, HS.cell 1 _ rfl⟩) fun hH3 => ?_;clear hK K hH2;(try simp only [z0, zz])
    refine tk 7 hH3 ?_;(try simp only [z0, zz])
    refine ψk (by kernel_rfl) ?_ _;go_wp2_with fail;go_ret;exact aG.good HR rfl rfl HC.p HC.f
  replace HR := HR.out;simp only [ξh, ↓reduceIte] at HR;replace HR := κ HR;go_wp2_with fail;replace HR := κ (aK (g := aB ts 0) HR);refine (aU HT HC.p 0 (by omega)).mono ?_;rintro e w2 ⟨⟨pv, rfl, hs⟩, hb2⟩;have hc2 := HC.below hb2;replace HS := κ (HS.below hb2);clear HC hb2;have HC := κ hc2;clear hc2;obtain ⟨t, ht⟩ : ∃ t, aB ts 0 st = t := ⟨_, rfl⟩;rw [ht] at hs ⊢;(try rw [ht] at HR)
  have HTS := κ (ht ▸ bC HT 0 st);have HTT := κ ht;clear ht;have HP := κ hs;obtain ⟨a, cap, rfl, -⟩ := hs;unfold tkV;have HTK := κ (Loc.new HC #[.int .i64 t.kind, str t.text, .slice a t.path.length cap, .int .i64 t.line, .int .i64 t.col] 32);have hc_ := HC.alloc (.cells #[.int .i64 t.kind, str t.text, .slice a t.path.length cap, .int .i64 t.line, .int .i64 t.col] 32);replace HS := κ (HS.alloc (.cells #[.int .i64 t.kind, str t.text, .slice a t.path.length cap, .int .i64 t.line, .int .i64 t.col] 32));have HC := κ hc_;clear hc_;go_wp2_with fail;refine (fD t _ w0 HP).mono ?_;rintro e w3 ⟨rfl, hb3⟩;replace HC := κ (HC.below hb3);replace HS := κ (HS.below hb3);have HB3 := κ hb3;clear hb3;cases hn : cJ t
  · replace HR := HR.out;simp only [hn, Bool.not_false, ξh, ↓reduceIte] at HR;replace HR := κ HR;go_wp2_with fail;refine (rY HT HC.p HTB).mono ?_;rw [HLB.out];rintro e w4 ⟨rfl, hb4⟩;have hc4 := HC.below hb4;clear HC HS hb4;have HC := κ hc4;clear hc4;by_cases hl : lb = []
    · have hr_ : R = jK ts st := by rw [HR.out]; simp [hl]
      have HR := κ hr_;clear hr_;rw [hl];go_wp2_with fail;refine (iT HT HC.p).mono ?_;rintro e w9 ⟨rfl, hb9⟩;have HB9 := κ hb9; clear hb9;go_wp2_with fail;exact ⟨rfl, aG.bad HR rfl (HC.p.base.trans (HB9.mono HC.p.base.size))⟩
    · have hr_ : R = (cu ts 1 >>= fun _ => jK ts) st := by rw [HR.out]; simp [hl]
      have HR := κ hr_;clear hr_;have hl2 : (lb == []) = false := by rw [ξY]; exact hl
      clear hl;obtain ⟨⟨nv_, dv_, c1_⟩, hf1_, hpos_, hlen_⟩ := HC.ats HT;go_wp2_with fail;clear c1_ hf1_ hpos_ hlen_;have hk_ := HC.skip (1) HR HNE;have HC := κ hk_.1;have HR := κ hk_.2;clear hk_;refine (iT HT HC.p).mono ?_;rintro e w9 ⟨rfl, hb9⟩;have HB9 := κ hb9; clear hb9;go_wp2_with fail;exact ⟨rfl, aG.bad HR rfl (HC.p.base.trans (HB9.mono HC.p.base.size))⟩
  · replace HR := HR.out;simp only [hn, Bool.not_true, ξh, ↓reduceIte] at HR;replace HR := κ HR;go_wp2_with fail;refine (bI HT HC.p).mono (HC.cl HR ?_);rintro x4 st4 v4 w4 U4 rfl HF4 HC HR;replace HS := κ (HS.step HF4);go_wp2_with fail;refine (aI HT HC.p [58]).mono (HC.cl HR ?_);rintro x5 st5 v5 w5 U5 rfl HF5 HC HR;replace HS := κ (HS.step HF5);cases x5
    · replace HR := HR.out;simp only [ξh, ↓reduceIte] at HR;replace HR := κ HR;have hr_ : R = (aX ts [97, 115] >>= fun c => if c = true then (L.pat >>= fun q => aV s 38 x4 [q] >>= fun i => aV s 28 x4 [i]) else (aV s 31 x4 [] >>= fun i => aV s 28 x4 [i])) st5 := HR.out;have HR := κ hr_;clear hr_;go_wp2_with fail;refine (aI HT HC.p [97, 115]).mono (HC.cl HR ?_);rintro x6 st6 v6 w6 U6 rfl HF6 HC HR;replace HS := κ (HS.step HF6);cases x6
      · replace HR := HR.out;simp only [ξh, ↓reduceIte] at HR;replace HR := κ HR;have s0 := HS.cell 0 _ rfl;have s1 := HS.cell 1 _ rfl;go_wp2_with fail;clear s0 s1;refine (bK HC.p s 31 x4 [] (Ints.nil _) (Im.nil _ _) (by simp) (aC HR.out HNE.out)).mono (HC.cl HR.out ?_);rintro x7 st7 v7 w7 U7 rfl HF7 HC HR;replace HS := κ (HS.step HF7);have s0 := HS.cell 0 _ rfl;have s1 := HS.cell 1 _ rfl;go_wp2_with fail;clear s0 s1;have hl := HC.lit [x7] _ rfl (by unfold maxLen; simp);refine (bK hl.1.p s 28 x4 [x7] hl.2.1 hl.2.2 (by simp) (HR.out ▸ HNE.out)).mono (hl.1.ls HR.out ?_);rintro x9 v9 w9 U9 rfl HFIN;clear hl;go_wp2_with fail;go_ret;exact HFIN
      · replace HR := HR.out;simp only [ξh, ↓reduceIte] at HR;replace HR := κ HR;go_wp2_with fail;refine (HLow.pat HC.p (aC HR HNE)).mono (HC.cl HR ?_);rintro x7 st7 v7 w7 U7 rfl HF7 HC HR;replace HS := κ (HS.step HF7);have s0 := HS.cell 0 _ rfl;have s1 := HS.cell 1 _ rfl;go_wp2_with fail;refine ψn (S := (fun W => W.cell? ⟨w.heap.size, 0, none⟩ = some (.int .i64 s.1) ∧ W.cell? ⟨w.heap.size, 1, none⟩ = some (.int .i64 s.2))) (by kernel_rfl) (by exact ⟨s0, s1⟩) (fun hH0 => ?_);refine tk 0 hH0 ?_;refine tk 1 hH0 ?_;refine tk 2 hH0 ?_;refine tk 3 hH0 ?_;refine tk 4 hH0 ?_;refine tk 5 hH0 ?_;refine tk 6 hH0 ?_;(try simp only [z0, zz])
        refine rk 7 fun K hK => ?_;(try simp only [zz])
        go_simp;refine hK _ _ (by exact ⟨ay s0 _, ay s1 _⟩) fun hH1 => ?_;clear hK K hH0;(try simp only [z0, zz])
        refine rk 8 fun K hK => ?_;(try simp only [zz])
        go_simp;have hl := HC.lit [x7] _ rfl (by unfold maxLen; simp);refine (bK hl.1.p.drew s 38 x4 [x7] hl.2.1 hl.2.2 (by simp) (aC HR.out HNE.out)).mono (hl.1.drew.cl HR.out ?_);exact RN
    · replace HR := HR.out;simp only [ξh, ↓reduceIte] at HR;replace HR := κ HR;go_wp2_with fail;refine (HLow.ty HC.p (aC HR HNE)).mono (HC.cl HR ?_);rintro x10 st10 v10 w10 U10 rfl HF10 HC HR;replace HS := κ (HS.step HF10);go_wp2_with fail;refine (aI HT HC.p [97, 115]).mono (HC.cl HR ?_);rintro x6 st6 v6 w6 U6 rfl HF6 HC HR;replace HS := κ (HS.step HF6);cases x6
      · replace HR := HR.out;simp only [ξh, ↓reduceIte] at HR;replace HR := κ HR;have s0 := HS.cell 0 _ rfl;have s1 := HS.cell 1 _ rfl;go_wp2_with fail;clear s0 s1;refine (bK HC.p s 31 x4 [] (Ints.nil _) (Im.nil _ _) (by simp) (aC HR.out HNE.out)).mono (HC.cl HR.out ?_);rintro x7 st7 v7 w7 U7 rfl HF7 HC HR;replace HS := κ (HS.step HF7);have s0 := HS.cell 0 _ rfl;have s1 := HS.cell 1 _ rfl;go_wp2_with fail;clear s0 s1;have hl := HC.lit [x7, x10] _ rfl (by unfold maxLen; simp);refine (bK hl.1.p s 37 [] [x7, x10] hl.2.1 hl.2.2 (by simp) (aC HR.out HNE.out)).mono (hl.1.cl HR.out ?_);rintro x11 st11 v11 w11 U11 rfl HF11 HC HR;replace HS := κ (HS.lits.step HF11);clear hl;have s0 := HS.cell 0 _ rfl;have s1 := HS.cell 1 _ rfl;go_wp2_with fail;clear s0 s1;have hl := HC.lit [x11] _ rfl (by unfold maxLen; simp);refine (bK hl.1.p s 28 x4 [x11] hl.2.1 hl.2.2 (by simp) (HR.out ▸ HNE.out)).mono (hl.1.ls HR.out ?_);rintro x9 v9 w9 U9 rfl HFIN;clear hl;go_wp2_with fail;go_ret;exact HFIN
      · replace HR := HR.out;simp only [ξh, ↓reduceIte] at HR;replace HR := κ HR;go_wp2_with fail;refine (HLow.pat HC.p (aC HR HNE)).mono (HC.cl HR ?_);rintro x7 st7 v7 w7 U7 rfl HF7 HC HR;replace HS := κ (HS.step HF7);have hr_ : R = (ofM x7 >>= fun o => aV o 37 [] [x7, x10] >>= fun q => aV s 38 x4 [q] >>= fun i => aV s 28 x4 [i]) st7 := HR.trans (aA _ _ _ _);have HR := κ hr_;clear hr_;go_wp2_with fail;have ho_ := dX HR HNE;have hlt := ho_.1;have HR := κ ho_.2;clear ho_;refine (fN HC.p x7 hlt).mono ?_;rintro e w12 ⟨rfl, hb12⟩;replace HC := κ (HC.below hb12);replace HS := κ (HS.below hb12);have HB12 := κ hb12;clear hb12;clear hlt HB12;go_wp2_with fail;have hl := HC.lit [x7, x10] _ rfl (by unfold maxLen; simp);refine (aS hl.1.p (ofP x7 st7) 37 [] [x7, x10] _ hl.2.1 hl.2.2 (by simp) (aC HR.out HNE.out)).mono (hl.1.cl HR.out ?_);rintro x11 st11 v11 w11 U11 rfl HF11 HC HR;replace HS := κ (HS.lits.step HF11);clear hl;have s0 := HS.cell 0 _ rfl;have s1 := HS.cell 1 _ rfl;go_wp2_with fail;refine ψn (S := (fun W => W.cell? ⟨w.heap.size, 0, none⟩ = some (.int .i64 s.1) ∧ W.cell? ⟨w.heap.size, 1, none⟩ = some (.int .i64 s.2))) (by kernel_rfl) (by exact ⟨s0, s1⟩) (fun hH0 => ?_);refine tk 0 hH0 ?_;refine tk 1 hH0 ?_;refine tk 2 hH0 ?_;refine tk 3 hH0 ?_;refine tk 4 hH0 ?_;refine tk 5 hH0 ?_;refine tk 6 hH0 ?_;(try simp only [z0, zz])
        refine rk 7 fun K hK => ?_;(try simp only [zz])
        go_simp;refine hK _ _ (by exact ⟨ay s0 _, ay s1 _⟩) fun hH1 => ?_;clear hK K hH0;(try simp only [z0, zz])
        refine rk 8 fun K hK => ?_;(try simp only [zz])
        go_simp;have hl := HC.lit [x11] _ rfl (by unfold maxLen; simp);refine (bK hl.1.p.drew s 38 x4 [x11] hl.2.1 hl.2.2 (by simp) (aC HR.out HNE.out)).mono (hl.1.drew.cl HR.out ?_);exact RN
end
end Go.Proofs.YtbchkldhnjahaaaGreatDoor
