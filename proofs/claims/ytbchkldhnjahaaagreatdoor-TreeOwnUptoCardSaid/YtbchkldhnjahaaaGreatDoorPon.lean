/- Part of the proof. Conditions: those of each theorem. -/
import Derived.Deep.RegionLawGrows
import Derived.Deep.RegionHeld3
import Derived.Test.YtbchkldhnjahaaaGreatDoorPoa
import Derived.Test.YtbchkldhnjahaaaGreatDoorPoj
import Derived.Test.YtbchkldhnjahaaaGreatDoorPom
set_option maxRecDepth 100000
set_option maxHeartbeats 40000000
namespace Go.Proofs.YtbchkldhnjahaaaGreatDoor
open Go.RowKit Kiln
open Go.Proofs
section
variable {w0 : World} {tv : Value} {ts : List Tok} {b : Nat} {qs : List Nat} {w : World} {U : Rl} {st : PS} {L : Low}
structure Arg (wc : World) (Uc : Rl) (v : Value) (l : List Nat) : Prop where
 ints : Ints wc v (l.map Int.ofNat)
 im : Im Uc v 0
 lt : ∀ k, v.ownBlock = some k → k < wc.heap.size
 cap : ∀ a n c, v = .slice a n c → n ≤ c
theorem Arg.step {wc : World} {Uc : Rl} {v : Value} {l : List Nat} (h : Arg wc Uc v l) {w' : World} {U' : Rl} (hf : Fr wc Uc w' U') : Arg w' U' v l :=
 ⟨h.ints.keep fun k e => hf.keep k (h.lt k e) (h.im k e), fun k e => hf.sub k (h.lt k e) (h.im k e), fun k e => ξH (h.lt k e) hf.size, h.cap⟩
theorem Arg.below {wc : World} {Uc : Rl} {v : Value} {l : List Nat} (h : Arg wc Uc v l) {w' : World} (hb : Below wc.heap.size wc w') : Arg w' Uc v l :=
 ⟨h.ints.keep fun k e => hb.block k (h.lt k e), h.im, fun k e => ξH (h.lt k e) hb.size, h.cap⟩
theorem Arg.alloc {wc : World} {Uc : Rl} {v : Value} {l : List Nat} (h : Arg wc Uc v l) (o : Obj) : Arg (wc.alloc o) Uc v l := h.below (bQ (ξf _ _) o)
theorem LR.arg {B : Nat} {wc : World} {Uc : Rl} {v : Value} {l : List Nat} (h : LR B wc Uc v (l.map Int.ofNat)) : Arg wc Uc v l := ⟨h.ints, h.2, fun k e => (h.lt k e).2, fun a n c e => by
 subst e;rcases h.1.2 with ⟨e, h0⟩ | ⟨g, cap, cur, e, _, _, hle, _⟩
 · simp only [ξR] at e; omega
 · simp only [ξR] at e; omega⟩
theorem Arg.at {wc : World} {Uc : Rl} {ab off m cap : Nat} {l : List Nat} (h : Arg wc Uc (.slice (some ⟨ab, off, none⟩) m cap) l) {i x : Nat} (hx : l[i]? = some x) : wc.cell? ⟨ab, off + i, none⟩ = some (.int .i64 x) := by
 obtain ⟨a, c, e, hl⟩ := dP h.ints;simp only [ξR] at e;obtain ⟨b', off', e2, hc⟩ := hl i x (by simp [hx]);rw [← e.1] at e2;simp only [ξO, Addr.mk.injEq] at e2;obtain ⟨rfl, rfl, _⟩ := e2;exact hc
theorem Arg.addr {wc : World} {Uc : Rl} {ao : Option Addr} {m cap : Nat} {l : List Nat} (h : Arg wc Uc (.slice ao m cap) l) {i x : Nat} (hx : l[i]? = some x) : ∃ ab off, ao = some ⟨ab, off, none⟩ := by
 obtain ⟨a, c, e, hl⟩ := dP h.ints;simp only [ξR] at e;obtain ⟨b', off', e2, hc⟩ := hl i x (by simp [hx]);exact ⟨b', off', by rw [e.1, e2]⟩
theorem Loc.lit {wc : World} {Uc : Rl} {L r : Nat} {cs : Array Value} {T : TypeId} {o : Obj} (h : Loc wc Uc L cs T) : Loc (wc.alloc o) (Uc.set wc.heap.size r) L cs T := (h.alloc o).set (Nat.ne_of_lt h.lt)
theorem Arg.lit {wc : World} {Uc : Rl} {r : Nat} {v : Value} {l : List Nat} {o : Obj} (h : Arg wc Uc v l) : Arg (wc.alloc o) (Uc.set wc.heap.size r) v l :=
 ⟨(h.alloc o).ints, fun k e => (Rl.set_other (Nat.ne_of_lt (h.lt k e))).trans (h.im k e), (h.alloc o).lt, h.cap⟩
theorem Arg.drew {wc : World} {Uc : Rl} {v : Value} {l : List Nat} (h : Arg wc Uc v l) : Arg wc.drew Uc v l := ⟨h.ints, h.im, h.lt, h.cap⟩
theorem FZ (g o n : Nat) : (⟨g, o, none⟩ : Addr).add n = ⟨g, o + n, none⟩ := by
 unfold Addr.add;split
 · rename_i h; simp_all
 · rfl
theorem Cur.grown0 {wc : World} {Uc : Rl} {stc : PS} (h : Cur w0 tv ts b qs w U wc Uc stc) {w2 : World} (hg : wc.grownBy w2 none) : Cur w0 tv ts b qs w U w2 Uc stc :=
 ⟨h.p.grown hg (fun k e => by cases e), h.f.grown hg (fun k e => by cases e), h.le⟩
theorem Arg.olds {wc : World} {Uc : Rl} {ab off m cap n : Nat} {l : List Nat} (h : Arg wc Uc (.slice (some ⟨ab, off, none⟩) m cap) l) :
 ∀ a : Addr, some (⟨ab, off, none⟩ : Addr) = some a → ∀ (j : Nat) u, (((l.take n).map Int.ofNat).map (Value.int .i64))[j]? = some u → wc.cell? (a.add j) = some u := by
 intro a e j u hu;simp only [ξO] at e;subst e;rw [FZ];simp only [ξ0, ξN] at hu;obtain ⟨x, ⟨y, hy, rfl⟩, rfl⟩ := hu;rw [List.getElem?_take] at hy;split at hy
 · exact h.at hy
 · cases hy
theorem Jf {w : World} {B B' n size : Nat} {e : TypeId} {v : Value} {ys : List Value} (h : w.ownsRow B e size v n ys) (hB : B' ≤ B) : w.ownsRow B' e size v n ys := by
 refine ⟨h.1, ?_⟩;rcases h.2 with hn | ⟨g, cap, cur, hv, hb, rest⟩
 · exact .inl hn
 · exact .inr ⟨g, cap, cur, hv, ξG hB hb, rest⟩
theorem RI {p : Prop} (h : p := by
 rintro x3 st3 v3 w3 U3 rfl HF3 HC HR;replace HS := κ (HS.lit.drew.step HF3);replace HK := κ (HK.lit.drew.step HF3);replace HA := κ (HA.lit.drew.step HF3);clear hl;go_wp2_with fail;refine hK _ _ (by exact ⟨HS.cell 4 _ rfl, HS.cell 5 _ rfl, HK.cell 2 _ rfl⟩) fun hH2 => ?_;clear hK K hH1;(try simp only [z0, zz])
 refine rk 15 fun K hK => ?_;(try simp only [zz])
 go_simp;refine hK _ _ (by exact ⟨(HS.alloc _).cell 4 _ rfl, (HS.alloc _).cell 5 _ rfl, (HK.alloc _).cell 2 _ rfl⟩) fun hH3 => ?_;clear hK K hH2;(try simp only [z0, zz])
 refine rk 16 fun K hK => ?_;refine step_append_grows rfl (.tmp 48) (.tmp 58) 39 rfl 3 j0 (.int .i64 0) 1 8 Tryz.underlying39 HJ.out.1 HJ.out.2.1 HJ.out.2.2.1 HJ.out.2.2.2 rfl (by decide) (some ⟨ab, off, none⟩) n n (((args.take n).map Int.ofNat).map (Value.int .i64)) (by simp [Act.eval]) (fun h => by cases h) (by have := HQ.out.2.2; simp; omega) (HA.alloc _).olds ⟨w3.heap.size, 0, none⟩ 1 1 [.int .i64 x3] (by simp [Act.eval]) rfl (ξW (ψe _ _)) (bP _) (by omega) (by unfold maxLen; omega) (by omega) ?_;intro v4 w4 hrow hgr;have HC4 := κ ((HC.alloc _).grown0 hgr);have HS4 := κ ((HS.alloc _).below ((ξf _ _).grown hgr (ξF _) (fun k e => by cases e)));have HK4 := κ ((HK.alloc _).below ((ξf _ _).grown hgr (ξF _) (fun k e => by cases e)));have hlen := HQ.out.2.2;have HV : RowKit.Hid (LR w.heap.size w4 U3 v4 ((args.take n ++ [x3]).map Int.ofNat)) := ⟨by
  have := Jf (B' := w.heap.size) hrow (by have := HC.size; simp; omega);simpa [hlen] using this, fun k e => HC.p.zero (by have := (hrow.lt k e).1; simp at this; omega)⟩
 clear hlen hrow hgr;refine hK _ _ (by exact ⟨HS4.cell 4 _ rfl, HS4.cell 5 _ rfl, HK4.cell 2 _ rfl⟩) fun hH4 => ?_;clear hK K hH3;(try simp only [z0, zz])
 refine tk 17 hH4 ?_;(try simp only [z0, zz])
 refine ψk (by kernel_rfl) ?_ _;go_wp2_with fail;go_ret;have hlen := HQ.out.2.2;exact aG.good HR.out rfl ⟨⟨HV.out, by simp; omega⟩, by simp⟩ HC4.p HC4.f
 ) : p := h
theorem RH {p : Prop} (h : p := by
 rintro x2 st2 v2 w2 U2 rfl HF2 HC HR;replace HS := κ (HS.lit.drew.step HF2);replace HK := κ (HK.lit.drew.step HF2);replace HA := κ (HA.lit.drew.step HF2);clear hl;go_wp2_with fail;refine hK _ _ (by exact ⟨HS.cell 4 _ rfl, HS.cell 5 _ rfl, HK.cell 1 _ rfl, HA.at HQ.out.1, HA.at HQ.out.2.1⟩) fun hH2 => ?_;clear hK K hH1;(try simp only [z0, zz])
 refine tk 17 hH2 ?_;(try simp only [z0, zz])
 refine ψk (by kernel_rfl) ?_ _;go_wp2_with fail;go_meet
 exact ⟨x2, st2, U2, rfl, HC, HS, HK, HA, HR⟩
 ) : p := h
theorem Bl (HT : Tks w0 tv ts) (x : Link) (args : List Nat) (ex : Bool) (av : Value) (ha : Arg w U av args) (hl : args.length ≤ 1099511627776) (hp : TSt w0 tv ts b qs w U st) (hne : nu args x ex st ≠ .error .out) :
 Calls Tryz.prog 258 #[bL b, av, .agg #[.int .i64 x.fx.level, .bool x.fx.right, .bool x.fx.infx, str x.text, .int .i64 x.at_.1, .int .i64 x.at_.2], .bool ex] w (aG w0 tv ts b qs (Hj w.heap.size) (nu args x ex st) w U) := by
 have HA := κ ha;have HL := κ hl;clear ha hl;obtain ⟨R, hR⟩ : ∃ R, nu args x ex st = R := ⟨_, rfl⟩;rw [hR] at hne ⊢;have HNE := κ hne;unfold nu at hR;by_cases h2 : args.length < 2
 · rw [ψi h2] at hR; exact absurd hR.symm hne
 rw [ψh h2] at hR;obtain ⟨n, hn⟩ : ∃ n, args.length = n + 2 := ⟨args.length - 2, by omega⟩;rw [hn, show n + 2 - 2 = n by omega, show n + 2 - 1 = n + 1 by omega] at hR;obtain ⟨a0, hq0⟩ : ∃ a0, args[n]? = some a0 := ⟨_, ξw (by omega)⟩;obtain ⟨a1, hq1⟩ : ∃ a1, args[n + 1]? = some a1 := ⟨_, ξw (by omega)⟩;rw [show args.getD n 0 = a0 by simp [List.getD, hq0], show args.getD (n + 1) 0 = a1 by simp [List.getD, hq1]] at hR;have HR := κ hR.symm;have HC := κ (Cur.start hp);obtain ⟨ao, cap, hav⟩ : ∃ ao cap, av = .slice ao (n + 2) cap := let ⟨ao, cap, h, _⟩ := HA.ints; ⟨ao, cap, by rw [h, ξ4, hn]⟩
 subst hav;obtain ⟨ab, off, hao⟩ := HA.addr hq0;subst hao;have hcap := HA.cap _ _ _ rfl;have HQ := κ (ξc hq0 (ξc hq1 hn));have hnl := HL.out;rw [hn] at hnl;clear hR hne hp h2 hq0 hq1 hn;cases ex
 · replace HR := HR.out;simp only [ξh, ↓reduceIte] at HR;replace HR := κ HR;go_enter Tryz.func258, Tryz.ntmps258;go_wp2_with fail;have HS := κ ((Loc.new HC #[.int .i64 x.fx.level, .bool x.fx.right, .bool x.fx.infx, str x.text, .int .i64 x.at_.1, .int .i64 x.at_.2] 217).alloc (.cells #[.int .i64 31, .int .i64 33, .int .i64 32] 234));have HK := κ (Loc.new (HC.alloc (.cells #[.int .i64 x.fx.level, .bool x.fx.right, .bool x.fx.infx, str x.text, .int .i64 x.at_.1, .int .i64 x.at_.2] 217)) #[.int .i64 31, .int .i64 33, .int .i64 32] 234);rw [show (w.alloc (.cells #[.int .i64 x.fx.level, .bool x.fx.right, .bool x.fx.infx, str x.text, .int .i64 x.at_.1, .int .i64 x.at_.2] 217)).heap.size = w.heap.size + 1 from by simp] at HK;have hc_ := (HC.alloc (.cells #[.int .i64 x.fx.level, .bool x.fx.right, .bool x.fx.infx, str x.text, .int .i64 x.at_.1, .int .i64 x.at_.2] 217)).alloc (.cells #[.int .i64 31, .int .i64 33, .int .i64 32] 234);have ha_ := (HA.alloc (.cells #[.int .i64 x.fx.level, .bool x.fx.right, .bool x.fx.infx, str x.text, .int .i64 x.at_.1, .int .i64 x.at_.2] 217)).alloc (.cells #[.int .i64 31, .int .i64 33, .int .i64 32] 234);have HC := κ hc_;have HA := κ ha_;clear hc_ ha_;refine (bK HC.p x.at_ 31 x.text [] (Ints.nil _) (Im.nil _ _) (by simp) (aC HR.out HNE.out)).mono (HC.cl HR.out ?_);rintro x1 st1 v1 w1 U1 rfl HF1 HC HR;replace HS := κ (HS.step HF1);replace HK := κ (HK.step HF1);replace HA := κ (HA.step HF1);have hni : (n : Int) < (n : Int) + 2 := by omega
   have hni2 : (n : Int) + 1 < (n : Int) + 2 := by omega
   go_wp2_with fail;go_cut [12] (fun v wx => ∃ (i : Nat) (st' : PS) (U' : Rl), v = .int .i64 i ∧ Cur w0 tv ts b qs w U wx U' st' ∧ Loc wx U' w.heap.size #[.int .i64 x.fx.level, .bool x.fx.right, .bool x.fx.infx, str x.text, .int .i64 x.at_.1, .int .i64 x.at_.2] 217 ∧ Loc wx U' (w.heap.size + 1) #[.int .i64 31, .int .i64 33, .int .i64 32] 234 ∧ Arg wx U' (.slice (some ⟨ab, off, none⟩) (n + 2) cap) args ∧ R = (aV x.at_ 32 [] [x1, i] >>= fun i => pure (args.take n ++ [i])) st')
   case first =>
    have s4 := HS.cell 4 _ rfl;have s5 := HS.cell 5 _ rfl;have k1 := HK.cell 1 _ rfl;have a0_ := HA.at HQ.out.1;have a1_ := HA.at HQ.out.2.1;have a0' := ay a0_;have a1' := ay a1_;have s4' := ay s4;have s5' := ay s5;have k1' := ay k1;have hw1 : IntKind.i64.wrap (n : Int) = n := IntWalk.i64_in _ (by omega);have hn0 : (0 : Int) ≤ (n : Int) + 1 := by omega
    have hnt : ((n : Int) + 1).toNat = n + 1 := by omega
    have hw3 : IntKind.i64.wrap ((n : Int) + 2 - 1) = (n : Int) + 1 := by rw [IntWalk.i64_in _ (by omega)]; omega
    have hw2 : IntKind.i64.wrap ((n : Int) + 1) = (n : Int) + 1 := IntWalk.i64_in _ (by omega);refine ψn (S := (fun W => W.cell? ⟨w.heap.size, 4, none⟩ = some (.int .i64 x.at_.1) ∧ W.cell? ⟨w.heap.size, 5, none⟩ = some (.int .i64 x.at_.2) ∧ W.cell? ⟨w.heap.size + 1, 1, none⟩ = some (.int .i64 33) ∧ W.cell? ⟨ab, off + n, none⟩ = some (.int .i64 a0) ∧ W.cell? ⟨ab, off + (n + 1), none⟩ = some (.int .i64 a1))) (by kernel_rfl) (by exact ⟨s4, s5, k1, a0_, a1_⟩) (fun hH0 => ?_);refine tk 0 hH0 ?_;refine tk 1 hH0 ?_;refine tk 2 hH0 ?_;refine tk 3 hH0 ?_;refine tk 4 hH0 ?_;refine tk 5 hH0 ?_;refine tk 6 hH0 ?_;refine tk 7 hH0 ?_;refine tk 8 hH0 ?_;refine tk 9 hH0 ?_;refine tk 10 hH0 ?_;refine tk 11 hH0 ?_;refine tk 12 hH0 ?_;refine tk 13 hH0 ?_;refine tk 14 hH0 ?_;(try simp only [z0, zz])
    refine rk 15 fun K hK => ?_;(try simp only [zz])
    go_simp;refine hK _ _ (by exact ⟨s4' _, s5' _, k1' _, a0' _, a1' _⟩) fun hH1 => ?_;clear hK K hH0;(try simp only [z0, zz])
    refine rk 16 fun K hK => ?_;(try simp only [zz])
    go_simp;have hl := HC.lit [a0, a1] _ rfl (by unfold maxLen; simp);refine (bK hl.1.p.drew x.at_ 33 [] [a0, a1] hl.2.1 hl.2.2 (by simp) (aC HR.out HNE.out)).mono (hl.1.drew.cl HR.out ?_);exact RH
   case rest =>
    obtain ⟨x2, st2, U2, rfl, hc, hs, hk, ha, hr⟩ := hcut;have HC := κ hc;have HR := κ hr;have HS := κ hs;have HK := κ hk;have HA := κ ha;clear hc hr hs hk ha;have s4 := HS.cell 4 _ rfl;have s5 := HS.cell 5 _ rfl;have k2 := HK.cell 2 _ rfl;have s4' := ay s4;have s5' := ay s5;have k2' := ay k2;have hw1 : IntKind.i64.wrap (n : Int) = n := IntWalk.i64_in _ (by omega);have hw3 : IntKind.i64.wrap ((n : Int) + 2 - 2) = n := by rw [IntWalk.i64_in _ (by omega)]; omega
    have hn0 : (0 : Int) ≤ (n : Int) := by omega
    have hnc : (n : Int) ≤ (cap : Int) := by omega
    have hnt : ((n : Int)).toNat = n := by omega
    obtain ⟨j0, hj, hj0, hj1, hj2⟩ := info_parts Tryz.infoInt;have HJ := κ (ξc hj (ξc hj0 (ξc hj1 hj2)));clear hj hj0 hj1 hj2;go_wp2_with fail;refine ψn (S := (fun W => W.cell? ⟨w.heap.size, 4, none⟩ = some (.int .i64 x.at_.1) ∧ W.cell? ⟨w.heap.size, 5, none⟩ = some (.int .i64 x.at_.2) ∧ W.cell? ⟨w.heap.size + 1, 2, none⟩ = some (.int .i64 32))) (by kernel_rfl) (by exact ⟨s4, s5, k2⟩) (fun hH0 => ?_);refine tk 0 hH0 ?_;refine tk 1 hH0 ?_;refine tk 2 hH0 ?_;refine tk 3 hH0 ?_;refine tk 4 hH0 ?_;refine tk 5 hH0 ?_;refine tk 6 hH0 ?_;refine tk 7 hH0 ?_;refine tk 8 hH0 ?_;refine tk 9 hH0 ?_;refine tk 10 hH0 ?_;refine tk 11 hH0 ?_;refine tk 12 hH0 ?_;(try simp only [z0, zz])
    refine rk 13 fun K hK => ?_;(try simp only [zz])
    go_simp;refine hK _ _ (by exact ⟨s4' _, s5' _, k2' _⟩) fun hH1 => ?_;clear hK K hH0;(try simp only [z0, zz])
    refine rk 14 fun K hK => ?_;(try simp only [zz])
    go_simp;have hl := HC.lit [x1, x2] _ rfl (by unfold maxLen; simp);refine (bK hl.1.p.drew x.at_ 32 [] [x1, x2] hl.2.1 hl.2.2 (by simp) (aC HR.out HNE.out)).mono (hl.1.drew.cl HR.out ?_);exact RI
 · replace HR := HR.out;simp only [ξh, ↓reduceIte] at HR;replace HR := κ HR;go_enter Tryz.func258, Tryz.ntmps258;go_wp2_with fail;have HS := κ ((Loc.new HC #[.int .i64 x.fx.level, .bool x.fx.right, .bool x.fx.infx, str x.text, .int .i64 x.at_.1, .int .i64 x.at_.2] 217).alloc (.cells #[.int .i64 10, .int .i64 13, .int .i64 17] 234));have HK := κ (Loc.new (HC.alloc (.cells #[.int .i64 x.fx.level, .bool x.fx.right, .bool x.fx.infx, str x.text, .int .i64 x.at_.1, .int .i64 x.at_.2] 217)) #[.int .i64 10, .int .i64 13, .int .i64 17] 234);rw [show (w.alloc (.cells #[.int .i64 x.fx.level, .bool x.fx.right, .bool x.fx.infx, str x.text, .int .i64 x.at_.1, .int .i64 x.at_.2] 217)).heap.size = w.heap.size + 1 from by simp] at HK;have hc_ := (HC.alloc (.cells #[.int .i64 x.fx.level, .bool x.fx.right, .bool x.fx.infx, str x.text, .int .i64 x.at_.1, .int .i64 x.at_.2] 217)).alloc (.cells #[.int .i64 10, .int .i64 13, .int .i64 17] 234);have ha_ := (HA.alloc (.cells #[.int .i64 x.fx.level, .bool x.fx.right, .bool x.fx.infx, str x.text, .int .i64 x.at_.1, .int .i64 x.at_.2] 217)).alloc (.cells #[.int .i64 10, .int .i64 13, .int .i64 17] 234);have HC := κ hc_;have HA := κ ha_;clear hc_ ha_;refine (bK HC.p x.at_ 10 x.text [] (Ints.nil _) (Im.nil _ _) (by simp) (aC HR.out HNE.out)).mono (HC.cl HR.out ?_);rintro x1 st1 v1 w1 U1 rfl HF1 HC HR;replace HS := κ (HS.step HF1);replace HK := κ (HK.step HF1);replace HA := κ (HA.step HF1);have hni : (n : Int) < (n : Int) + 2 := by omega
   have hni2 : (n : Int) + 1 < (n : Int) + 2 := by omega
   go_wp2_with fail;go_cut [12] (fun v wx => ∃ (i : Nat) (st' : PS) (U' : Rl), v = .int .i64 i ∧ Cur w0 tv ts b qs w U wx U' st' ∧ Loc wx U' w.heap.size #[.int .i64 x.fx.level, .bool x.fx.right, .bool x.fx.infx, str x.text, .int .i64 x.at_.1, .int .i64 x.at_.2] 217 ∧ Loc wx U' (w.heap.size + 1) #[.int .i64 10, .int .i64 13, .int .i64 17] 234 ∧ Arg wx U' (.slice (some ⟨ab, off, none⟩) (n + 2) cap) args ∧ R = (aV x.at_ 17 [] [x1, i] >>= fun i => pure (args.take n ++ [i])) st')
   case first =>
    have s4 := HS.cell 4 _ rfl;have s5 := HS.cell 5 _ rfl;have k1 := HK.cell 1 _ rfl;have a0_ := HA.at HQ.out.1;have a1_ := HA.at HQ.out.2.1;have a0' := ay a0_;have a1' := ay a1_;have s4' := ay s4;have s5' := ay s5;have k1' := ay k1;have hw1 : IntKind.i64.wrap (n : Int) = n := IntWalk.i64_in _ (by omega);have hn0 : (0 : Int) ≤ (n : Int) + 1 := by omega
    have hnt : ((n : Int) + 1).toNat = n + 1 := by omega
    have hw3 : IntKind.i64.wrap ((n : Int) + 2 - 1) = (n : Int) + 1 := by rw [IntWalk.i64_in _ (by omega)]; omega
    have hw2 : IntKind.i64.wrap ((n : Int) + 1) = (n : Int) + 1 := IntWalk.i64_in _ (by omega);refine ψn (S := (fun W => W.cell? ⟨w.heap.size, 4, none⟩ = some (.int .i64 x.at_.1) ∧ W.cell? ⟨w.heap.size, 5, none⟩ = some (.int .i64 x.at_.2) ∧ W.cell? ⟨w.heap.size + 1, 1, none⟩ = some (.int .i64 13) ∧ W.cell? ⟨ab, off + n, none⟩ = some (.int .i64 a0) ∧ W.cell? ⟨ab, off + (n + 1), none⟩ = some (.int .i64 a1))) (by kernel_rfl) (by exact ⟨s4, s5, k1, a0_, a1_⟩) (fun hH0 => ?_);refine tk 0 hH0 ?_;refine tk 1 hH0 ?_;refine tk 2 hH0 ?_;refine tk 3 hH0 ?_;refine tk 4 hH0 ?_;refine tk 5 hH0 ?_;refine tk 6 hH0 ?_;refine tk 7 hH0 ?_;refine tk 8 hH0 ?_;refine tk 9 hH0 ?_;refine tk 10 hH0 ?_;refine tk 11 hH0 ?_;refine tk 12 hH0 ?_;refine tk 13 hH0 ?_;refine tk 14 hH0 ?_;(try simp only [z0, zz])
    refine rk 15 fun K hK => ?_;(try simp only [zz])
    go_simp;refine hK _ _ (by exact ⟨s4' _, s5' _, k1' _, a0' _, a1' _⟩) fun hH1 => ?_;clear hK K hH0;(try simp only [z0, zz])
    refine rk 16 fun K hK => ?_;(try simp only [zz])
    go_simp;have hl := HC.lit [a0, a1] _ rfl (by unfold maxLen; simp);refine (bK hl.1.p.drew x.at_ 13 [] [a0, a1] hl.2.1 hl.2.2 (by simp) (aC HR.out HNE.out)).mono (hl.1.drew.cl HR.out ?_);exact RH
   case rest =>
    obtain ⟨x2, st2, U2, rfl, hc, hs, hk, ha, hr⟩ := hcut;have HC := κ hc;have HR := κ hr;have HS := κ hs;have HK := κ hk;have HA := κ ha;clear hc hr hs hk ha;have s4 := HS.cell 4 _ rfl;have s5 := HS.cell 5 _ rfl;have k2 := HK.cell 2 _ rfl;have s4' := ay s4;have s5' := ay s5;have k2' := ay k2;have hw1 : IntKind.i64.wrap (n : Int) = n := IntWalk.i64_in _ (by omega);have hw3 : IntKind.i64.wrap ((n : Int) + 2 - 2) = n := by rw [IntWalk.i64_in _ (by omega)]; omega
    have hn0 : (0 : Int) ≤ (n : Int) := by omega
    have hnc : (n : Int) ≤ (cap : Int) := by omega
    have hnt : ((n : Int)).toNat = n := by omega
    obtain ⟨j0, hj, hj0, hj1, hj2⟩ := info_parts Tryz.infoInt;have HJ := κ (ξc hj (ξc hj0 (ξc hj1 hj2)));clear hj hj0 hj1 hj2;go_wp2_with fail;refine ψn (S := (fun W => W.cell? ⟨w.heap.size, 4, none⟩ = some (.int .i64 x.at_.1) ∧ W.cell? ⟨w.heap.size, 5, none⟩ = some (.int .i64 x.at_.2) ∧ W.cell? ⟨w.heap.size + 1, 2, none⟩ = some (.int .i64 17))) (by kernel_rfl) (by exact ⟨s4, s5, k2⟩) (fun hH0 => ?_);refine tk 0 hH0 ?_;refine tk 1 hH0 ?_;refine tk 2 hH0 ?_;refine tk 3 hH0 ?_;refine tk 4 hH0 ?_;refine tk 5 hH0 ?_;refine tk 6 hH0 ?_;refine tk 7 hH0 ?_;refine tk 8 hH0 ?_;refine tk 9 hH0 ?_;refine tk 10 hH0 ?_;refine tk 11 hH0 ?_;refine tk 12 hH0 ?_;(try simp only [z0, zz])
    refine rk 13 fun K hK => ?_;(try simp only [zz])
    go_simp;refine hK _ _ (by exact ⟨s4' _, s5' _, k2' _⟩) fun hH1 => ?_;clear hK K hH0;(try simp only [z0, zz])
    refine rk 14 fun K hK => ?_;(try simp only [zz])
    go_simp;have hl := HC.lit [x1, x2] _ rfl (by unfold maxLen; simp);refine (bK hl.1.p.drew x.at_ 17 [] [x1, x2] hl.2.1 hl.2.2 (by simp) (aC HR.out HNE.out)).mono (hl.1.drew.cl HR.out ?_);exact RI
end
def jW (x : Link) : List Value := [.int .i64 x.fx.level, .bool x.fx.right, .bool x.fx.infx, str x.text, .int .i64 x.at_.1, .int .i64 x.at_.2]
def mN (l : List Link) : List Value := l.flatMap jW
theorem rX (l : List Link) : (mN l).length = l.length * 6 := by
 induction l with
 | nil => rfl
 | cons x l ih => simp only [mN, List.flatMap_cons, ξ1, ξ2] at *; rw [ih]; simp [jW]; omega
theorem yB (l m : List Link) : mN (l ++ m) = mN l ++ mN m := by simp [mN]
theorem AY : ∀ (l : List Link) (i : Nat) (x : Link), l[i]? = some x → ∀ (j : Nat) u, (jW x)[j]? = some u → (mN l)[i * 6 + j]? = some u
 | [], i, x, hi => by simp at hi
 | y :: l, 0, x, hi => fun j u hu => by
  simp only [ξv, ξO] at hi;subst hi;show (jW y ++ mN l)[0 * 6 + j]? = _;rw [Nat.zero_mul, Nat.zero_add, ξs (ξz.1 hu).1]; exact hu
 | y :: l, i + 1, x, hi => fun j u hu => by
  show (jW y ++ mN l)[(i + 1) * 6 + j]? = _;rw [ξt (by simp [jW]; omega), show (i + 1) * 6 + j - (jW y).length = i * 6 + j by simp [jW]; omega];exact AY l i x (by simpa using hi) j u hu
def LkR (B : Nat) (w : World) (U : Rl) (v : Value) (l : List Link) : Prop := w.ownsRow B 217 6 v l.length (mN l) ∧ Im U v 0
theorem LkR.nil (B : Nat) (w : World) (U : Rl) : LkR B w U (.slice none 0 0) [] := ⟨ξX w B _ 6, Im.nil U 0⟩
theorem LkR.lt {B : Nat} {w : World} {U : Rl} {v : Value} {l : List Link} (h : LkR B w U v l) : ∀ k, v.ownBlock = some k → B ≤ k ∧ k < w.heap.size := h.1.lt
theorem LkR.step {B : Nat} {w w' : World} {U U' : Rl} {v : Value} {l : List Link} (h : LkR B w U v l) (hf : Fr w U w' U') : LkR B w' U' v l :=
 ⟨cE h.1 fun k e => hf.keep k (h.lt k e).2 (h.2 k e), fun k e => hf.sub k (h.lt k e).2 (h.2 k e)⟩
theorem LkR.below {B : Nat} {w w' : World} {U : Rl} {v : Value} {l : List Link} (h : LkR B w U v l) (hb : Below w.heap.size w w') : LkR B w' U v l :=
 ⟨cE h.1 fun k e => hb.block k (h.lt k e).2, h.2⟩
theorem LkR.alloc {B : Nat} {w : World} {U : Rl} {v : Value} {l : List Link} (h : LkR B w U v l) (o : Obj) : LkR B (w.alloc o) U v l := ⟨h.1.alloc o, h.2⟩
theorem LkR.form {B : Nat} {w : World} {U : Rl} {v : Value} {l : List Link} (h : LkR B w U v l) (hl : l ≠ []) : ∃ g cap, v = .slice (some ⟨g, 0, none⟩) l.length cap ∧ l.length ≤ cap := by
 rcases h.1.2 with ⟨_, h0⟩ | ⟨g, cap, cur, hv, _, _, hle, _⟩
 · exact absurd (ξq h0) hl
 · exact ⟨g, cap, hv, hle⟩
theorem LkR.at {B g n cap : Nat} {w : World} {U : Rl} {l : List Link} (h : LkR B w U (.slice (some ⟨g, 0, none⟩) n cap) l) {i : Nat} {x : Link} (hx : l[i]? = some x) (j : Nat) (u : Value) (hu : (jW x)[j]? = some u) : w.cell? ⟨g, i * 6 + j, none⟩ = some u := by
 have := h.1.cells (g := g) rfl (i * 6 + j) u (AY l i x hx j u hu);rwa [iA] at this
theorem LkR.cut {B g n cap : Nat} {w : World} {U : Rl} {l : List Link} {x : Link} (h : LkR B w U (.slice (some ⟨g, 0, none⟩) n cap) (l ++ [x])) : LkR B w U (.slice (some ⟨g, 0, none⟩) l.length cap) l := by
 refine ⟨⟨rX l, .inr ?_⟩, h.2⟩;rcases h.1.2 with ⟨e, _⟩ | ⟨g', cap', cur, hv, hb, hg, hle, hm, hs, hx⟩
 · simp at e
 · simp only [ξR, ξO, Addr.mk.injEq, and_true, true_and] at hv;obtain ⟨rfl, hn, rfl⟩ := hv;simp only [ξ1, ξ2, ξ5] at hle hx;refine ⟨g, cap, cur, rfl, hb, hg, by omega, hm, hs, ?_⟩;rw [yB] at hx;have h2 := congrArg (List.take (l.length * 6)) hx;have h3 : (mN l ++ mN [x]).take (l.length * 6) = mN l := by
    rw [List.take_append_of_le_length (by rw [rX]; exact ξF _)];exact List.take_of_length_le (by rw [rX]; exact ξF _)
   rw [List.take_take, ξK (by omega), h3] at h2;exact h2
section
variable {ts : List Tok} {st : PS}
def Mi (ts : List Tok) (st : PS) : Link := ⟨fP (aB ts 0 st).text st.sc, (aB ts 0 st).text, ak ts st⟩
def uT (ts : List Tok) (ex : Bool) (st : PS) : Bool := ex && isP ts 0 [61] st || cO (aB ts 0 st) st
theorem Ef {operand : M Nat} {ex : Bool} {f : Nat} {args : List Nat} {ops : List Link} {β : Type} {k : List Nat × List Link → M β} {R : Except Flt (β × PS)} (HR : R = (xD ts operand ex (f + 1) args ops >>= k) st) :
 (uT ts ex st = false ∧ R = k (args, ops) st) ∨ (uT ts ex st = true ∧ R = (cu ts 1 >>= fun _ => zi (Mi ts st) ex (ops.length + 1) args ops >>= fun p => operand >>= fun i => cA p.1 >>= fun _ => cA p.2 >>= fun _ => xD ts operand ex f (p.1 ++ [i]) (p.2 ++ [Mi ts st]) >>= k) st) := by
 cases hc : uT ts ex st
 · refine .inl ⟨rfl, ?_⟩;rw [HR];refine bind_ok ?_;show (if uT ts ex st = true then _ else pure (args, ops) : M (List Nat × List Link)) st = _;rw [hc]; rfl
 · refine .inr ⟨rfl, ?_⟩;rw [HR];have h1 : xD ts operand ex (f + 1) args ops st = (cu ts 1 >>= fun _ => zi (Mi ts st) ex (ops.length + 1) args ops >>= fun p => operand >>= fun i => cA p.1 >>= fun _ => cA p.2 >>= fun _ => xD ts operand ex f (p.1 ++ [i]) (p.2 ++ [Mi ts st])) st := by
    show (if uT ts ex st = true then _ else pure (args, ops) : M (List Nat × List Link)) st = _;rw [hc]; rfl
   have h2 : ∀ {m : M (List Nat × List Link)}, xD ts operand ex (f + 1) args ops st = m st → (xD ts operand ex (f + 1) args ops >>= k) st = (m >>= k) st := fun {m} h => by
    show M.bnd _ k st = M.bnd m k st;unfold M.bnd;rw [h]
   rw [h2 h1, aA]; apply aH; intro _ s1;rw [aA]; apply aH; intro p s2;rw [aA]; apply aH; intro i s3;rw [aA]; apply aH; intro _ s4;rw [aA]
theorem GZ {x : Link} {ex : Bool} {f : Nat} {args : List Nat} {β : Type} {k : List Nat × List Link → M β} {R : Except Flt (β × PS)} (HR : R = (zi x ex (f + 1) args [] >>= k) st) : R = k (args, []) st := HR
theorem Eo {x o : Link} {ex : Bool} {f : Nat} {args : List Nat} {ops : List Link} {β : Type} {k : List Nat × List Link → M β} {R : Except Flt (β × PS)} (HR : R = (zi x ex (f + 1) args (ops ++ [o]) >>= k) st) :
 R = (kU o x >>= fun c => if c = true then (nu args o ex >>= fun a => zi x ex f a ops >>= k) else k (args, ops ++ [o])) st := by
 rw [HR, show zi x ex (f + 1) args (ops ++ [o]) = (kU o x >>= fun c => if c = true then (nu args o ex >>= fun a => zi x ex f a ops) else pure (args, ops ++ [o])) by
  conv => lhs; unfold zi
  simp]
 rw [aA]; apply aH; intro c s1;cases c
 · rfl
 · simp only [↓reduceIte];rw [aA]
theorem E0 {ex : Bool} {f : Nat} {args : List Nat} {β : Type} {k : List Nat → M β} {R : Except Flt (β × PS)} (HR : R = (foldM ex (f + 1) args [] >>= k) st) : R = k args st := HR
theorem CN {o : Link} {ex : Bool} {f : Nat} {args : List Nat} {ops : List Link} {β : Type} {k : List Nat → M β} {R : Except Flt (β × PS)} (HR : R = (foldM ex (f + 1) args (ops ++ [o]) >>= k) st) :
 R = (nu args o ex >>= fun a => foldM ex f a ops >>= k) st := by
 rw [HR, show foldM ex (f + 1) args (ops ++ [o]) = (nu args o ex >>= fun a => foldM ex f a ops) by
  conv => lhs; unfold foldM
  simp]
 rw [aA]
end
section
variable {w0 : World} {tv : Value} {ts : List Tok} {b : Nat} {qs : List Nat} {w : World} {U : Rl} {st : PS} {L : Low}
theorem JU {w w' : World} {o : Obj} (h : Below (w.alloc o).heap.size (w.alloc o) w') : w'.heap[w.heap.size]? = some o := (h.block _ (by simp)).trans (ψe w o)
theorem Hg {w w' : World} {o : Obj} (h : Below (w.alloc o).drew.heap.size (w.alloc o).drew w') : w'.heap[w.heap.size]? = some o := (h.block _ (by show _ < (w.alloc o).heap.size; simp)).trans (ψe w o)
theorem ni {w w' : World} {k : Nat} {o : Obj} (z : w.heap[k]? = some o) (h : Below w.heap.size w w') : w'.heap[k]? = some o := (h.block _ (ξd.1 z).1).trans z
theorem M8 {wr : World} {B : Nat} {T : TypeId} {a0 a1 a2 a3 a4 a5 : Value} (h : wr.heap[B]? = some (.cells #[a0, a1, a2, a3, a4, a5] T (0, 0))) (v0 v1 v2 v3 v4 v5 : Value) :
 ((((((wr.setCell ⟨B, 0, none⟩ v0).setCell ⟨B, 1, none⟩ v1).setCell ⟨B, 2, none⟩ v2).setCell ⟨B, 3, none⟩ v3).setCell ⟨B, 4, none⟩ v4).setCell ⟨B, 5, none⟩ v5).heap[B]? = some (.cells #[v0, v1, v2, v3, v4, v5] T (0, 0)) := by
 have h1 := ψg wr B 0 _ T v0 h;have h2 := ψg _ B 1 _ T v1 h1;have h3 := ψg _ B 2 _ T v2 h2;have h4 := ψg _ B 3 _ T v3 h3;have h5 := ψg _ B 4 _ T v4 h4;have h6 := ψg _ B 5 _ T v5 h5;exact h6
section
variable {wc : World} {Uc : Rl} {stc : PS}
theorem LR.setbX {B : Nat} {v : Value} {l : List Int} (h : LR B wc Uc v l) (hc : Cur w0 tv ts b qs w U wc Uc stc) (i : Nat) (x : Value) : LR B (wc.setCell ⟨b, i, none⟩ x) Uc v l := h.step (hc.p.frame i x)
theorem LkR.setb {B : Nat} {v : Value} {l : List Link} (h : LkR B wc Uc v l) (hc : Cur w0 tv ts b qs w U wc Uc stc) (i : Nat) (x : Value) : LkR B (wc.setCell ⟨b, i, none⟩ x) Uc v l := h.step (hc.p.frame i x)
end
theorem KW (x y : Link) (hp : TSt w0 tv ts b qs w U st) :
 Calls Tryz.prog 257 #[bL b, .agg #[.int .i64 x.fx.level, .bool x.fx.right, .bool x.fx.infx, str x.text, .int .i64 x.at_.1, .int .i64 x.at_.2], .agg #[.int .i64 y.fx.level, .bool y.fx.right, .bool y.fx.infx, str y.text, .int .i64 y.at_.1, .int .i64 y.at_.2]] w (aG w0 tv ts b qs Mr (kU x y st) w U) :=
 (FW x y w (st := st)).mono fun e w' h => by
  rcases h with ⟨z, hz, rfl, hb⟩ | ⟨hz, rfl, hb⟩
  · exact aG.good hz rfl rfl (hp.below hb) ((Fr.refl w U).below hb)
  · exact aG.bad hz rfl (hp.base.trans (hb.mono hp.base.size))
theorem Tryz.infoLink : (Tryz.prog.info? 217).map (fun i => (i.zero, i.size, i.bytes)) = some (some (.agg #[.int .i64 0, .bool false, .bool false, .string ⟨#[]⟩, .int .i64 0, .int .i64 0]), 6, 48) := by kernel_rfl
theorem G7 (x : Link) : ∀ u ∈ jW x, u.oneCell' = true := by simp [jW, Value.oneCell', str]
theorem J3 {l : List Link} {x : Link} : mN (l ++ [x]) = mN l ++ jW x := by rw [yB]; simp [mN]
theorem LkR.drew {B : Nat} {wc : World} {Uc : Rl} {v : Value} {l : List Link} (h : LkR B wc Uc v l) : LkR B wc.drew Uc v l := h
theorem uj {w : World} {B B' n n' s s' : Nat} {e e' : TypeId} {v v' : Value} {xs xs' : List Value} (h : w.ownsRow B e s v n xs) (h' : w.ownsRow B' e' s' v' n' xs') (he : e ≠ e') : ∀ k, v.ownBlock = some k → v'.ownBlock ≠ some k := by
 intro k hk hk';rcases h.2 with ⟨rfl, _⟩ | ⟨g, cap, cur, rfl, _, hg, _⟩
 · cases hk
 rcases h'.2 with ⟨rfl, _⟩ | ⟨g', cap', cur', rfl, _, hg', _⟩
 · cases hk'
 simp only [Value.ownBlock, ξO] at hk hk';subst hk; subst hk';rw [hg] at hg';simp only [ξO, Obj.cells.injEq] at hg';exact he hg'.2.1
theorem LR.beside {B : Nat} {wc w2 : World} {Uc : Rl} {v v' : Value} {l : List Int} {l' : List Link} (h : LR B wc Uc v l) (h' : LkR B wc Uc v' l') (hg : wc.grownBy w2 v'.ownBlock) : LR B w2 Uc v l :=
 ⟨cE h.1 fun k e => hg.block k (h.lt k e).2 (fun e2 => uj h.1 h'.1 (by decide) k e e2.symm), h.2⟩
theorem LkR.beside {B : Nat} {wc w2 : World} {Uc : Rl} {v v' : Value} {l : List Link} {l' : List Int} (h : LkR B wc Uc v l) (h' : LR B wc Uc v' l') (hg : wc.grownBy w2 v'.ownBlock) : LkR B w2 Uc v l :=
 ⟨cE h.1 fun k e => hg.block k (h.lt k e).2 (fun e2 => uj h.1 h'.1 (by decide) k e e2.symm), h.2⟩
theorem Tryz.uLinks : Tryz.prog.underlying 215 = some (.slice 217) := by kernel_rfl
theorem rM {α : Type} (l : List α) : l = [] ∨ ∃ m x, l = m ++ [x] := by
 rcases List.eq_nil_or_concat l with h | ⟨m, x, h⟩
 · exact .inl h
 · exact .inr ⟨m, x, by rw [h, List.concat_eq_append]⟩
theorem LkR.sl {B : Nat} {w : World} {U : Rl} {v : Value} {l : List Link} (h : LkR B w U v l) : ∃ ao cap, v = .slice ao l.length cap := by
 rcases h.1.2 with ⟨h1, h0⟩ | ⟨g, cap, cur, hv, _, _, hle, _⟩
 · exact ⟨none, 0, by rw [h1, h0]⟩
 · exact ⟨_, _, hv⟩
theorem Ee (HT : Tks w0 tv ts) (F : Nat) (operand : M Nat) (ex : Bool) (eg : ∀ (args : Array Value) (w : World), (callFunc F args).run Tryz.prog w = .ok (.enter F args) w) (hF : Ok w0 tv ts b F operand) (hp : TSt w0 tv ts b qs w U st) (hne : zh ts operand ex st ≠ .error .out) :
 Calls Tryz.prog 211 #[bL b, .func (.func F) #[bL b] #[], .bool ex] w (aG w0 tv ts b qs idR (zh ts operand ex st) w U) := by
 obtain ⟨R, hR⟩ : ∃ R, zh ts operand ex st = R := ⟨_, rfl⟩;rw [hR] at hne ⊢;have HNE := κ hne;unfold zh at hR;have HR := κ hR.symm;have HC := κ (Cur.start hp);clear hR hne hp;go_enter Tryz.func211, Tryz.ntmps211;go_wp2_with fail;refine (hF _ _ _ _ HC.p (aC HR HNE)).mono (HC.cl HR ?_);rintro x1 st1 v1 w1 U1 rfl HF1 HC HR;go_wp2_with fail;have HL := κ (LR.lit (B := w.heap.size) (w := w1) (U := U1) [(x1 : Int)] #[.int .i64 x1] rfl HC.size (HC.p.zero (ξF _)) (by unfold maxLen; simp));go_loopg [7, 8] (ts.length + 1) (fun g v7 v8 wr => ∃ args ops st' U', LR w.heap.size wr U' v7 (args.map Int.ofNat) ∧ args.length ≤ 1099511627776 ∧ args ≠ [] ∧ LkR w.heap.size wr U' v8 ops ∧ ops.length ≤ 1099511627776 ∧ Cur w0 tv ts b qs w U wr U' st' ∧ R = (xD ts operand ex g args ops >>= fun p => foldM ex (p.2.length + 1) p.1 p.2 >>= fun args => pure (args.getD 0 0)) st')
 case atStart => exact ⟨[x1], [], st1, U1, HL.out, by simp, by simp, LkR.nil _ _ _, by simp, HC.alloc _, HR.out⟩
 case round =>
  obtain ⟨args, ops, st', U', hl, hll, hln, hk, hkl, hc, hr⟩ := hrel;cases gk with
  | zero => exact absurd hr HNE
  | succ fu =>
   have HR := κ hr;have HC := κ hc;have HL := κ hl;have HLL := κ (ξc hll hln);have HK := κ hk;have HKL := κ hkl;clear hr hc hl hll hln hk hkl;go_wp2_with fail;refine (aU HT HC.p 0 (by omega)).mono ?_;rintro e w2 ⟨⟨pv, rfl, hs⟩, hb2⟩;have hc2 := HC.below hb2;have hl2 := HL.below hb2;have hk2 := HK.below hb2;clear HC HL HK hb2;obtain ⟨t, ht⟩ : ∃ t, aB ts 0 st' = t := ⟨_, rfl⟩;rw [ht] at hs ⊢;have HTE := κ ht;have HTS := κ (ht ▸ bC HT 0 st');clear ht;have HP := κ hs;obtain ⟨a, cap, rfl, -⟩ := hs;unfold tkV;have HTK := κ (Loc.new hc2 #[.int .i64 t.kind, str t.text, .slice a t.path.length cap, .int .i64 t.line, .int .i64 t.col] 32);have HC := κ (hc2.alloc (.cells #[.int .i64 t.kind, str t.text, .slice a t.path.length cap, .int .i64 t.line, .int .i64 t.col] 32));have HL := κ (hl2.alloc (.cells #[.int .i64 t.kind, str t.text, .slice a t.path.length cap, .int .i64 t.line, .int .i64 t.col] 32));have HK := κ (hk2.alloc (.cells #[.int .i64 t.kind, str t.text, .slice a t.path.length cap, .int .i64 t.line, .int .i64 t.col] 32));clear hc2 hl2 hk2;go_upto_region 4 with fail;obtain ⟨wt, hwt⟩ : ∃ wt, w2.alloc (.cells #[.int .i64 t.kind, str t.text, .slice a t.path.length cap, .int .i64 t.line, .int .i64 t.col] 32) = wt := ⟨_, rfl⟩;rw [hwt] at HTK HC HL HK ⊢;clear hwt;obtain ⟨Q, hQ⟩ : ∃ Q, isP ts 0 [61] st' = Q := ⟨_, rfl⟩;obtain ⟨I, hI⟩ : ∃ I, cO t st' = I := ⟨_, rfl⟩;have HQ := κ hQ;have HI := κ hI;clear hQ hI;go_cut [10] (fun v wx => v = .bool (ex && Q) ∧ Below wt.heap.size wt wx)
   case first =>
    have HIS := κ (gq HT HC.p 0 (by omega) [61]);rw [HQ.out] at HIS;cases ex
    · go_wp2_with fail;go_meet
      exact ⟨rfl, ξf _ _⟩
    · go_wp2_with fail;refine HIS.mono ?_;rintro e w3 ⟨rfl, hb3⟩;have HB3 := κ hb3; clear hb3;go_wp2_with fail;go_meet
      exact ⟨rfl, HB3⟩
   case rest =>
    obtain ⟨rfl, hb⟩ := hcut;have hc3 := HC.below hb;have hl3 := HL.below hb;have hk3 := HK.below hb;have ht3 := HTK.below hb;clear HC HL HK HTK hb;have HC := κ hc3;have HL := κ hl3;have HK := κ hk3;have HTK := κ ht3;clear hc3 hl3 hk3 ht3;obtain ⟨wq, hwq⟩ : ∃ wq, wc = wq := ⟨_, rfl⟩;rw [hwq] at HTK HC HL HK ⊢;clear hwq wc;obtain ⟨E, hE⟩ : ∃ E, (ex && Q) = E := ⟨_, rfl⟩;rw [hE];have HE := κ hE;clear hE;go_upto_region 5 with fail;go_cut [30] (fun v wx => v = .bool (!(E || I)) ∧ Below wq.heap.size wq wx)
    case first =>
     have HIN := κ (jX HC.p t _ HP HTS);rw [HI.out] at HIN;unfold tkV at HIN;have c0 := HTK.cell 0 _ rfl;have c1 := HTK.cell 1 _ rfl;have c2 := HTK.cell 2 _ rfl;have c3 := HTK.cell 3 _ rfl;have c4 := HTK.cell 4 _ rfl;cases E
     · go_wp2_with fail;refine HIN.mono ?_;rintro e w3 ⟨rfl, hb3⟩;have HB3 := κ hb3; clear hb3;go_wp2_with fail;go_meet
       exact ⟨rfl, HB3⟩
     · go_wp2_with fail;go_meet
       exact ⟨rfl, ξf _ _⟩
    case rest =>
     obtain ⟨rfl, hb⟩ := hcut;have hc3 := HC.below hb;have hl3 := HL.below hb;have hk3 := HK.below hb;have ht3 := HTK.below hb;clear HC HL HK HTK hb;have HC := κ hc3;have HL := κ hl3;have HK := κ hk3;have HTK := κ ht3;clear hc3 hl3 hk3 ht3;obtain ⟨wz, hwz⟩ : ∃ wz, wc = wz := ⟨_, rfl⟩;rw [hwz] at HTK HC HL HK ⊢;clear hwz wc;have hgo_ : uT ts ex st' = (E || I) := by rw [← HE.out, ← HQ.out, ← HI.out, ← HTE.out]; rfl
     rcases Ef HR with ⟨hgo, hr_⟩ | ⟨hgo, hr_⟩
     · rw [hgo_] at hgo;rw [hgo];have HR := κ hr_;clear hr_ hgo hgo_ HE HQ HI HTK HTE HTS HP;obtain ⟨ao8, cap8, rfl⟩ := HK.sl;have hkl_ := HKL.out;go_wp2_with fail;go_loopg [7, 12] (ops.length + 1) (fun g v7 v12 wr => ∃ args2 ops2 rest st2 U2, ops = ops2 ++ rest ∧ ops2.length < g ∧ v12 = .int .i64 ((ops2.length : Int) - 1) ∧ LR w.heap.size wr U2 v7 (args2.map Int.ofNat) ∧ args2.length ≤ 1099511627776 ∧ args2 ≠ [] ∧ LkR w.heap.size wr U2 (.slice ao8 ops.length cap8) ops ∧ Cur w0 tv ts b qs w U wr U2 st2 ∧ R = (foldM ex (ops2.length + 1) args2 ops2 >>= fun args => pure (args.getD 0 0)) st2)
       case atStart =>
        refine ⟨args, ops, [], st', U', by simp, ξJ _, ?_, HL.out, HLL.out.1, HLL.out.2, HK.out, HC.out, HR.out⟩;rfl
       case round =>
        obtain ⟨args2, ops2, rest, st2, U2, hops, hlt, rfl, hl, hll, hln, hk, hc, hr⟩ := hrel;rcases rM ops2 with rfl | ⟨ops3, o, rfl⟩
        · have HR := κ (E0 hr);have HC := κ hc;have hlp : 0 < args2.length := ξ6.2 hln;obtain ⟨y, hy⟩ : ∃ y, args2[0]? = some y := ⟨_, ξw hlp⟩;rw [show args2.getD 0 0 = y by simp [List.getD, hy]] at HR;obtain ⟨ab, off, cap2, rfl⟩ : ∃ ab off cap2, u7 = .slice (some ⟨ab, off, none⟩) args2.length cap2 := by
           obtain ⟨ao, cap2, e, _⟩ := hl.arg.ints;rw [ξ4] at e;subst e;obtain ⟨ab, off, rfl⟩ := hl.arg.addr hy;exact ⟨ab, off, cap2, rfl⟩
          have hcell := hl.arg.at hy;rw [Nat.add_zero] at hcell;have hlpi : (0 : Int) < (args2.length : Int) := by omega
          clear hc hr hk hlt hops hkl_;go_wp2_with fail;go_ret;exact aG.good HR rfl rfl HC.p HC.f
        · rw [show (ops3 ++ [o]).length + 1 = (ops3.length + 1) + 1 by simp] at hr;have HR := κ (CN hr);obtain ⟨fu2, rfl⟩ : ∃ fu2, gk = fu2 + 1 := ⟨gk - 1, by omega⟩;have HC := κ hc;have HL := κ hl;have HK := κ hk;have HLL := κ (ξc hll hln);have hop : ops[ops3.length]? = some o := by rw [hops]; simp
          have hol : (ops3.length : Int) < (ops.length : Int) := by rw [hops]; simp; omega
          have HOP := κ (ξc hops (ξc hop hlt));obtain ⟨g8, cap9, he8, -⟩ := HK.form (by intro e; rw [e] at hop; simp at hop);simp only [ξR, true_and] at he8;obtain ⟨rfl, rfl⟩ := he8;have c0 := HK.at hop 0 _ rfl;have c1 := HK.at hop 1 _ rfl;have c2 := HK.at hop 2 _ rfl;have c3 := HK.at hop 3 _ rfl;have c4 := HK.at hop 4 _ rfl;have c5 := HK.at hop 5 _ rfl;rw [Nat.add_zero] at c0;clear hr hc hl hk hll hln hops hop hlt;rw [ξ1, List.length_singleton];rw [show ((ops3.length + 1 : Nat) : Int) - 1 = (ops3.length : Int) by omega];have hz : (0 : Int) ≤ (ops3.length : Int) := by omega
          have HC0 := HC.size;go_wp2_with fail;refine (Bl HT o args2 ex _ HL.arg HLL.out.1 HC.p (aC HR HNE)).mono (HC.cl HR ?_);rintro x9 st9 v9 w9 U9 hv9 HF9 HC HR;replace HK := κ (HK.step HF9);obtain ⟨⟨hl9, hll9⟩, hln9⟩ := hv9;have HL9 := κ (hl9.low HC0);have hkl9 := HKL.out;have hw9 : IntKind.i64.wrap ((ops3.length : Int) - 1) = (ops3.length : Int) - 1 := IntWalk.i64_in _ (by omega);go_wp2_with fail;go_roundg fu2
          case measure => omega
          case rel =>
           refine ⟨x9, ops3, o :: rest, st9, U9, ?_, ?_, rfl, HL9, hll9, hln9, HK, HC, HR⟩
           · rw [HOP.out.1]; simp
           · have := HOP.out.2.2; simp at this; omega
     · rw [hgo_] at hgo;rw [hgo];have HR := κ hr_;clear hr_ hgo hgo_;obtain ⟨X, hX⟩ : ∃ X, Mi ts st' = X := ⟨_, rfl⟩;rw [hX] at HR;have hXt : X.text = t.text := by rw [← hX, ← HTE.out]; rfl
       have hXf : fxV (fP X.text st'.sc) = .agg #[.int .i64 X.fx.level, .bool X.fx.right, .bool X.fx.infx] := by rw [hXt, ← HTE.out, ← hX]; rfl
       have hXs : dc (ak ts st') = .agg #[.int .i64 X.at_.1, .int .i64 X.at_.2] := by rw [← hX]; rfl
       have hXl : X.text.length ≤ maxLen := hXt ▸ HTS.out;have HTX : RowKit.Hid (wz.cell? ⟨w2.heap.size, 1, none⟩ = some (str X.text)) := hXt ▸ HTK.cell 1 _ rfl;have HLK : RowKit.Hid (∀ W, Below wz.heap.size wz W → Calls Tryz.prog 215 #[qsV qs, str X.text] W fun e w' => e = .returned (.agg #[.int .i64 X.fx.level, .bool X.fx.right, .bool X.fx.infx]) ∧ Below wz.heap.size wz w' ∧ Below W.heap.size W w') := fun W hW => (EM (HC.below hW).p X.text hXl).mono fun e w' h => ⟨hXf ▸ h.1, hW.trans (h.2.mono hW.size), h.2⟩;have HHE : RowKit.Hid (∀ W, Below wz.heap.size wz W → Calls Tryz.prog 56 #[bL b] W fun e w' => e = .returned (.agg #[.int .i64 X.at_.1, .int .i64 X.at_.2]) ∧ Below wz.heap.size wz w' ∧ Below W.heap.size W w') := fun W hW => (aY HT (HC.below hW).p).mono fun e w' h => ⟨hXs ▸ h.1, hW.trans (h.2.mono hW.size), h.2⟩;have KS : RowKit.Hid (∀ W, Below wz.heap.size wz W → W.cell? ⟨b, 5, none⟩ = some (qsV qs) ∧ W.cell? ⟨w2.heap.size, 1, none⟩ = some (str X.text) ∧ Below wz.heap.size wz W) := fun W hW => by
        obtain ⟨nv_, dv_, -, -, -, -, -, c5_, -⟩ := (HC.below hW).p.reads;exact ⟨c5_, (hW.cell (ξS _ _ HTX)).trans HTX, hW⟩
       clear hX hXt hXf hXs hXl HTK HTE HTS HP HE HQ HI;go_upto_region 6 with fail;go_cut [11] (fun v wx => ∃ l, v = .pointer (some ⟨l, 0, none⟩) ∧ wz.heap.size ≤ l ∧ wx.heap[l]? = some (.cells #[.int .i64 X.fx.level, .bool X.fx.right, .bool X.fx.infx, str X.text, .int .i64 X.at_.1, .int .i64 X.at_.2] 217 (0, 0)) ∧ Below wz.heap.size wz wx)
       case first =>
        have k0 := KS.out _ (ξf _ _);go_wp2_with fail;go_region_held3 (fun W => W.cell? ⟨b, 5, none⟩ = some (qsV qs) ∧ W.cell? ⟨w2.heap.size, 1, none⟩ = some (str X.text) ∧ Below wz.heap.size wz W) (first | (refine KS.out _ ?_; (repeat (first | with_reducible exact ξf _ _ | with_reducible refine bQ ?_ _ | with_reducible refine iK ?_ _ | with_reducible refine jZ ?_ | (with_reducible refine jJ ?_ (by first | exact ξF _ | omega | (simp; done) | (simp; omega)) _) | assumption)))) (first | (go_at_call 215; refine (HLK.out _ ?_).mono ?_; (repeat (first | with_reducible exact ξf _ _ | with_reducible refine bQ ?_ _ | with_reducible refine iK ?_ _ | with_reducible refine jZ ?_ | (with_reducible refine jJ ?_ (by first | exact ξF _ | omega | (simp; done) | (simp; omega)) _) | assumption)); rintro e w5 ⟨rfl, hb5, hW5⟩; have hs5 := hb5.size; (first | (have z5 := Hg hW5) | skip)) | (go_at_call 56; refine (HHE.out _ ?_).mono ?_; (repeat (first | with_reducible exact ξf _ _ | with_reducible refine bQ ?_ _ | with_reducible refine iK ?_ _ | with_reducible refine jZ ?_ | (with_reducible refine jJ ?_ (by first | exact ξF _ | omega | (simp; done) | (simp; omega)) _) | assumption)); rintro e w6 ⟨rfl, hb6, hW6⟩; have hs6 := hb6.size; (first | (have z6 := JU hW6) | (have z6 := ni z5 hW6) | skip); (try (have y0 := bO z6 0 _ rfl; have y1 := bO z6 1 _ rfl; have y2 := bO z6 2 _ rfl; have y3 := bO z6 3 _ rfl; have y4 := bO z6 4 _ rfl; have y5 := bO z6 5 _ rfl; have yf := fun i => frozen_of_row w6 _ i _ _ z6))))
        · rename_i hHeld;go_wp2_with fail;go_meet
          exact ⟨_, rfl, hs6, ψe w6 _, hHeld.2.2⟩
        · rename_i hHeld;go_wp2_with fail;go_meet
          exact ⟨_, rfl, hs5, M8 z6 _ _ _ _ _ _, hHeld.2.2⟩
        · rename_i hHeld;go_wp2_with fail;go_meet
          exact ⟨_, rfl, ξF _, M8 z6 _ _ _ _ _ _, hHeld.2.2⟩
       case rest =>
        obtain ⟨lx, rfl, hlx, hlb, hb⟩ := hcut;have hx3 : Loc _ U' lx #[.int .i64 X.fx.level, .bool X.fx.right, .bool X.fx.infx, str X.text, .int .i64 X.at_.1, .int .i64 X.at_.2] 217 := ⟨hlb, HC.p.zero hlx⟩;have hc3 := HC.below hb;have hl3 := HL.below hb;have hk3 := HK.below hb;clear HC HL HK HTX HLK HHE KS hb hlb hlx;have HC := κ hc3;have HL := κ hl3;have HK := κ hk3;have HX := κ hx3;clear hc3 hl3 hk3 hx3;obtain ⟨wy, hwy⟩ : ∃ wy, wc = wy := ⟨_, rfl⟩;rw [hwy] at HX HC HL HK ⊢;clear hwy wc;obtain ⟨⟨nv_, dv_, c1_⟩, hf1_, hpos_, hlen_⟩ := HC.ats HT;go_upto_block 2 with fail
        clear c1_ hf1_ hpos_ hlen_;have hl3 := HL.setbX HC 1 (.int .i64 ((st'.pos : Int) + (1 : Nat)));have hk3 := HK.setb HC 1 (.int .i64 ((st'.pos : Int) + (1 : Nat)));have hx3 := HX.setb HC (i := 1) (.int .i64 ((st'.pos : Int) + (1 : Nat)));have hk_ := HC.skip (1) HR HNE;have HC := κ hk_.1;have HR := κ hk_.2;clear hk_;have HL := κ hl3;have HK := κ hk3;have HX := κ hx3;clear hl3 hk3 hx3;go_cut [7, 8] (fun v7 v8 wx => ∃ args2 ops2 st2 U2, LR w.heap.size wx U2 v7 (args2.map Int.ofNat) ∧ args2.length ≤ 1099511627776 ∧ args2 ≠ [] ∧ LkR w.heap.size wx U2 v8 ops2 ∧ ops2.length ≤ 1099511627776 ∧ Loc wx U2 lx #[.int .i64 X.fx.level, .bool X.fx.right, .bool X.fx.infx, str X.text, .int .i64 X.at_.1, .int .i64 X.at_.2] 217 ∧ Cur w0 tv ts b qs w U wx U2 st2 ∧ R = (operand >>= fun i => cA args2 >>= fun _ => cA ops2 >>= fun _ => xD ts operand ex fu (args2 ++ [i]) (ops2 ++ [X]) >>= fun p => foldM ex (p.2.length + 1) p.1 p.2 >>= fun args => pure (args.getD 0 0)) st2)
        case first =>
         go_wp2_with fail;go_loopg [7, 8] (ops.length + 1) (fun g v7 v8 wr => ∃ args2 ops2 st2 U2, ops2.length < g ∧ LR w.heap.size wr U2 v7 (args2.map Int.ofNat) ∧ args2.length ≤ 1099511627776 ∧ args2 ≠ [] ∧ LkR w.heap.size wr U2 v8 ops2 ∧ ops2.length ≤ 1099511627776 ∧ Loc wr U2 lx #[.int .i64 X.fx.level, .bool X.fx.right, .bool X.fx.infx, str X.text, .int .i64 X.at_.1, .int .i64 X.at_.2] 217 ∧ Cur w0 tv ts b qs w U wr U2 st2 ∧ R = (zi X ex (ops2.length + 1) args2 ops2 >>= fun p => operand >>= fun i => cA p.1 >>= fun _ => cA p.2 >>= fun _ => xD ts operand ex fu (p.1 ++ [i]) (p.2 ++ [X]) >>= fun p => foldM ex (p.2.length + 1) p.1 p.2 >>= fun args => pure (args.getD 0 0)) st2)
         case atStart => exact ⟨args, ops, _, U', ξJ _, HL, HLL.out.1, HLL.out.2, HK, HKL, HX, HC, HR⟩
         case round =>
          obtain ⟨args2, ops2, st2, U2, hlt, hl, hll, hln, hk, hkl, hx, hc, hr⟩ := hrel;rcases rM ops2 with rfl | ⟨ops3, o, rfl⟩
          · have hr := GZ hr;obtain ⟨ao8, cap8, rfl⟩ := hk.sl;go_wp2_with fail;go_quiet (fail);go_wp2_with fail;go_meet
            exact ⟨args2, [], st2, U2, hl, hll, hln, hk, hkl, hx, hc.drewN _, hr⟩
          · rw [show (ops3 ++ [o]).length + 1 = (ops3.length + 1) + 1 by simp] at hr;have HR := κ (Eo hr);obtain ⟨fu2, rfl⟩ : ∃ fu2, gk = fu2 + 1 := ⟨gk - 1, by omega⟩;obtain ⟨g8, cap8, rfl, hle8⟩ := hk.form (by simp);have hlt2 : ops3.length < fu2 := by simp at hlt; omega
            obtain ⟨n, hn⟩ : ∃ n, ops3.length = n := ⟨_, rfl⟩;have hlen : (ops3 ++ [o]).length = n + 1 := by simp [hn]
            rw [hlen] at hk hkl hle8 ⊢;have HOP := κ (show (ops3 ++ [o])[n]? = some o by rw [← hn]; simp);have HC := κ hc;have HL := κ hl;have HK := κ hk;have HX := κ hx;have HN := κ (ξc hn (ξc hlt2 (ξc hkl (ξc hll (ξc hln hlen)))));clear hc hl hk hx hr hll hln hlt hlt2 hn hlen;have hw1 : IntKind.i64.wrap (n : Int) = n := IntWalk.i64_in _ (by omega);have hw2 : IntKind.i64.wrap ((n : Int) + 1 - 1) = n := by rw [IntWalk.i64_in _ (by omega)]; omega
            have hz : (0 : Int) ≤ (n : Int) := by omega
            have hz1 : (n : Int) < (n : Int) + 1 := by omega
            have hz2 : (0 : Int) < (n : Int) + 1 := by omega
            have hnt : ((n : Int)).toNat = n := by omega
            have hnc : (n : Int) ≤ (cap8 : Int) := by omega
            have c0 := HK.at HOP 0 _ rfl;rw [Nat.add_zero] at c0;have c1 := HK.at HOP 1 _ rfl;have c2 := HK.at HOP 2 _ rfl;have c3 := HK.at HOP 3 _ rfl;have c4 := HK.at HOP 4 _ rfl;have c5 := HK.at HOP 5 _ rfl;have y0 := HX.cell 0 _ rfl;have y1 := HX.cell 1 _ rfl;have y2 := HX.cell 2 _ rfl;have y3 := HX.cell 3 _ rfl;have y4 := HX.cell 4 _ rfl;have y5 := HX.cell 5 _ rfl;go_wp2_with fail;refine ψn (S := (fun W => W.cell? ⟨g8, n * 6, none⟩ = some (.int .i64 o.fx.level) ∧ W.cell? ⟨g8, n * 6 + 1, none⟩ = some (.bool o.fx.right) ∧ W.cell? ⟨g8, n * 6 + 2, none⟩ = some (.bool o.fx.infx) ∧ W.cell? ⟨g8, n * 6 + 3, none⟩ = some (str o.text) ∧ W.cell? ⟨g8, n * 6 + 4, none⟩ = some (.int .i64 o.at_.1) ∧ W.cell? ⟨g8, n * 6 + 5, none⟩ = some (.int .i64 o.at_.2) ∧ W.cell? ⟨lx, 0, none⟩ = some (.int .i64 X.fx.level) ∧ W.cell? ⟨lx, 1, none⟩ = some (.bool X.fx.right) ∧ W.cell? ⟨lx, 2, none⟩ = some (.bool X.fx.infx) ∧ W.cell? ⟨lx, 3, none⟩ = some (str X.text) ∧ W.cell? ⟨lx, 4, none⟩ = some (.int .i64 X.at_.1) ∧ W.cell? ⟨lx, 5, none⟩ = some (.int .i64 X.at_.2))) (by kernel_rfl) (by exact ⟨c0, c1, c2, c3, c4, c5, y0, y1, y2, y3, y4, y5⟩) (fun hH0 => ?_);refine wpAnyH_take (i := 0) (v := ?_) rfl (by kernel_rfl) (by kernel_rfl) (by kernel_rfl) (fun _ _ _ h => h) (Or.inl ⟨by rfl, ?_⟩) hH0 ?_;rotate_left
            · (intro wS hSw; (try dsimp only at hSw); go_simp; try with_reducible rfl)
            (try simp only [Act.put, List.getElem_toArray, List.getElem_cons_succ, List.getElem_cons_zero, List.setIfInBounds_toArray, List.set_cons_zero, List.set_cons_succ])
            refine wpAnyH_take (i := 1) (v := ?_) rfl (by kernel_rfl) (by kernel_rfl) (by kernel_rfl) (fun _ _ _ h => h) (Or.inl ⟨by rfl, ?_⟩) hH0 ?_;rotate_left
            · (intro wS hSw; (try dsimp only at hSw); go_simp; try with_reducible rfl)
            (try simp only [Act.put, List.getElem_toArray, List.getElem_cons_succ, List.getElem_cons_zero, List.setIfInBounds_toArray, List.set_cons_zero, List.set_cons_succ])
            refine wpAnyH_take (i := 2) (v := ?_) rfl (by kernel_rfl) (by kernel_rfl) (by kernel_rfl) (fun _ _ _ h => h) (Or.inl ⟨by rfl, ?_⟩) hH0 ?_;rotate_left
            · (intro wS hSw; (try dsimp only at hSw); go_simp; try with_reducible rfl)
            (try simp only [Act.put, List.getElem_toArray, List.getElem_cons_succ, List.getElem_cons_zero, List.setIfInBounds_toArray, List.set_cons_zero, List.set_cons_succ])
            refine wpAnyH_take (i := 3) (v := ?_) rfl (by kernel_rfl) (by kernel_rfl) (by kernel_rfl) (fun _ _ _ h => h) (Or.inl ⟨by rfl, ?_⟩) hH0 ?_;rotate_left
            · (intro wS hSw; (try dsimp only at hSw); go_simp; try with_reducible rfl)
            (try simp only [Act.put, List.getElem_toArray, List.getElem_cons_succ, List.getElem_cons_zero, List.setIfInBounds_toArray, List.set_cons_zero, List.set_cons_succ])
            refine wpAnyH_take (i := 4) (v := ?_) rfl (by kernel_rfl) (by kernel_rfl) (by kernel_rfl) (fun _ _ _ h => h) (Or.inl ⟨by rfl, ?_⟩) hH0 ?_;rotate_left
            · (intro wS hSw; (try dsimp only at hSw); go_simp; try with_reducible rfl)
            (try simp only [Act.put, List.getElem_toArray, List.getElem_cons_succ, List.getElem_cons_zero, List.setIfInBounds_toArray, List.set_cons_zero, List.set_cons_succ])
            refine wpAnyH_take (i := 5) (v := ?_) rfl (by kernel_rfl) (by kernel_rfl) (by kernel_rfl) (fun _ _ _ h => h) (Or.inl ⟨by rfl, ?_⟩) hH0 ?_;rotate_left
            · (intro wS hSw; (try dsimp only at hSw); go_simp; try with_reducible rfl)
            (try simp only [Act.put, List.getElem_toArray, List.getElem_cons_succ, List.getElem_cons_zero, List.setIfInBounds_toArray, List.set_cons_zero, List.set_cons_succ])
            refine wpAnyH_take (i := 6) (v := ?_) rfl (by kernel_rfl) (by kernel_rfl) (by kernel_rfl) (fun _ _ _ h => h) (Or.inl ⟨by rfl, ?_⟩) hH0 ?_;rotate_left
            · (intro wS hSw; (try dsimp only at hSw); go_simp; try with_reducible rfl)
            (try simp only [Act.put, List.getElem_toArray, List.getElem_cons_succ, List.getElem_cons_zero, List.setIfInBounds_toArray, List.set_cons_zero, List.set_cons_succ])
            refine wpAnyH_take (i := 7) (v := ?_) rfl (by kernel_rfl) (by kernel_rfl) (by kernel_rfl) (fun _ _ _ h => h) (Or.inl ⟨by rfl, ?_⟩) hH0 ?_;rotate_left
            · (intro wS hSw; (try dsimp only at hSw); go_simp; try with_reducible rfl)
            (try simp only [Act.put, List.getElem_toArray, List.getElem_cons_succ, List.getElem_cons_zero, List.setIfInBounds_toArray, List.set_cons_zero, List.set_cons_succ])
            refine wpAnyH_take (i := 8) (v := ?_) rfl (by kernel_rfl) (by kernel_rfl) (by kernel_rfl) (fun _ _ _ h => h) (Or.inl ⟨by rfl, ?_⟩) hH0 ?_;rotate_left
            · (intro wS hSw; (try dsimp only at hSw); go_simp; try with_reducible rfl)
            (try simp only [Act.put, List.getElem_toArray, List.getElem_cons_succ, List.getElem_cons_zero, List.setIfInBounds_toArray, List.set_cons_zero, List.set_cons_succ])
            refine wpAnyH_take (i := 9) (v := ?_) rfl (by kernel_rfl) (by kernel_rfl) (by kernel_rfl) (fun _ _ _ h => h) (Or.inl ⟨by rfl, ?_⟩) hH0 ?_;rotate_left
            · (intro wS hSw; (try dsimp only at hSw); go_simp; try with_reducible rfl)
            (try simp only [Act.put, List.getElem_toArray, List.getElem_cons_succ, List.getElem_cons_zero, List.setIfInBounds_toArray, List.set_cons_zero, List.set_cons_succ])
            refine wpAnyH_take (i := 10) (v := ?_) rfl (by kernel_rfl) (by kernel_rfl) (by kernel_rfl) (fun _ _ _ h => h) (Or.inl ⟨by rfl, ?_⟩) hH0 ?_;rotate_left
            · (intro wS hSw; (try dsimp only at hSw); go_simp; try with_reducible rfl)
            (try simp only [Act.put, List.getElem_toArray, List.getElem_cons_succ, List.getElem_cons_zero, List.setIfInBounds_toArray, List.set_cons_zero, List.set_cons_succ])
            refine wpAnyH_take (i := 11) (v := ?_) rfl (by kernel_rfl) (by kernel_rfl) (by kernel_rfl) (fun _ _ _ h => h) (Or.inl ⟨by rfl, ?_⟩) hH0 ?_;rotate_left
            · (intro wS hSw; (try dsimp only at hSw); go_simp; try with_reducible rfl)
            (try simp only [Act.put, List.getElem_toArray, List.getElem_cons_succ, List.getElem_cons_zero, List.setIfInBounds_toArray, List.set_cons_zero, List.set_cons_succ])
            refine ψl (rs := [12]) (by kernel_rfl) (by simp) (ξa rfl (fun K hK => ?_) ξb);(try simp only [List.getElem_toArray, List.getElem_cons_succ, List.getElem_cons_zero])
            go_simp;refine (KW o X HC.p.drew).mono (HC.drew.cl HR ?_);rintro x5 st5 v5 w5 U5 rfl HF5 HC HR;replace HL := κ (HL.drew.step HF5);replace HK := κ (HK.drew.step HF5);replace HX := κ (HX.drew.step HF5);go_wp2_with fail;refine hK _ _ (by exact ⟨Nat.add_zero (n * 6) ▸ HK.at HOP.out 0 _ rfl, HK.at HOP.out 1 _ rfl, HK.at HOP.out 2 _ rfl, HK.at HOP.out 3 _ rfl, HK.at HOP.out 4 _ rfl, HK.at HOP.out 5 _ rfl, HX.cell 0 _ rfl, HX.cell 1 _ rfl, HX.cell 2 _ rfl, HX.cell 3 _ rfl, HX.cell 4 _ rfl, HX.cell 5 _ rfl⟩) fun hH1 => ?_;clear hK K hH0;(try simp only [Act.put, List.getElem_toArray, List.getElem_cons_succ, List.getElem_cons_zero, List.setIfInBounds_toArray, List.set_cons_zero, List.set_cons_succ])
            refine wpAnyH_take (i := 13) (v := ?_) rfl (by kernel_rfl) (by kernel_rfl) (by kernel_rfl) (fun _ _ _ h => h) (Or.inl ⟨by rfl, ?_⟩) hH1 ?_;rotate_left
            · (intro wS hSw; (try dsimp only at hSw); go_simp; try with_reducible rfl)
            (try simp only [Act.put, List.getElem_toArray, List.getElem_cons_succ, List.getElem_cons_zero, List.setIfInBounds_toArray, List.set_cons_zero, List.set_cons_succ])
            refine ψk (by kernel_rfl) ?_ _;clear c0 c1 c2 c3 c4 c5 y0 y1 y2 y3 y4 y5;cases x5
            · replace HR := HR.out;simp only [ξh, ↓reduceIte] at HR;replace HR := κ HR;go_wp2_with fail;go_meet
              exact ⟨args2, ops3 ++ [o], st5, U5, HL.out, HN.out.2.2.2.1, HN.out.2.2.2.2.1, HK.out, by rw [HN.out.2.2.2.2.2]; exact HN.out.2.2.1, HX.out, HC.out, HR.out⟩
            · replace HR := HR.out;simp only [ξh, ↓reduceIte] at HR;replace HR := κ HR;have c0 := HK.at HOP 0 _ rfl;rw [Nat.add_zero] at c0;have c1 := HK.at HOP 1 _ rfl;have c2 := HK.at HOP 2 _ rfl;have c3 := HK.at HOP 3 _ rfl;have c4 := HK.at HOP 4 _ rfl;have c5 := HK.at HOP 5 _ rfl;go_wp2_with fail;have HS5 := HC.size;refine (Bl HT o args2 ex _ HL.arg HN.out.2.2.2.1 HC.p (aC HR HNE)).mono (HC.cl HR ?_);rintro x9 st9 v9 w9 U9 hv9 HF9 HC HR;replace HK := κ (HK.step HF9);replace HX := κ (HX.step HF9);clear HL c0 c1 c2 c3 c4 c5;obtain ⟨⟨hl9, hll9⟩, hln9⟩ := hv9;have HL9 := κ (hl9.low HS5);go_wp2_with fail;go_roundg fu2
              case measure => omega
              case rel =>
               refine ⟨x9, ops3, st9, U9, HN.out.2.1, HL9, hll9, hln9, ?_, ?_, HX, HC, HR⟩
               · have h_ := HK.cut;rw [HN.out.1] at h_;exact h_
               · have h1_ := HN.out.1;have h2_ := HN.out.2.2.1;omega
        case rest =>
         obtain ⟨args2, ops2, st2, U2, hl, hll, hln, hk, hkl, hx, hc, hr⟩ := hcut;have HC := κ hc;have HL := κ hl;have HK := κ hk;have HX := κ hx;have HR := κ hr;have HLL := κ (ξc hll (ξc hln hkl));clear hc hl hk hx hr hll hln hkl;obtain ⟨wv, hwv⟩ : ∃ wv, wc = wv := ⟨_, rfl⟩;rw [hwv] at HX HC HL HK ⊢;clear hwv wc;have x0 := HX.cell 0 _ rfl;have x1_ := HX.cell 1 _ rfl;have x2_ := HX.cell 2 _ rfl;have x3_ := HX.cell 3 _ rfl;have x4_ := HX.cell 4 _ rfl;have x5_ := HX.cell 5 _ rfl;obtain ⟨j0, hj, hj0, hj1, hj2⟩ := info_parts Tryz.infoLink;have HJ := κ (ξc hj (ξc hj0 (ξc hj1 hj2)));clear hj hj0 hj1 hj2;have hbs := HC.size;have hkl := HLL.out.2.2;go_wp2_with (first | (at_builtin; refine ψm _ rfl (.tmp 79) (.tmp 81) 215 rfl w.heap.size 217 j0 _ 6 48 Tryz.uLinks HJ.out.1 HJ.out.2.1 HJ.out.2.2.1 HJ.out.2.2.2 rfl (by decide) _ ops2.length _ rfl (HK.out.1.alloc _) ⟨wv.heap.size, 0, none⟩ 1 1 (jW X) rfl rfl (ξW (ψe _ _)) (G7 X) (by decide) (by unfold maxLen; omega) (by omega) (by simp; omega) _ rfl ?_; intro g2 cap2 w5 hrow2 hgr2 hgb2 hgl2));have hpu := (HC.alloc _).push (n := ops2.length + 1) (cap := cap2) (fun k e => (HK.lt k e).1) HK.out.2 (ξF _) hgr2 hgb2;have hl5 := (HL.step ((Fr.refl wv U2).alloc _)).beside (HK.alloc _) hgr2;have hk5 : LkR w.heap.size w5 U2 (.slice (some ⟨g2, 0, none⟩) (ops2.length + 1) cap2) (ops2 ++ [X]) := ⟨by
          rw [J3, ξ1, List.length_singleton]; exact hrow2, hpu.2⟩
         clear hrow2 hgr2 hgb2 hgl2 HC HL HK HX hbs HJ x0 x1_ x2_ x3_ x4_ x5_;have HC := κ hpu.1;have HL := κ hl5;have HK := κ hk5;clear hpu hl5 hk5;refine (hF _ _ _ _ HC.p (aC HR HNE)).mono (HC.cl HR ?_);rintro x6 st6 v6 w6 U6 rfl HF6 HC HR;replace HL := κ (HL.step HF6);replace HK := κ (HK.step HF6);have hroom_ := bD HR HNE;have hroom := hroom_.1;replace HR := κ (hroom_.2);clear hroom_;have hroom2_ := bD HR HNE;have hroom2 := hroom2_.1;replace HR := κ (hroom2_.2);clear hroom2_;obtain ⟨j0, hj, hj0, hj1, hj2⟩ := info_parts Tryz.infoInt;have HJ := κ (ξc hj (ξc hj0 (ξc hj1 hj2)));clear hj hj0 hj1 hj2;have hbs := HC.size;go_wp2_with (first | (at_builtin; refine ψm _ rfl (.tmp 83) (.tmp 86) 39 rfl w.heap.size 3 j0 (.int .i64 0) 1 8 Tryz.underlying39 HJ.out.1 HJ.out.2.1 HJ.out.2.2.1 HJ.out.2.2.2 rfl (by decide) _ (args2.map Int.ofNat).length _ rfl (HL.out.1.alloc _) ⟨w6.heap.size, 0, none⟩ 1 1 [.int .i64 x6] rfl rfl (ξW (ψe _ _)) (bP _) (by decide) (by simp; unfold maxLen; omega) (by simp; omega) (by simp; omega) _ rfl ?_; intro g3 cap3 w7 hrow3 hgr3 hgb3 hgl3));have hpu := (HC.alloc _).push (n := args2.length + 1) (cap := cap3) (fun k e => (HL.lt k e).1) HL.out.2 (ξF _) hgr3 hgb3;have hk7 := (HK.alloc _).beside (HL.step ((Fr.refl w6 U6).alloc _)) hgr3;have HL7 : RowKit.Hid (LR w.heap.size w7 U6 (.slice (some ⟨g3, 0, none⟩) (args2.length + 1) cap3) ((args2 ++ [x6]).map Int.ofNat)) := ⟨by simpa using hrow3, hpu.2⟩;go_roundg fu
         case measure => omega
         case rel => exact ⟨args2 ++ [x6], ops2 ++ [X], _, U6, HL7.out, by simp; omega, by simp, hk7, by simp; omega, hpu.1, HR.out⟩
end
end Go.Proofs.YtbchkldhnjahaaaGreatDoor
