/- Part of the proof. Conditions: those of each theorem. -/
import Derived.Test.YtbchkldhnjahaaaGreatDoorTie
import Derived.Test.YtbchkldhnjahaaaGreatDoorCards
import Derived.SevenTiedAt
import Derived.Test.YtbchkldhnjahaaaGreatDoorPaa
import Derived.Test.YtbchkldhnjahaaaGreatDoorPav
import Derived.Test.YtbchkldhnjahaaaGreatDoorPsa
set_option maxRecDepth 100000
set_option maxHeartbeats 40000000
namespace Kiln
theorem ow {s : Bytes} {x : Nat × PS} (h : fH s = some x) : ∃ ts, gJ s = .ok ts ∧ AL ts = .ok x := by
 unfold fH at h;cases hs : gJ s with
 | error e => rw [hs] at h; cases h
 | ok ts =>
  rw [hs] at h;simp only at h;cases ho : AL ts with
  | error e => rw [ho] at h; cases h
  | ok y => rw [ho] at h; simp only [ξO] at h; subst h; exact ⟨ts, rfl, ho⟩
theorem kD {l : Bytes} {ts : List Tok} (h : gJ l = .ok ts) : ∀ t ∈ ts, t.path.length ≤ 1099511627776 := fun t ht => by
 have := ((mY h).1 t ht).2; omega
structure Scp (a b : List Nd) (i k : Nat) (A B : Nd) (l : List Nat) (d N : Nat) : Prop where
 na : a[i]? = some A
 nb : b[k]? = some B
 ka : A.kids = l.map Int.ofNat
 kb : B.kids = (d :: l.map (· + N)).map Int.ofNat
 same : ∀ x ∈ l, oU a b (x : Int) ((x : Int) + N)
 la : a.length ≤ 262144
 lb : b.length ≤ 262144
 lens : ∀ n ∈ a, n.kids.length ≤ 262154 ∧ n.path.length ≤ 1099511627776
theorem vI {p q : Bytes} {x y z : Nat × PS} (h1 : fH q = some x) (h2 : fH (Ho ++ p ++ H8 ++ q) = some y) (h3 : fH p = some z) : ∃ A B l d N, Scp x.2.nodes y.2.nodes x.1 y.1 A B l d N := by
 obtain ⟨tq, s1, o1⟩ := ow h1;obtain ⟨ts, s2, o2⟩ := ow h2;obtain ⟨tp, s3, o3⟩ := ow h3;have hlen : (Ho ++ p ++ H8 ++ q).length ≤ 1048576 := by
  unfold gJ at s2;split at s2
  · cases s2
  · omega
 obtain ⟨t0, mp, t1, t2, mq, s4, k0, k1, k2, hm, hq⟩ := Cg s3 s1 hlen;rw [s2] at s4;simp only [ξm] at s4;obtain ⟨e1, g1, i1, m1, n1, -⟩ := rI (kD s1) o1;obtain ⟨e2, -, -, m2, -, -⟩ := rI (kD s2) o2;obtain ⟨e3, -, -, -, -, d3⟩ := rI (kD s3) o3;obtain ⟨i, s⟩ := x;obtain ⟨k, s'⟩ := y;obtain ⟨i0, s0⟩ := z;obtain ⟨A, B, l, d, N, r1, r2, r3, r4, r5⟩ := Ce s4 k0 k1 k2 hm hq e3 d3 e1 e2 g1;exact ⟨A, B, l, d, N, r1, r2, r3, r4, r5, m1, m2, n1⟩
end Kiln
namespace Go.Proofs.YtbchkldhnjahaaaGreatDoor
open Go.RowKit Kiln
open Go.Proofs
theorem EX (w : World) (a : Option Addr) (n cap i : Nat) (h : i < n) : Calls Tryz.prog 21 #[.slice a n cap, .int .i64 (i : Nat)] w fun e w' => e = .returned (.bool true) ∧ w' = w := by
 have q0 : decide ((i : Int) ≥ 0) = true := by simp
 have q1 : (i : Int) < (n : Int) := by omega
 go_enter Tryz.func21, Tryz.ntmps21;go_wp2_with fail;go_ret;exact ⟨rfl, rfl⟩
theorem tH (p q : ByteArray) (w : World) (hg : Gl w) (hzp : p.size ≤ 281474976710656) (hzq : q.size ≤ 281474976710656) : Calls Tryz.prog 8 #[.string p, .string q] w fun e w' => e = .returned (.bool true) ∧ Below w.heap.size w w' := by
 have HG := κ hg; clear hg;have HP1 := κ (oz q w HG);obtain ⟨big, hbig⟩ : ∃ big : ByteArray, ((⟨#[108, 111, 99, 97, 108, 32]⟩ : ByteArray) ++ p ++ ⟨#[10, 105, 110, 32, 101, 110, 100, 10]⟩) ++ q = big := ⟨_, rfl⟩;have HBIG : RowKit.Hid (big.data.toList = Ho ++ p.data.toList ++ H8 ++ q.data.toList) := by
  show _ = _;rw [← hbig];simp [Ho, H8]
 have hl1 : (⟨#[108, 111, 99, 97, 108, 32]⟩ : ByteArray).size = 6 := rfl;have hl2 : (⟨#[10, 105, 110, 32, 101, 110, 100, 10]⟩ : ByteArray).size = 8 := rfl;go_enter Tryz.func8, Tryz.ntmps8;go_wp2_with fail;refine HP1.mono ?_;rintro e w2 hpost;have hb2 := hpost.1;have hpo := hpost.val;clear hpost;have HB2 := κ hb2;obtain ⟨R1, hR1⟩ : ∃ R, fH q.data.toList = R := ⟨_, rfl⟩;rw [hR1] at hpo;have HR1 := κ hR1;have HP2 := κ (oz big w2 (HG.below HB2));clear hb2 HP1 hR1;obtain ⟨v1, i1, b1, rfl, hn1⟩ := hpo;have HN1 := κ hn1;clear hn1;go_wp2_with fail;clear hbig hl1 hl2;refine HP2.mono ?_;rintro e w3 hpost;have hb3 := hpost.1;have hpo := hpost.val;clear hpost;have HB23 := κ hb3;have HB3 := κ (HB2.trans (hb3.mono HB2.size));obtain ⟨R2, hR2⟩ : ∃ R, fH big.data.toList = R := ⟨_, rfl⟩;rw [hR2] at hpo;have HR2 := κ hR2;have HP3 := κ (oz p w3 (HG.below HB3));clear hb3 HP2 hR2;obtain ⟨v2, i2, b2, rfl, hn2⟩ := hpo;have HN2 := κ hn2;clear hn2;go_wp2_with fail;refine HP3.mono ?_;rintro e w4 hpost;have hb4 := hpost.1;have hpo := hpost.val;clear hpost;have HB34 := κ hb4;have HB4 := κ (HB3.trans (hb4.mono HB3.size));obtain ⟨R3, hR3⟩ : ∃ R, fH p.data.toList = R := ⟨_, rfl⟩;rw [hR3] at hpo;have HR3 := κ hR3;have HAL := κ (fun w' (h : Below w4.heap.size w4 w') => FR w' (HG.below (HB4.trans (h.mono HB4.size))));clear hb4 HP3 hR3;obtain ⟨v3, i3, b3, rfl, hn3⟩ := hpo;have HN3 := κ hn3;clear hn3;have HEND : RowKit.Hid (∀ (e : Ending) (w' : World), (e = .returned (.bool true) ∧ Below w4.heap.size w4 w') → (e = .returned (.bool true) ∧ Below w.heap.size w w')) := fun e w' h => ⟨h.1, HB4.trans (h.2.mono HB4.size)⟩;by_cases hall : ∃ x y z, R1 = some x ∧ R2 = some y ∧ R3 = some z
 rotate_left
 · have hb : (b1 && b2 && b3) = false := by
    cases R1 with
    | none => rw [show b1 = false from HN1.out]; rfl
    | some x =>
     cases R2 with
     | none => rw [show b2 = false from HN2.out]; simp
     | some y =>
      cases R3 with
      | none => rw [show b3 = false from HN3.out]; simp
      | some z => exact absurd ⟨x, y, z, rfl, rfl, rfl⟩ hall
   have HA := κ (HAL w4 (ξf _ _));clear hall;cases b1 <;> cases b2 <;> cases b3 <;> first | (exfalso; exact absurd hb (by decide)) | (clear hb; go_wp2_with fail; refine HA.mono ?_; rintro e w5 ⟨rfl, hb5⟩; have HB5 := κ hb5; clear hb5; go_wp2_with fail; go_ret; exact HEND.out _ _ ⟨rfl, HB5.out⟩)
 obtain ⟨x, y, z, rfl, rfl, rfl⟩ := hall;obtain ⟨rfl, rfl, hm1⟩ := HN1.out;obtain ⟨rfl, rfl, hm2⟩ := HN2.out;obtain ⟨-, rfl, -⟩ := HN3.out;obtain ⟨A, B, l, d, N, hsc⟩ := vI HR1.out (by rw [← HBIG.out]; exact HR2.out) HR3.out;have HSC := κ hsc;have HM1 := κ ((hm1.below HB23).below HB34);have HM2 := κ (hm2.below HB34);clear hsc hm1 hm2 HN1 HN2 HN3;obtain ⟨na, noff, ncap, npv, nkv, rfl, -, hka, hca⟩ := HM1.one HSC.na;obtain ⟨oa, ooff, ocap, opv, okv, rfl, -, hkb, hcb⟩ := HM2.one HSC.nb;obtain ⟨ka, kcap, rfl, -⟩ := id hka;obtain ⟨kb, kcap2, rfl, -⟩ := id hkb;have HKA := κ hka;have HKB := κ hkb;have c1 : w4.cell? ⟨na, noff + x.1 * 6 + 3, none⟩ = some (.slice ka A.kids.length kcap) := hca 3 _ rfl _ rfl;have c2 : w4.cell? ⟨oa, ooff + y.1 * 6 + 3, none⟩ = some (.slice kb B.kids.length kcap2) := hcb 3 _ rfl _ rfl;have HC1 := κ c1;have HC2 := κ c2;have hi1 : x.1 < x.2.nodes.length := (ξz.1 HSC.na).1;have hi2 : y.1 < y.2.nodes.length := (ξz.1 HSC.nb).1;have hj1 : (x.1 : Int) < (x.2.nodes.length : Int) := by omega
 have hj2 : (y.1 : Int) < (y.2.nodes.length : Int) := by omega
 have hkl : A.kids.length = l.length := by rw [HSC.ka, ξ4]
 have hkl2 : B.kids.length = l.length + 1 := by rw [HSC.kb]; simp
 have hl4 : l.length ≤ 262154 := by rw [← hkl]; exact (HSC.lens A (ξB HSC.na)).1
 have HKL := κ hkl;have HKL2 := κ hkl2;clear hka hkb hca hcb;have HI1 := κ (EX w4 (some ⟨na, noff, none⟩) x.2.nodes.length ncap x.1 hi1);have HI2 := κ (EX w4 (some ⟨oa, ooff, none⟩) y.2.nodes.length ocap y.1 hi2);have HL4 := κ hl4;clear hkl hkl2 hl4 hi1 hi2 c1 c2;go_wp2_with fail;refine HI1.mono ?_;rintro e w' ⟨rfl, hw'⟩;obtain rfl := hw'.symm;go_wp2_with fail;refine HI2.mono ?_;rintro e w' ⟨rfl, hw'⟩;obtain rfl := hw'.symm;go_wp2_with fail;have c1 : w4.cell? ⟨na, noff + x.1 * 6 + 3, none⟩ = some (.slice ka l.length kcap) := by have h := HC1.out; rwa [HKL.out] at h
 have c2 : w4.cell? ⟨oa, ooff + y.1 * 6 + 3, none⟩ = some (.slice kb (l.length + 1) kcap2) := by have h := HC2.out; rwa [HKL2.out] at h
 have qm : (((l.length : Int) + 1 - (l.length : Int)) != 1) = false := by rw [show (l.length : Int) + 1 - l.length = 1 by omega]; rfl
 go_quiet (fail);go_wp2_with fail;go_loopg [15] (l.length + 1) (fun g v wr => ∃ (t : Nat) (wx : World), wx = wr ∧ v = .int .i64 (t : Nat) ∧ t + g = l.length + 1 ∧ t ≤ l.length ∧ Below w4.heap.size w4 wr)
 case atStart => exact ⟨0, _, rfl, rfl, by omega, ξM _, iK (ξf _ _) _⟩
 case round =>
  obtain ⟨t, wx, rfl, rfl, hg, ht, hb⟩ := hrel;have HBX := κ hb;clear hb;have d1 := cell_later HBX c1;have d2 := cell_later HBX c2;by_cases hlt : t < l.length
  · obtain ⟨fu, rfl⟩ : ∃ fu, gk = fu + 1 := ⟨gk - 1, by omega⟩;have hti : (t : Int) < (l.length : Int) := by omega
    have hti2 : (t : Int) + 1 < (l.length : Int) + 1 := by omega
    have hti3 : (t : Int) + 1 < ((l.length + 1 : Nat) : Int) := by omega
    have hl4 := HL4.out;obtain ⟨u, hu⟩ : ∃ u, l[t]? = some u := ⟨_, ξw hlt⟩;have hua : A.kids[t]? = some (u : Int) := by rw [HSC.ka, ξ0, hu]; rfl
    have hub : B.kids[t + 1]? = some ((u : Int) + N) := by rw [HSC.kb, List.map_cons, ξu, ξ0, ξ0, hu]; rfl
    have hsm := HSC.same u (ξB hu);obtain ⟨rb, roff, rfl, hc3⟩ := ints_at HKA hua;obtain ⟨sb, soff, rfl, hc4⟩ := ints_at HKB hub;have d3 : wx.cell? ⟨rb, roff + t, none⟩ = some (.int .i64 u) := cell_later HBX hc3;have d4 : wx.cell? ⟨sb, soff + (t + 1), none⟩ = some (.int .i64 ((u : Int) + N)) := cell_later HBX hc4;have HSM := κ (GH wx.drew _ _ x.2.nodes y.2.nodes (u : Int) ((u : Int) + N) true (by simp only [true_iff]; exact hsm) (HM1.below (jZ HBX.out)) (HM2.below (jZ HBX.out)) HSC.la HSC.lb (fun x hx => (HSC.lens x hx).1) (fun x hx => (HSC.lens x hx).2));clear hu hua hub hsm hc3 hc4;go_wp2_with fail;have ew : IntKind.i64.wrap ((t : Int) + 1) = (t : Int) + 1 := IntWalk.i64_in _ (by omega);have et : ((t : Int) + 1).toNat = t + 1 := by omega
    have en : (0 : Int) ≤ (t : Int) + 1 := by omega
    refine ψn (S := (fun W => W.cell? ⟨na, noff + x.1 * 6 + 3, none⟩ = some (.slice (some ⟨rb, roff, none⟩) l.length kcap) ∧ W.cell? ⟨oa, ooff + y.1 * 6 + 3, none⟩ = some (.slice (some ⟨sb, soff, none⟩) (l.length + 1) kcap2) ∧ W.cell? ⟨rb, roff + t, none⟩ = some (.int .i64 u) ∧ W.cell? ⟨sb, soff + (t + 1), none⟩ = some (.int .i64 ((u : Int) + N)))) (by kernel_rfl) (by exact ⟨d1, d2, d3, d4⟩) (fun hH0 => ?_);refine tk 0 hH0 ?_;refine tk 1 hH0 ?_;refine tk 2 hH0 ?_;refine tk 3 hH0 ?_;refine tk 4 hH0 ?_;refine tk 5 hH0 ?_;refine tk 6 hH0 ?_;refine tk 7 hH0 ?_;refine tk 8 hH0 ?_;refine tk 9 hH0 ?_;refine tk 10 hH0 ?_;refine tk 11 hH0 ?_;refine tk 12 hH0 ?_;refine tk 13 hH0 ?_;refine tk 14 hH0 ?_;refine tk 15 hH0 ?_;refine tk 16 hH0 ?_;refine tk 17 hH0 ?_;refine tk 18 hH0 ?_;(try simp only [z0, zz])
    refine rk 19 fun K hK => ?_;(try simp only [zz])
    go_simp;refine HSM.mono ?_;rintro e w5 ⟨rfl, hb5⟩;go_wp2_with fail;refine hK _ _ (by exact ⟨cell_later hb5 d1, cell_later hb5 d2, cell_later hb5 d3, cell_later hb5 d4⟩) fun hH1 => ?_;clear hK K hH0;(try simp only [z0, zz])
    refine tk 20 hH1 ?_;(try simp only [z0, zz])
    refine ψk (by kernel_rfl) ?_ _;have HB5 := κ (show Below w4.heap.size w4 w5 from HBX.trans ((show Below wx.heap.size wx w5 from (jZ (ξf _ wx)).trans hb5).mono HBX.size));clear hb5 d1 d2 d3 d4;go_wp2_with fail;go_roundg fu
    case measure => omega
    case rel => exact ⟨t + 1, _, rfl, rfl, by omega, by omega, HB5⟩
  · obtain rfl : t = l.length := by omega
    have HA := κ (HAL wx HBX);go_wp2_with fail;refine HA.mono ?_;rintro e w5 ⟨rfl, hb5⟩;have HB5 := κ (HBX.trans (hb5.mono HBX.size));clear hb5;go_wp2_with fail;go_ret;exact HEND _ _ ⟨rfl, HB5⟩
end Go.Proofs.YtbchkldhnjahaaaGreatDoor
namespace Go.Proofs.YtbchkldhnjahaaaGreatDoor
open Go Go.ChangeShapes Go.WideShapes Go.ChangeAt Go.RowKit
open Go.ChangeMaps (open_string shut_string)
theorem vJ (os : Os) (started : os.Started) (H : Type) (enc : TypeId × Value → H) :
 ReturnsInHanded {} Tryz.checked os 8 .any (fun w args => (Rows.treeScopesSpec.pre enc Tryz.prog Tryz.f8 Rows.treeScopesRow.domain false w args ∧ laidMetH Tryz.prog laid5 w) ∧ sizedMet enc Tryz.prog Tryz.f8 (OpenSpec.ofChange Rows.treeScopesSpec) false w args)
  (Rows.treeScopesSpec.post enc Tryz.prog Tryz.f8 false true false false) := by
 refine ER (C := Tryz.checked) (X := fun w _ => laidMetH Tryz.prog laid5 w) (fun _ _ _ hh h => h.of_heap hh) Ni started (by kernel_rfl) Tryz.func8
  (ChangeSpec.witness_shaped (enc := enc) (C := Tryz.checked) (os := os) (X := fun w _ => laidMetH Tryz.prog laid5 w) false (World.doorLaid Tryz.prog 100 os) #[.string ByteArray.empty, .string ByteArray.empty] 8 rfl (World.shaped_of_RefB (by kernel_rfl) (by kernel_rfl)) (by kernel_rfl) (by kernel_rfl) (by kernel_rfl) (H9 os _)) ?_
 intro W base args ds gs before hval0 hW hsz0 hL hsh;have hval : ∀ (j : Nat) t v, Tryz.f8.params[j]? = some t → args[j]? = some v → Value.okWide Tryz.prog W .any base t v := hval0;have hsz : (DataW.weightsEach Tryz.prog (Tryz.f8.params.toList ++ Rows.treeScopesSpec.plain.varTypes Tryz.prog) (ds ++ gs)).all (· ≤ reachBytes) = true := hsz0;have hW' := hW;obtain ⟨p, q, hA0, hV, rfl, hfz, hnd⟩ := hW;have hA : DataW.TrodAll enc Tryz.prog W 0 (fun _ => true) true Tryz.f8.params.toList args.toList ds p := hA0;rw [Tryz.params8] at hA hval hsz;obtain ⟨v0, v1, d0, d1, p0, p1, rfl, rfl, rfl, h0, h1⟩ := trodAll_two hA;obtain ⟨rfl, rfl⟩ := trodVars_none hV;obtain ⟨a, rfl, rfl, rfl, wa⟩ := open_string Tryz.underlying9 (hval 0 9 v0 rfl rfl) h0;obtain ⟨b, rfl, rfl, rfl, wb⟩ := open_string Tryz.underlying9 (hval 1 9 v1 rfl rfl) h1;have sa := sized_string hsz (j := 0) (t := 9) rfl rfl;have sb := sized_string hsz (j := 1) (t := 9) rfl rfl;rw [← ξn] at sa sb;simp only [reachBytes] at sa sb;clear hA0 hval0 hsz0 hsz;simp only [List.append_nil] at hW';refine (tH a b W (MW hL hsh) (by omega) (by omega)).mono fun e W' ⟨he, hb⟩ => ?_;subst he;exact ⟨_, rfl, _, _, _, [], [], [], hW', trodAll_mk1 (shut_bool Tryz.underlying4 true), trodAll_mk2 (shut_string Tryz.underlying9 wa) (shut_string Tryz.underlying9 wb), rfl, hb.frame _, fun h => by cases h⟩
theorem qc : Rows.TreeScopesSaid :=
 OpenClaim.holds_of_wide 8 Tryz.f8 rfl rfl rfl rfl rfl rfl rfl ⟨rfl, rfl, rfl, rfl, rfl⟩ rfl rfl rfl rfl rfl (by kernel_rfl) Tryz.func8 (by kernel_rfl)
  (of_decide_eq_true (by kernel_rfl)) (by unfold Func.isWrapper; first | (rw [ψi (by decide +kernel)]; kernel_rfl) | (rw [ψh (by decide +kernel)]; exact ⟨rfl, rfl⟩))
  (fun os started H enc _ => vJ os started H enc)
theorem treeScopes_card : Rows.TreeScopesCardSaid :=
 Claim7.holds_tied_plain_at .later [] [.data, .data, .data, .sentinel, .sentinel] true (true, "92383550f4e23bdba6b0213926b07e4d5c527c9d6f87b5a760ec16fdd7006f32") true
  qc (fun _ h => by cases h) (by kernel_rfl) (fun _ h => by cases h) treeScopes_row_tie rfl ⟨rfl, rfl⟩ (by kernel_rfl) rfl
  (fun f fn hf hfn => by
   obtain rfl : f = 8 := Option.some.inj ((show Tryz.prog.funcNamed "kiln/kilnlaw05.TreeScopes" = some 8 by kernel_rfl).symm.trans hf) |>.symm;obtain rfl : fn = Tryz.f8 := (Option.some.inj (Tryz.func8.symm.trans hfn)).symm;exact ⟨by kernel_rfl, fun j t ht => by
    rw [Tryz.params8] at ht;have h3 : t = 9 := by
     rcases j with _ | _ | j
     · simpa using ht.symm
     · simpa using ht.symm
     · simp at ht
    subst h3;exact (show Tryz.prog.wantsStandIn 9 = false by kernel_rfl)⟩)
  (by kernel_rfl)
#print axioms treeScopes_card
end Go.Proofs.YtbchkldhnjahaaaGreatDoor
