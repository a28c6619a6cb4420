/- Part of the proof. Conditions: those of each theorem. -/
import Derived.KernelRfl
import Derived.Test.YtbchkldhnjahaaaGreatDoorTie
import Derived.Test.YtbchkldhnjahaaaGreatDoorCards
import Derived.SevenTiedAt
import Derived.Test.YtbchkldhnjahaaaGreatDoorPaa
import Derived.Test.YtbchkldhnjahaaaGreatDoorPau
import Derived.Test.YtbchkldhnjahaaaGreatDoorPav
import Derived.Test.YtbchkldhnjahaaaGreatDoorPha
set_option maxRecDepth 100000
set_option maxHeartbeats 40000000
namespace Kiln
def Oz (l : List Nd) (k : Int) (ks : List Int) : Bool :=
 if k = 1 ∨ k = 2 ∨ k = 3 ∨ k = 4 ∨ k = 10 ∨ k = 12 ∨ k = 30 ∨ k = 31 ∨ k = 35 ∨ k = 40 ∨ k = 81 ∨ k = 91 then ks.isEmpty
 else if k = 28 then Jr l ks
 else if k < 30 then jC l k ks
 else if k < 40 then je l k ks
 else if k < 50 then F6 l k ks
 else if k < 80 then iR l k ks
 else mK l k ks
def QL (l : List Nd) (k : Int) (ks : List Int) : Bool := Cu l k ks && Oz l k ks
end Kiln
namespace Go.Proofs.YtbchkldhnjahaaaGreatDoor
open Go.RowKit Kiln
open Go.Proofs
theorem Js {p : Prop} (h : p := by
 have hv_ : ks.isEmpty = V := by rw [← HV.out]; rfl
 have HV := κ hv_;clear hv_;go_wp2_with fail;refine (wL HK2).mono ?_;rintro e w3 ⟨rfl, hb3⟩;have HE : RowKit.Hid (Below w.heap.size w w3) := κ hb3.bel;clear hb3;go_wp2_with fail;go_ret;exact ⟨by rw [← HV.out]; rfl, HE.out⟩
 ) : p := h
theorem Oi {p : Prop} (h : p := by
 rintro e w3 ⟨rfl, hb3⟩;have HE : RowKit.Hid (Below w.heap.size w w3) := κ hb3;clear hb3;go_wp2_with fail;go_ret;exact ⟨by rw [← HV.out]; rfl, HE.out⟩
 ) : p := h
theorem Pj {w : World} {l : List Nd} {ks : List Int} {la pa ka : Option Addr} {lc pn pc kc : Nat} (t : ByteArray) (k ln col : Int) (HN : NdT w (.slice la l.length lc) l) (hk : Ints w (.slice ka ks.length kc) ks)
 (hr : ∀ k ∈ ks, 0 ≤ k ∧ k < (l.length : Int)) (hll : l.length ≤ 4398046511104) :
 Calls Tryz.prog 38 #[.slice la l.length lc, .agg #[.int .i64 k, Value.string t, .slice pa pn pc, .slice ka ks.length kc, .int .i64 ln, .int .i64 col]] w fun e w' => e = .returned (.bool (QL l k ks)) ∧ Below w.heap.size w w' := by
 obtain ⟨V, hV⟩ : ∃ V, QL l k ks = V := ⟨_, rfl⟩;rw [hV];have HV : RowKit.Hid ((Cu l k ks && Oz l k ks) = V) := κ hV;have HRR := κ hr;have hk0 : KSt w ((w.alloc (.cells #[.int .i64 k, Value.string t, .slice pa pn pc, .slice ka ks.length kc, .int .i64 ln, .int .i64 col] 41)).alloc (.cells #[.slice la l.length lc, .slice ka ks.length kc] 117)) (w.heap.size + 1) (.slice la l.length lc) ks := ⟨bQ (bQ (ξf _ _) _) _, by omega, _, GV (by simp), hk⟩;have hc0 : ((w.alloc (.cells #[.int .i64 k, Value.string t, .slice pa pn pc, .slice ka ks.length kc, .int .i64 ln, .int .i64 col] 41)).alloc (.cells #[.slice la l.length lc, .slice ka ks.length kc] 117)).cell? ⟨w.heap.size, 0, none⟩ = some (.int .i64 k) := ay (bO (ψe w (.cells #[.int .i64 k, Value.string t, .slice pa pn pc, .slice ka ks.length kc, .int .i64 ln, .int .i64 col] 41)) 0 _ rfl) _;have HK := κ hk0;have HC := κ hc0;clear hV hk hr hk0 hc0;go_enter Tryz.func38, Tryz.ntmps38;go_wp2_with fail;refine (Oh HN HK HRR hll t pa ka pn pc kc ln col k).mono ?_;rintro e w2 ⟨rfl, hb2⟩;have HK2 := κ (HK.below hb2);have c0 := cell_later hb2 HC;obtain ⟨S, hS⟩ : ∃ S, Cu l k ks = S := ⟨_, rfl⟩;have hv_ := HV.out;rw [hS] at hv_ ⊢;clear HV hS hb2 HK HC;have HV := κ hv_;clear hv_;cases S
 · have HE := κ HK2.bel;go_wp2_with fail;go_ret;exact ⟨by rw [← HV.out]; rfl, HE.out⟩
 have hv_ : Oz l k ks = V := by rw [← HV.out, Bool.true_and]
 have HV := κ hv_;clear hv_;by_cases h1 : k = 1
 · subst h1;exact Js
 have e1 := kne h1;by_cases h2 : k = 2
 · subst h2;exact Js
 have e2 := kne h2;by_cases h3 : k = 3
 · subst h3;exact Js
 have e3 := kne h3;by_cases h4 : k = 4
 · subst h4;exact Js
 have e4 := kne h4;by_cases h10 : k = 10
 · subst h10;exact Js
 have e10 := kne h10;by_cases h12 : k = 12
 · subst h12;exact Js
 have e12 := kne h12;by_cases h30 : k = 30
 · subst h30;exact Js
 have e30 := kne h30;by_cases h31 : k = 31
 · subst h31;exact Js
 have e31 := kne h31;by_cases h35 : k = 35
 · subst h35;exact Js
 have e35 := kne h35;by_cases h40 : k = 40
 · subst h40;exact Js
 have e40 := kne h40;by_cases h81 : k = 81
 · subst h81;exact Js
 have e81 := kne h81;by_cases h91 : k = 91
 · subst h91;exact Js
 have e91 := kne h91;by_cases h28 : k = 28
 · subst h28;have hv_ : Jr l ks = V := by rw [← HV.out]; rfl
   clear HV h1 h2 h3 h4 h10 h12 h30 h31 h35 h40 h81 h91;have HV := κ hv_;clear hv_;go_wp2_with fail;refine (Ox HN HK2 HRR).mono ?_;exact Oi
 have e28 := kne h28;have hv_ : (if k < 30 then jC l k ks else if k < 40 then je l k ks else if k < 50 then F6 l k ks else if k < 80 then iR l k ks else mK l k ks) = V := by
  rw [← HV.out]; unfold Oz; simp [h28, h1, h2, h3, h4, h10, h12, h30, h31, h35, h40, h81, h91]
 clear HV h28 h1 h2 h3 h4 h10 h12 h30 h31 h35 h40 h81 h91;have HV := κ hv_;clear hv_;by_cases g30 : k < 30
 · have hv_ : jC l k ks = V := by rw [← HV.out, ψi g30]
   have HV := κ hv_;clear hv_;go_wp2_with fail;refine (Qm HN HK2 HRR k).mono ?_;exact Oi
 have hv_ := HV.out;rw [ψh g30] at hv_;have HV := κ hv_;clear hv_;by_cases g40 : k < 40
 · have hv_ : je l k ks = V := by rw [← HV.out, ψi g40]
   have HV := κ hv_;clear hv_;go_wp2_with fail;refine (Qj HN HK2 HRR k).mono ?_;exact Oi
 have hv_ := HV.out;rw [ψh g40] at hv_;have HV := κ hv_;clear hv_;by_cases g50 : k < 50
 · have hv_ : F6 l k ks = V := by rw [← HV.out, ψi g50]
   have HV := κ hv_;clear hv_;go_wp2_with fail;refine (QF HN HK2 HRR k).mono ?_;exact Oi
 have hv_ := HV.out;rw [ψh g50] at hv_;have HV := κ hv_;clear hv_;by_cases g80 : k < 80
 · have hv_ : iR l k ks = V := by rw [← HV.out, ψi g80]
   have HV := κ hv_;clear hv_;go_wp2_with fail;refine (Qn HN HK2 HRR k).mono ?_;exact Oi
 have hv_ := HV.out;rw [ψh g80] at hv_;have HV := κ hv_;clear hv_;go_wp2_with fail;refine (Ql HN HK2 HRR k).mono ?_;exact Oi
theorem Ow {w : World} {lv pv kv : Value} {l : List Nd} {n : Nd} (HN : NdT w lv l) (hp : Strs w pv n.path) (hk : Ints w kv n.kids) (hr : ∀ k ∈ n.kids, 0 ≤ k ∧ k < (l.length : Int)) (hll : l.length ≤ 4398046511104) :
 Calls Tryz.prog 38 #[lv, .agg #[.int .i64 n.kind, str n.text, pv, kv, .int .i64 n.line, .int .i64 n.col]] w fun e w' => e = .returned (.bool (cT l n)) ∧ Below w.heap.size w w' := by
 obtain ⟨la, lc, rfl, _⟩ := id HN;obtain ⟨pa, pc, rfl, _⟩ := id hp;obtain ⟨ka, kc, rfl, _⟩ := id hk;exact Pj _ n.kind n.line n.col HN hk hr hll
theorem JB (w : World) (lv : Value) (l : List Nd) (root : Nat) (hl : NdT w lv l) (hgood : lT l) (hroot : root < l.length) (hlen : l.length ≤ 4398046511104) :
 Calls Tryz.prog 19 #[lv, .int .i64 root] w fun e w' => e = .returned (.int .i64 0) ∧ Below w.heap.size w w' := by
 have hmk : ∀ w : World, (Instr.makeSlice 81 (.int .i64 ((root : Int) + 1)) (.int .i64 ((root : Int) + 1))).run Tryz.prog w = .ok (.slice (some ⟨w.heap.size, 0, none⟩) (root + 1) (root + 1)) (w.alloc (.cells (madeCells #[.bool false] (root + 1)) 4)) := by
  have := run_make_row' (P := Tryz.prog) 81 4 (.bool false) 1 Tryz.underlying81 Mk rfl .i64 .i64 (root + 1) (by omega) (by omega);simpa using this
 have HL := κ hl;have HGD := κ hgood;obtain ⟨la, lcap, rfl, -⟩ := hl;have hm0 : Dt (w.alloc (.cells (madeCells #[.bool false] (root + 1)) 4)) w.heap.size (root + 1) (fun _ => false) := World.rowIs_made w (.bool false) (root + 1) 4;have hb0 := bQ (ξf _ w) (.cells (madeCells #[.bool false] (root + 1)) 4);obtain ⟨wy, hwy⟩ : ∃ wy, w.alloc (.cells (madeCells #[.bool false] (root + 1)) 4) = wy := ⟨_, rfl⟩;rw [hwy] at hm0 hb0;have g0 : wy.cell? ⟨w.heap.size, root, none⟩ = some (.bool false) := World.rowIs.cell hm0 (ξJ _);have g1 : wy.frozen? ⟨w.heap.size, root, none⟩ = false := World.rowIs.frozen hm0 root;have HM1 := κ (Dt.put (m' := fun j => if j = root then true else false) (k := root) hm0 (fun j => rfl));have HB0 := κ (hb0.setCell (p := ⟨w.heap.size, root, none⟩) (ξF _) (.bool true));have HRT := κ hroot;have q0 : (decide ((root : Int) < 0)) = false := by simp
 have q1 : (decide (l.length ≤ root)) = false := by simpa using hroot
 have q2 : (decide ((l.length : Int) ≤ root)) = false := by simp; omega
 have hr0 : (root : Int) < (l.length : Int) := by omega
 have hr1 : (root : Int) < (root : Int) + 1 := by omega
 clear hm0 hb0 hgood hroot;go_enter Tryz.func19, Tryz.ntmps19;go_wp2_with fail;clear hmk g0 g1 hwy;go_loopg [6] (root + 2) (fun g v wr => ∃ (n : Nat) (m : Nat → Bool) (z : Int) (wx : World), wx = wr ∧ v = .int .i64 z ∧ z = (n : Int) - 1 ∧ n + 1 = g ∧ n ≤ root + 1 ∧ Dt wr w.heap.size (root + 1) m ∧ Below w.heap.size w wr)
 case atStart => exact ⟨root + 1, _, _, _, rfl, rfl, by omega, rfl, ξF _, HM1, HB0⟩
 case round =>
  obtain ⟨n, m, z, wx2, rfl, rfl, hz, hg, hn, hm, hb⟩ := hrel;have HB := κ hb;have HM := κ hm;have hsz := hb.size;clear hb hm;cases n with
  | zero =>
   obtain rfl : z = -1 := by omega
   clear hz hg hn;go_wp2_with fail;go_ret;exact ⟨rfl, HB⟩
  | succ i =>
   obtain rfl : z = (i : Int) := by omega
   obtain ⟨fu, rfl⟩ : ∃ fu, gk = fu + 1 := ⟨gk - 1, by omega⟩;have hi0 : (i : Int) < (l.length : Int) := by omega
   have hi1 : (i : Int) < (root : Int) + 1 := by omega
   clear hz;have e2 := HM.cell (i := i) (by omega);cases hmi : m i with
   | false =>
    rw [hmi] at e2;clear hmi;go_wp2_with fail;go_roundg fu
    case measure => omega
    case rel => exact ⟨i, m, _, _, rfl, rfl, by omega, by omega, by omega, HM, HB⟩
   | true =>
    rw [hmi] at e2;obtain ⟨nd, hnd⟩ : ∃ nd, l[i]? = some nd := ⟨_, ξw (by omega)⟩;have HG := κ (HGD i nd hnd);clear hmi;obtain ⟨bn, offn, capn, pv, kv, hv, hpv, hkv, hc⟩ := HL.one hnd;simp only [ξR] at hv;obtain ⟨rfl, -, rfl⟩ := hv;obtain ⟨pa, pcap, rfl, -⟩ := id hpv;obtain ⟨ka, kcap, rfl, hkc, hkm, -⟩ := id hkv;unfold maxLen at hkm;have HKV := κ hkv;have HPV := κ hpv;have HC := κ hc;have e3 : wx2.cell? ⟨bn, offn + i * 6 + 3, none⟩ = some (.slice ka nd.kids.length kcap) := cell_later HB (hc 3 _ rfl _ rfl);clear hc hkv hpv hnd;go_wp2_with fail;go_loopg [39] (nd.kids.length + 1) (fun g v wr => ∃ (t : Nat) (m : Nat → Bool) (wx : World), wx = wr ∧ v = .int .i64 (t : Nat) ∧ t + g = nd.kids.length + 1 ∧ t ≤ nd.kids.length ∧ Dt wr w.heap.size (root + 1) m ∧ Below w.heap.size w wr)
    case atStart => exact ⟨0, m, _, rfl, rfl, by omega, ξM _, HM, HB⟩
    case round =>
     clear HM HB e2 e3;obtain ⟨t, m2, wx3, rfl, rfl, hg, ht, hm, hb⟩ := hrel;have HB := κ hb;have HM := κ hm;have hsz := hb.size;by_cases hlt : t < nd.kids.length
     · obtain ⟨k, hk⟩ : ∃ k, nd.kids[t]? = some k := ⟨_, ξw hlt⟩;obtain ⟨hk0, hk1⟩ := HG.out.1 k (ξB hk);obtain ⟨rb, roff, rfl, hc⟩ := ints_at HKV hk;obtain ⟨kn, rfl⟩ : ∃ kn : Nat, k = kn := ⟨k.toNat, by omega⟩;have e1 : wx3.cell? ⟨rb, roff + t, none⟩ = some (.int .i64 kn) := cell_later hb hc;have hti : (t : Int) < (nd.kids.length : Int) := by omega
       have hkr : (kn : Int) < (root : Int) + 1 := by omega
       obtain ⟨fv, rfl⟩ : ∃ fv, gk = fv + 1 := ⟨gk - 1, by omega⟩;have e2 := HM.cell (i := kn) (by omega);have f2 := World.rowIs.frozen HM kn;clear hc hb hm hk;go_wp2_with fail;go_roundg fv
       case measure => omega
       case rel => exact ⟨t + 1, _, _, rfl, rfl, by omega, by omega, HM.put (m' := fun j => if j = kn then true else m2 j) (fun j => rfl), HB.setCell (ξF _) _⟩
     · obtain rfl : t = nd.kids.length := by omega
       have e0 : wx3.cell? ⟨bn, offn + i * 6, none⟩ = some (.int .i64 nd.kind) := cell_later HB (HC 0 _ rfl _ rfl);have e1 : wx3.cell? ⟨bn, offn + i * 6 + 1, none⟩ = some (str nd.text) := cell_later HB (HC 1 _ rfl _ rfl);have e2 : wx3.cell? ⟨bn, offn + i * 6 + 2, none⟩ = some (.slice pa nd.path.length pcap) := cell_later HB (HC 2 _ rfl _ rfl);have e3 : wx3.cell? ⟨bn, offn + i * 6 + 3, none⟩ = some (.slice ka nd.kids.length kcap) := cell_later HB (HC 3 _ rfl _ rfl);have e4 : wx3.cell? ⟨bn, offn + i * 6 + 4, none⟩ = some (.int .i64 nd.line) := cell_later HB (HC 4 _ rfl _ rfl);have e5 : wx3.cell? ⟨bn, offn + i * 6 + 5, none⟩ = some (.int .i64 nd.col) := cell_later HB (HC 5 _ rfl _ rfl);have HFT := κ (Ow (HL.below HB) (HPV.below HB) (HKV.below HB) (fun k hk => ⟨(HG.out.1 k hk).1, by have := (HG.out.1 k hk).2; omega⟩) hlen);clear hm hb hg;go_wp2_with fail;refine HFT.mono ?_;rintro e w4 ⟨rfl, hb4⟩;rw [HG.out.2];have HB4 := κ (HB.trans (hb4.mono hsz));have HM4 := κ (HM.below (hb4.block _ (World.rowIs.lt HM)));clear hb4;go_wp2_with fail;go_roundg fu
       case measure => omega
       case rel => exact ⟨i, _, _, _, rfl, rfl, by omega, by omega, by omega, HM4, HB4⟩
end Go.Proofs.YtbchkldhnjahaaaGreatDoor
namespace Kiln
def I3 : Bytes := [118, 97, 108, 32, 120, 32, 61, 32, 49, 32, 43, 32, 50, 32, 42, 32, 51]
def pX : List Kiln.Tok := [⟨1, [118, 97, 108], [], 1, 1⟩, ⟨2, [120], [], 1, 5⟩, ⟨1, [61], [], 1, 7⟩, ⟨4, [49], [], 1, 9⟩, ⟨2, [43], [], 1, 11⟩, ⟨4, [50], [], 1, 13⟩, ⟨2, [42], [], 1, 15⟩, ⟨4, [51], [], 1, 17⟩]
def Iy : List Nd := [⟨31, [120], [], [], 1, 5⟩, ⟨1, [49], [], [], 1, 9⟩, ⟨1, [50], [], [], 1, 13⟩, ⟨1, [51], [], [], 1, 17⟩, ⟨10, [42], [], [], 1, 15⟩, ⟨13, [], [], [2, 3], 1, 15⟩, ⟨17, [], [], [4, 5], 1, 15⟩, ⟨10, [43], [], [], 1, 11⟩, ⟨13, [], [], [1, 6], 1, 11⟩, ⟨17, [], [], [7, 8], 1, 11⟩, ⟨53, [], [], [0, 9], 1, 5⟩, ⟨51, [], [], [10], 1, 1⟩, ⟨50, [], [], [11], 1, 1⟩]
def Nc : PS := ⟨8, Iy, [1, 1, 1, 1, 1, 2, 3, 1, 4, 5, 6, 7, 8], 0, [uV]⟩
end Kiln
namespace Go.Proofs.YtbchkldhnjahaaaGreatDoor
open Go.RowKit Kiln
open Go.Proofs
theorem KT : gJ I3 = .ok pX := by kernel_rfl
theorem KR : eY pX (iV pX 1001) ps0 = .ok (12, Nc) := by kernel_rfl
theorem FT : pX.all cL = true := by kernel_rfl
theorem KV : ∀ u ∈ pX, Fits u := by
 intro u hu;simp only [pX, List.mem_cons, List.not_mem_nil, or_false] at hu;rcases hu with rfl | rfl | rfl | rfl | rfl | rfl | rfl | rfl <;> exact ⟨by simp, by simp, by simp [Lib.join]⟩
theorem KU : lT Iy := (xk FT (fun u hu => (KV u hu).2.1) KR).1
theorem FR (w : World) (hg : Gl w) : Calls Tryz.prog 10 #[] w fun e w' => e = .returned (.bool true) ∧ Below w.heap.size w w' := by
 have HG := κ hg; clear hg;have HSC := κ (rz ⟨I3.toArray⟩ w HG);go_enter Tryz.func10, Tryz.ntmps10;go_wp2_with fail;refine HSC.mono ?_;rintro e w2 hpost;have HB2 := κ hpost.1;obtain ⟨v, xs, rfl, hown, htk⟩ := Je hpost KT;clear HSC hpost;have HT := κ (Am hown htk);clear hown htk;have HP := κ (xU v pX w2 (HG.below HB2.out) HT.out (by simp [pX]) KV);obtain ⟨a, cap, hv, -⟩ := id HT;replace hv : v = .slice a 8 cap := hv;subst hv;go_wp2_with fail;refine HP.mono ?_;rw [FT, KR];rintro e w3 ⟨hb3, nv, rfl, hn⟩;have HB3 := κ (HB2.trans (hb3.mono HB2.size));have HN := κ hn;obtain ⟨na, ncap, hnv, hnx⟩ := id HN;replace hnv : nv = .slice na 13 ncap := hnv;subst hnv;obtain ⟨nb, noff, rfl, hnc⟩ := hnx (by simp [Nc, Iy]);obtain ⟨pv, kv, -, -, hc⟩ := hnc 9 _ rfl;have c9 : w3.cell? ⟨nb, noff + 54, none⟩ = some (.int .i64 17) := hc 0 _ rfl;have HC := κ (JB w3 _ Iy 12 HN KU (by decide) (by decide));clear hb3 hn hnx hnc hc HP;go_wp2_with fail;refine HC.mono ?_;rintro e w4 ⟨rfl, hb4⟩;have HB4 := κ (HB3.trans (hb4.mono HB3.size));clear hb4;go_wp2_with fail;go_ret;exact ⟨rfl, HB4⟩
def TkP (w : World) : List Kiln.Tok → List Value → Prop
 | [], xs => xs = []
 | t :: l, xs => ∃ pv ys, xs = fV t pv ++ ys ∧ Strs w pv t.path ∧ TkP w l ys
theorem TkP.snoc {w : World} {t : Kiln.Tok} {pv : Value} (hp : Strs w pv t.path) : ∀ {l : List Kiln.Tok} {xs : List Value}, TkP w l xs → TkP w (l ++ [t]) (xs ++ fV t pv)
 | [], _, h => by subst h; exact ⟨pv, [], by simp, hp, rfl⟩
 | _ :: _, _, ⟨pv', ys, hx, hp', hr⟩ => ⟨pv', ys ++ fV t pv, by rw [hx, ξo], hp', TkP.snoc hp hr⟩
theorem TkP.at {w : World} : ∀ {l : List Kiln.Tok} {xs : List Value}, TkP w l xs → ∀ (i : Nat) u, l[i]? = some u → ∃ pv, Strs w pv u.path ∧ ∀ (j : Nat) x, (fV u pv)[j]? = some x → xs[5 * i + j]? = some x
 | [], _, _, i, u, hi => by simp at hi
 | t :: l, xs, ⟨pv, ys, hx, hp, hr⟩, 0, u, hi => by
  simp only [ξv, ξO] at hi;subst hi;refine ⟨pv, hp, fun j x hj => ?_⟩;subst hx;rw [Nat.mul_zero, Nat.zero_add, ξs (ξz.1 hj).1]; exact hj
 | t :: l, xs, ⟨pv, ys, hx, hp, hr⟩, i + 1, u, hi => by
  obtain ⟨pv', hs, hc⟩ := TkP.at hr i u (by simpa using hi);refine ⟨pv', hs, fun j x hj => ?_⟩;subst hx;rw [ξt (by simp [fV]; omega)];rw [show 5 * (i + 1) + j - (fV t pv).length = 5 * i + j by simp [fV]; omega];exact hc j x hj
theorem P9 {w w' : World} {v : Value} {l : List Kiln.Tok} {xs : List Value} (ho : w'.ownsRow w.heap.size 32 5 v l.length xs) (hb : Below w.heap.size w w') (ht : TkP w l xs) : TkS w' v l := by
 rcases id ho.2 with ⟨rfl, h0⟩ | ⟨g, cap, cur, rfl, _⟩
 · have : l = [] := ξq h0;subst this;exact ⟨none, 0, rfl, fun h => absurd rfl h⟩
 · refine ⟨_, cap, rfl, fun _ => ⟨g, 0, rfl, fun i u hi => ?_⟩⟩;obtain ⟨pv, hs, hc⟩ := ht.at i u hi;refine ⟨pv, hs.below hb, fun j x hj => ?_⟩;have := ho.cells (g := g) rfl (5 * i + j) x (hc j x hj);rw [Nat.zero_add, ← iA]; exact this
theorem JC (s : ByteArray) (line col : Int) (w : World) (hg : Gl w) : Calls Tryz.prog 7 #[.string s, .int .i64 line, .int .i64 col] w fun e w' => e = .returned (.bool true) ∧ Below w.heap.size w w' := by
 have HG := κ hg; clear hg;have HSC := κ (rz s w HG);go_enter Tryz.func7, Tryz.ntmps7;go_wp2_with fail;refine HSC.mono ?_;rintro e w2 hpost;have HB2 := κ hpost.1;cases hr : gJ s.data.toList with
 | error q =>
  obtain ⟨c, x, y⟩ := q;obtain rfl := II hpost hr;have hc := xC hr;have hcn : ((c : Int) != 0) = true := by rw [ψa]; omega
  have HAL := κ (FR w2 (HG.below HB2));clear hpost hr hc;go_wp2_with fail;refine HAL.mono ?_;rintro e w3 ⟨rfl, hb3⟩;have HB3 := κ (HB2.trans (hb3.mono HB2.size));clear hb3 HAL;go_wp2_with fail;go_ret;exact ⟨rfl, HB3⟩
 | ok l =>
  obtain ⟨v, xs, rfl, hown, htk⟩ := Je hpost hr;have HT := κ (Am hown htk);have HSZ := κ (mY hr);have HSP := κ (xB hr);have hlen := HSZ.out.2;have HP := κ (Eu v l w2 (HG.below HB2) HT (by omega) fun u hu => Cc (HSZ.out.1 u hu));clear hpost hr hown htk;obtain ⟨a, cap, rfl, -⟩ := id HT;go_wp2_with fail;refine HP.mono ?_;rintro e w3 hpost;have hb3 := hpost.1;have hpo := hpost.val;clear hpost;have HB23 := κ hb3;have HB3 := κ (HB2.trans (hb3.mono HB2.size));clear hb3 HP;have HAT := κ (JK HSP line col);obtain ⟨R, hR⟩ : ∃ R, AL l = R := ⟨_, rfl⟩;rw [hR] at hpo HAT;obtain ⟨nv, rt, ln1, cl1, ec, rfl, hnv⟩ := hpo;have HNV := κ hnv;clear hR hnv;go_upto_block 7 with fail
  go_loopg [16, 17] (l.length + 1) (fun g u v wr => ∃ (t : Nat) (xs : List Value) (wx : World), wx = wr ∧ v = .int .i64 (t : Nat) ∧ t + g = l.length + 1 ∧ t ≤ l.length ∧ wr.ownsRow w3.heap.size 32 5 u t xs ∧ TkP w3 ((l.map (zJ line col)).take t) xs ∧ Below w3.heap.size w3 wr)
  case atStart => exact ⟨0, [], _, rfl, rfl, by omega, ξM _, ξX _ _ _ _, rfl, ξf _ _⟩
  case round =>
   obtain ⟨t, xs, wx, rfl, rfl, hg, ht, how, htp, hb⟩ := hrel;have HBX := κ hb;have HOW := κ how;have HTP := κ htp;obtain ⟨ma, mcap, rfl⟩ := qw how;clear hb how htp;by_cases hlt : t < l.length
   · obtain ⟨fu, rfl⟩ : ∃ fu, gk = fu + 1 := ⟨gk - 1, by omega⟩;have hti : (t : Int) < (l.length : Int) := by omega
     obtain ⟨u, hu⟩ : ∃ u, l[t]? = some u := ⟨l[t]'hlt, ξw hlt⟩;obtain ⟨a', cap', hv', hl⟩ := id HT;simp only [ξR] at hv';obtain ⟨rfl, -, rfl⟩ := hv';obtain ⟨b, off, rfl, hx⟩ := hl (by rintro rfl; simp at hlt);obtain ⟨pv, hpv, hc⟩ := hx t u hu;have HPV := κ (hpv.below HB23);have HU := κ hu;obtain ⟨pa, pcap, rfl, -⟩ := id hpv;have gk2 : ∀ (j : Nat) x q, (fV u (.slice pa u.path.length pcap))[j]? = some x → q = off + (5 * t + j) → wx.cell? ⟨b, q, none⟩ = some x := fun j x q hj hq => by
      subst hq; exact cell_later HBX.out (cell_later HB23.out (hc j x hj))
     have g0 : wx.cell? ⟨b, off + t * 5, none⟩ = some (.int .i64 u.kind) := gk2 0 _ _ rfl (by omega);have g1 : wx.cell? ⟨b, off + t * 5 + 1, none⟩ = some (str u.text) := gk2 1 _ _ rfl (by omega);have g2 : wx.cell? ⟨b, off + t * 5 + 2, none⟩ = some (.slice pa u.path.length pcap) := gk2 2 _ _ rfl (by omega);have g3 : wx.cell? ⟨b, off + t * 5 + 3, none⟩ = some (.int .i64 u.line) := gk2 3 _ _ rfl (by omega);have g4 : wx.cell? ⟨b, off + t * 5 + 4, none⟩ = some (.int .i64 u.col) := gk2 4 _ _ rfl (by omega);clear hx hl hc hpv gk2 hu;go_upto_region 10 with fail;clear g0 g1 g2 g3 g4;obtain ⟨wA, hwA⟩ : ∃ wA, wx.alloc (.cells #[.int .i64 u.kind, str u.text, .slice pa u.path.length pcap, .int .i64 u.line, .int .i64 u.col] 32) = wA := ⟨_, rfl⟩;have hA : wA.heap[wx.heap.size]? = some (.cells #[.int .i64 u.kind, str u.text, .slice pa u.path.length pcap, .int .i64 u.line, .int .i64 u.col] 32 (0, 0)) := by rw [← hwA]; exact ψe _ _
     have hB := ψg wA wx.heap.size 3 _ _ (.int .i64 line) hA;have hC := ψg _ wx.heap.size 4 _ _ (.int .i64 col) hB;have f3 : wA.frozen? ⟨wx.heap.size, 3, none⟩ = false := by simp [World.frozen?, hA]
     have f4 : wA.frozen? ⟨wx.heap.size, 4, none⟩ = false := by simp [World.frozen?, hA]
     have a3 := bO hA 3 _ rfl;have a4 := bO hA 4 _ rfl;have hbA : Below w3.heap.size w3 wA := by rw [← hwA]; exact bQ HBX.out _
     have hbC : Below w3.heap.size w3 ((wA.setCell ⟨wx.heap.size, 3, none⟩ (.int .i64 line)).setCell ⟨wx.heap.size, 4, none⟩ (.int .i64 col)) := (hbA.setCell (p := ⟨wx.heap.size, 3, none⟩) HBX.size _).setCell (p := ⟨wx.heap.size, 4, none⟩) HBX.size _;have hszA : wA.heap.size = wx.heap.size + 1 := by rw [← hwA]; simp
     rw [hwA];go_upto_region 11 with fail;obtain ⟨wC, hwC⟩ : ∃ wC, (wA.setCell ⟨wx.heap.size, 3, none⟩ (.int .i64 line)).setCell ⟨wx.heap.size, 4, none⟩ (.int .i64 col) = wC := ⟨_, rfl⟩;have hszC : wC.heap.size = wx.heap.size + 1 := by rw [← hwC]; simpa [World.setCell] using hszA
     have HOC : RowKit.Hid (∀ o, (wC.alloc o).ownsRow w3.heap.size 32 5 (.slice ma t mcap) t xs) := fun o => by
      refine cE HOW fun k e => ?_;have hk := (World.ownsRow.lt HOW k e).2;rw [ξe wC o k (by omega), ← hwC, ψf _ _ k _ (by simp; omega), ψf _ _ k _ (by simp; omega), ← hwA];exact ξe wx _ k hk
     rw [hwC] at hC hbC ⊢;have c0 := bO hC 0 _ rfl;have c1 := bO hC 1 _ rfl;have c2 := bO hC 2 _ rfl;have c3 := bO hC 3 _ rfl;have c4 := bO hC 4 _ rfl;have HBC := κ hbC;clear hwC hwA hA hB hC f3 f4 a3 a4 hbA hbC hszA;obtain ⟨u0, hu, hu0, hu1, hu2⟩ := info_parts Tryz.infoTok;have HU0 := κ (ξc hu (ξc hu0 (ξc hu1 hu2)));clear hu hu0 hu1 hu2;have hbs := HBC.size;clear hszC;go_wp2_with (first | (at_builtin; refine ψm _ rfl (.tmp 56) (.tmp 58) 22 rfl (w3.heap.size) 32 u0 (.agg #[.int .i64 0, .string ⟨#[]⟩, .slice none 0 0, .int .i64 0, .int .i64 0]) 5 64 Tryz.underlying22 HU0.out.1 HU0.out.2.1 HU0.out.2.2.1 HU0.out.2.2.2 rfl (by decide) (.slice ma t mcap) t xs rfl (HOC.out _) ⟨wC.heap.size, 0, none⟩ 1 1 [.int .i64 u.kind, str u.text, .slice pa u.path.length pcap, .int .i64 line, .int .i64 col] rfl rfl (ξW (ψe _ _)) (JM _ _ _ _ _ _ _) (by decide) (by unfold maxLen; omega) (by omega) (by simp; omega) _ rfl ?_; intro g2 cap2 w5 hrow2 hgr2 hgb2 hgl2));have HT5 : RowKit.Hid (TkP w3 ((l.map (zJ line col)).take (t + 1)) (xs ++ fV (zJ line col u) (.slice pa u.path.length pcap))) := by
      show TkP _ _ _;rw [List.take_add_one, ξ0, HU.out];exact TkP.snoc (t := zJ line col u) HPV HTP
     have HB5 : RowKit.Hid (Below w3.heap.size w3 w5) := ((HBC.alloc HBC.size _).grown hgr2 (by simp; omega) fun k e => (World.ownsRow.lt HOW.out k e).1);have HO5 := κ hrow2;clear hrow2 hgr2 hgb2 hgl2;go_wp2_with fail;go_roundg fu
     case measure => omega
     case rel => exact ⟨t + 1, _, _, rfl, rfl, by omega, by omega, HO5, HT5, HB5⟩
   · obtain rfl : t = l.length := by omega
     have HTM := κ (P9 (l := l.map (zJ line col)) (by rw [ξ4]; exact HOW.out) HBX.out (by have h := HTP.out; rwa [List.take_of_length_le (by simp)] at h));have HP2 := κ (Eu (.slice ma l.length mcap) (l.map (zJ line col)) wx (HG.below (HB3.trans (HBX.mono HB3.size))) HTM.out (by simp; omega) fun u hu => by
      obtain ⟨u', hu', rfl⟩ := List.mem_map.1 hu;exact Cc (u := u') (HSZ.out.1 u' hu'))
     have HBY := κ (HB3.trans (HBX.mono HB3.size));go_wp2_with fail;refine HP2.mono ?_;rintro e w5 ⟨hb5, hpo⟩;have HB35 := κ (HBX.trans (hb5.mono HBX.size));have HB5 := κ (HBY.trans (hb5.mono HBY.size));clear hb5 HP2 HBY HBX;cases R with
     | error k =>
      obtain ⟨h1, h2⟩ := HAT.out;obtain ⟨rfl, rfl⟩ := HNV.out;rw [h1] at hpo;obtain ⟨l', c', rfl⟩ := hpo;have q1 : ((k : Int) != (k : Int)) = false := by simp
      have q2 : ((k : Int) != 0) = true := by rw [ψa]; omega
      have HAL := κ (FR w5 (HG.below HB5));clear h1 h2;go_wp2_with fail;refine HAL.mono ?_;rintro e w6 ⟨rfl, hb6⟩;have HB6 := κ (HB5.trans (hb6.mono HB5.size));clear hb6 HAL;go_wp2_with fail;go_ret;exact ⟨rfl, HB6⟩
     | ok x =>
      obtain ⟨i, st⟩ := x;obtain ⟨⟨st', h1, h1l, h1s⟩, h2, h3, h4, h5⟩ := HAT.out;obtain ⟨rfl, rfl, hnd⟩ := HNV.out;rw [h1] at hpo;obtain ⟨mv, rfl, hmd⟩ := hpo;have HN1 := κ (hnd.below HB35);have HN2 := κ hmd;obtain ⟨na, ncap, rfl, -⟩ := id HN1;obtain ⟨oa, ocap, rfl, -⟩ := id HN2;replace h4 : st.nodes.length ≤ 262144 := h4;have HCK := κ (JB w5 _ st.nodes i HN1 h2 h3 (by omega));have HL5 := κ h5;have HSS := κ h1s;have hl1 : st'.nodes.length ≤ 262144 := by rw [h1l]; exact h4
      have hl2 : st.nodes.length ≤ 262144 := h4;have q1 : ((0 : Int) != (0 : Int)) = false := by simp
      clear h1 h1l h1s h2 h3 h4 h5 hnd hmd;go_wp2_with fail;refine HCK.mono ?_;rintro e w6 ⟨rfl, hb6⟩;have HSM := κ (GH w6 _ _ st.nodes st'.nodes (i : Int) (i : Int) true (by simp only [true_iff]; exact HSS.out) (HN1.below hb6) (HN2.below hb6) hl2 hl1 (fun x hx => (HL5.out x hx).1) (fun x hx => (HL5.out x hx).2));have HB6 := κ (HB5.trans (hb6.mono HB5.size));clear hb6 HCK;go_wp2_with fail;refine HSM.mono ?_;rintro e w7 ⟨rfl, hb7⟩;have HB7 := κ (HB6.trans (hb7.mono HB6.size));have HAL := κ (FR w7 (HG.below HB7));clear hb7 HSM;go_wp2_with fail;refine HAL.mono ?_;rintro e w8 ⟨rfl, hb8⟩;have HB8 := κ (HB7.trans (hb8.mono HB7.size));clear hb8 HAL;go_wp2_with fail;go_ret;exact ⟨rfl, HB8⟩
end Go.Proofs.YtbchkldhnjahaaaGreatDoor
namespace Go.Proofs.YtbchkldhnjahaaaGreatDoor
open Go Go.ChangeShapes Go.WideShapes Go.ChangeAt Go.RowKit
open Go.ChangeMaps (open_string shut_string)
theorem Lj (os : Os) (started : os.Started) (H : Type) (enc : TypeId × Value → H) :
 ReturnsInHanded {} Tryz.checked os 7 .any (fun w args => (Rows.treeHoldsSpec.pre enc Tryz.prog Tryz.f7 Rows.treeHoldsRow.domain false w args ∧ laidMetH Tryz.prog laid5 w) ∧ sizedMet enc Tryz.prog Tryz.f7 (OpenSpec.ofChange Rows.treeHoldsSpec) false w args)
  (Rows.treeHoldsSpec.post enc Tryz.prog Tryz.f7 false true false false) := by
 refine ER (C := Tryz.checked) (X := fun w _ => laidMetH Tryz.prog laid5 w) (fun _ _ _ hh h => h.of_heap hh) Ni started (by kernel_rfl) Tryz.func7
  (ChangeSpec.witness_shaped (enc := enc) (C := Tryz.checked) (os := os) (X := fun w _ => laidMetH Tryz.prog laid5 w) false (World.doorLaid Tryz.prog 100 os) #[.string ByteArray.empty, .int .i64 0, .int .i64 0] 8 rfl (World.shaped_of_RefB (by kernel_rfl) (by kernel_rfl)) (by kernel_rfl) (by kernel_rfl) (by kernel_rfl) (H9 os _)) ?_
 intro W base args ds gs before hval0 hW hsz0 hL hsh;have hval : ∀ (j : Nat) t v, Tryz.f7.params[j]? = some t → args[j]? = some v → Value.okWide Tryz.prog W .any base t v := hval0;have hsz : (DataW.weightsEach Tryz.prog (Tryz.f7.params.toList ++ Rows.treeHoldsSpec.plain.varTypes Tryz.prog) (ds ++ gs)).all (· ≤ reachBytes) = true := hsz0;have hW' := hW;obtain ⟨p, q, hA0, hV, rfl, hfz, hnd⟩ := hW;have hA : DataW.TrodAll enc Tryz.prog W 0 (fun _ => true) true Tryz.f7.params.toList args.toList ds p := hA0;rw [Tryz.params7] at hA hval hsz;obtain ⟨v0, v1, v2, d0, d1, d2, p0, p1, p2, rfl, rfl, rfl, h0, h1, h2⟩ := trodAll_three hA;obtain ⟨rfl, rfl⟩ := trodVars_none hV;obtain ⟨a, rfl, rfl, rfl, wa⟩ := open_string Tryz.underlying9 (hval 0 9 v0 rfl rfl) h0;obtain ⟨n1, rfl, rfl, rfl, wb⟩ := open_int Tryz.underlying3 (hval 1 3 v1 rfl rfl) h1;obtain ⟨n2, rfl, rfl, rfl, wc⟩ := open_int Tryz.underlying3 (hval 2 3 v2 rfl rfl) h2;clear hA0 hval0 hsz0 hsz;simp only [List.append_nil] at hW';refine (JC a n1 n2 W (MW hL hsh)).mono fun e W' ⟨he, hb⟩ => ?_;subst he;exact ⟨_, rfl, _, _, _, [], [], [], hW', trodAll_mk1 (shut_bool Tryz.underlying4 true), trodAll_mk3 (shut_string Tryz.underlying9 wa) (shut_int Tryz.underlying3 wb) (shut_int Tryz.underlying3 wc), rfl, hb.frame _, fun h => by cases h⟩
theorem Jy : Rows.TreeHoldsSaid :=
 OpenClaim.holds_of_wide 7 Tryz.f7 rfl rfl rfl rfl rfl rfl rfl ⟨rfl, rfl, rfl, rfl, rfl⟩ rfl rfl rfl rfl rfl (by kernel_rfl) Tryz.func7 (by kernel_rfl)
  (of_decide_eq_true (by kernel_rfl)) (by unfold Func.isWrapper; first | (rw [ψi (by decide +kernel)]; kernel_rfl) | (rw [ψh (by decide +kernel)]; exact ⟨rfl, rfl⟩))
  (fun os started H enc _ => Lj os started H enc)
theorem treeHolds_card : Rows.TreeHoldsCardSaid :=
 Claim7.holds_tied_plain_at .later [] [.data, .data, .data, .sentinel, .sentinel] true (true, "92383550f4e23bdba6b0213926b07e4d5c527c9d6f87b5a760ec16fdd7006f32") true
  Jy (fun _ h => by cases h) (by kernel_rfl) (fun _ h => by cases h) treeHolds_row_tie rfl ⟨rfl, rfl⟩ (by kernel_rfl) rfl
  (fun f fn hf hfn => by
   obtain rfl : f = 7 := Option.some.inj ((show Tryz.prog.funcNamed "kiln/kilnlaw05.TreeHolds" = some 7 by kernel_rfl).symm.trans hf) |>.symm;obtain rfl : fn = Tryz.f7 := (Option.some.inj (Tryz.func7.symm.trans hfn)).symm;exact ⟨by kernel_rfl, fun j t ht => by
    rw [Tryz.params7] at ht;have h3 : t = 9 ∨ t = 3 := by
     rcases j with _ | _ | _ | j
     · left; simpa using ht.symm
     · right; simpa using ht.symm
     · right; simpa using ht.symm
     · simp at ht
    rcases h3 with rfl | rfl
    · exact (show Tryz.prog.wantsStandIn 9 = false by kernel_rfl)
    · exact (show Tryz.prog.wantsStandIn 3 = false by kernel_rfl)⟩)
  (by kernel_rfl)
#print axioms treeHolds_card
end Go.Proofs.YtbchkldhnjahaaaGreatDoor
