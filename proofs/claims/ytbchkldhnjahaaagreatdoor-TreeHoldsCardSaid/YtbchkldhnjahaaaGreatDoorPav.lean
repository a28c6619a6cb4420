/- Part of the proof. Conditions: those of each theorem. -/
import Derived.Test.YtbchkldhnjahaaaGreatDoorRows
import Derived.ProofKit
import Derived.LaidMore
import Derived.OpenShut
import Derived.ShutString
import Derived.SizedLaws
import Derived.HandedShaped
import Derived.Stop.Joined
import Derived.Stop.LaidErr
import Derived.Shelf.Vars
import Derived.Deep.Slices
import Derived.SliceStrings
import Derived.DeepKeys4
import Derived.WideKeyEntry
import Derived.Maps.OwnSet
import Derived.Deep.CutBlock
import Derived.Test.YtbchkldhnjahaaaGreatDoorPaa
import Derived.Test.YtbchkldhnjahaaaGreatDoorPab
import Derived.Test.YtbchkldhnjahaaaGreatDoorPae
import Derived.Test.YtbchkldhnjahaaaGreatDoorPaf
import Derived.Test.YtbchkldhnjahaaaGreatDoorPah
import Derived.Test.YtbchkldhnjahaaaGreatDoorPaj
import Derived.Test.YtbchkldhnjahaaaGreatDoorPan
import Derived.Test.YtbchkldhnjahaaaGreatDoorPau
set_option maxRecDepth 100000
set_option maxHeartbeats 40000000
namespace Go.Proofs.YtbchkldhnjahaaaGreatDoor
open Go.RowKit Kiln
open Go.Proofs
theorem Ints.tail {w : World} {a : Option Addr} {k : Int} {ks : List Int} {cap : Nat} (h : Ints w (.slice a (ks.length + 1) cap) (k :: ks)) : Ints w (sliced a 1 (ks.length + 1) cap 1) ks := by
 obtain ⟨a', cap', hv, hlc, hcm, hl⟩ := h;simp only [ξ2, ξR, true_and] at hv;obtain ⟨rfl, rfl⟩ := hv;obtain ⟨b, off, rfl, hx⟩ := hl (by simp);simp only [ξ2] at hlc;unfold sliced;refine ⟨_, cap - 1, rfl, by omega, by omega, fun hne => ?_⟩;have hc : cap ≠ 1 := by
  cases ks with
  | nil => exact absurd rfl hne
  | cons c r => simp only [ξ2] at hlc; omega
 refine ⟨b, off + 1, by rw [ψh hc]; simp [Addr.add], fun i x hi => ?_⟩;have := hx (i + 1) x (by simpa using hi);rw [show off + 1 + i = off + (i + 1) by omega];exact this
structure KSt (w1 w : World) (q : Nat) (lv : Value) (ks : List Int) : Prop where
 bel : Below w1.heap.size w1 w
 q1 : w1.heap.size ≤ q
 blk : ∃ iv, w.heap[q]? = some (.cells #[lv, iv] 117 (0, 0)) ∧ Ints w1 iv ks
def MC (w1 : World) (q : Nat) (lv : Value) (r : Bool × List Int) (e : Ending) (w' : World) : Prop := e = .returned (.bool r.1) ∧ KSt w1 w' q lv r.2
theorem KSt.below {w1 w w' : World} {q : Nat} {lv : Value} {ks : List Int} (h : KSt w1 w q lv ks) (hb : Below w.heap.size w w') : KSt w1 w' q lv ks := by
 obtain ⟨iv, hq, hi⟩ := h.blk;exact ⟨h.bel.trans (hb.mono h.bel.size), h.q1, iv, (hb.block q (ξd.1 hq).1).trans hq, hi⟩
theorem KSt.drew {w1 w : World} {q : Nat} {lv : Value} {ks : List Int} (h : KSt w1 w q lv ks) : KSt w1 w.drew q lv ks := h.below ⟨rfl, rfl, rfl, ξF _, fun _ _ => rfl⟩
theorem KSt.alloc {w1 w : World} {q : Nat} {lv : Value} {ks : List Int} (h : KSt w1 w q lv ks) (o : Obj) : KSt w1 (w.alloc o) q lv ks := h.below ((ξf _ w).alloc (ξF _) o)
theorem KSt.set {w1 w : World} {q : Nat} {lv : Value} {ks : List Int} (h : KSt w1 w q lv ks) {v : Value} {ks' : List Int} (hi : Ints w1 v ks') : KSt w1 (w.setCell ⟨q, 1, none⟩ v) q lv ks' := by
 obtain ⟨iv, hq, _⟩ := h.blk;exact ⟨h.bel.setCell h.q1 _, h.q1, v, ψg w q 1 _ _ v hq, hi⟩
theorem KSt.reads {w1 w : World} {q : Nat} {lv : Value} {ks : List Int} (h : KSt w1 w q lv ks) :
 ∃ a cap, Ints w1 (.slice a ks.length cap) ks ∧ w.cell? ⟨q, 0, none⟩ = some lv ∧ w.cell? ⟨q, 1, none⟩ = some (.slice a ks.length cap) ∧ ∀ i, w.frozen? ⟨q, i, none⟩ = false := by
 obtain ⟨iv, hq, hi⟩ := h.blk;obtain ⟨a, cap, rfl, _⟩ := id hi;exact ⟨a, cap, hi, by simp [World.cell?, hq], by simp [World.cell?, hq], fun i => frozen_of_row w q i _ _ hq⟩
theorem wL {w1 w : World} {q : Nat} {lv : Value} {ks : List Int} (hk : KSt w1 w q lv ks) :
 Calls Tryz.prog 66 #[.pointer (some ⟨q, 0, none⟩)] w fun e w' => e = .returned (.bool ks.isEmpty) ∧ KSt w1 w' q lv ks := by
 have HK := κ hk;obtain ⟨a, cap, hi, c0, c1, hf⟩ := hk.reads;cases ks with
 | nil =>
  clear hi hk hf;go_enter Tryz.func66, Tryz.ntmps66;go_wp2_with fail;go_ret;exact ⟨rfl, HK⟩
 | cons k r =>
  have hd0 : (((k :: r).length : Int) == 0) = false := by rw [ξY]; simp only [ξ2]; omega
  clear hi hk hf;go_enter Tryz.func66, Tryz.ntmps66;go_wp2_with fail;go_ret;exact ⟨rfl, HK⟩
theorem wu {w1 w : World} {q : Nat} {lv : Value} {l : List Nd} {ks : List Int} (HN : NdT w1 lv l) (hk : KSt w1 w q lv ks) (hr : ∀ k ∈ ks, 0 ≤ k ∧ k < (l.length : Int)) :
 Calls Tryz.prog 150 #[.pointer (some ⟨q, 0, none⟩)] w fun e w' => e = .returned (.int .i64 (nextK l ks)) ∧ KSt w1 w' q lv ks := by
 have HK := κ hk;obtain ⟨a, cap, hi, c0, c1, hf⟩ := hk.reads;cases ks with
 | nil =>
  clear hi hk hf hr;go_enter Tryz.func150, Tryz.ntmps150;go_wp2_with fail;go_ret;exact ⟨rfl, HK⟩
 | cons k r =>
  have hd0 : (((k :: r).length : Int) == 0) = false := by rw [ξY]; simp only [ξ2]; omega
  have hk0 := hr k (by simp);obtain ⟨kn, rfl⟩ : ∃ kn : Nat, k = kn := ⟨k.toNat, by omega⟩;obtain ⟨nd, hnd⟩ : ∃ nd, l[kn]? = some nd := ⟨_, ξw (by omega)⟩;have HX := κ (show nextK l ((kn : Int) :: r) = nd.kind by simp [nextK, kindOf, hnd]);obtain ⟨bn, offn, capn, pv, kv, rfl, -, -, hc⟩ := HN.one hnd;have e0 : w.cell? ⟨bn, offn + kn * 6, none⟩ = some (.int .i64 nd.kind) := cell_later hk.bel (hc 0 _ rfl _ rfl);obtain ⟨bi, offi, rfl, hcell⟩ := ints_at hi (i := 0) rfl;have e1 : w.cell? ⟨bi, offi, none⟩ = some (.int .i64 kn) := cell_later hk.bel hcell;have hlt : (kn : Int) < (l.length : Int) := hk0.2;have hlk : (0 : Int) < (r.length : Int) + 1 := by omega
  have hlk2 : (0 : Int) < ((r.length + 1 : Nat) : Int) := by omega
  have f0 := hf 0;have f1 := hf 1;clear hi hk hf hr hc hcell hnd hk0;go_enter Tryz.func150, Tryz.ntmps150;go_wp2_with fail;go_quiet (fail);go_wp2_with fail;go_ret;exact ⟨by rw [HX.out]; rfl, HK.below ⟨rfl, rfl, rfl, ξF _, fun _ _ => rfl⟩⟩
theorem Aq (a : Option Addr) (n cap : Nat) (w : World) : (Instr.sliceAt 39 (.slice a (n + 1) cap) (some (.int .i64 1)) none none).run Tryz.prog w = .ok (sliced a 1 (n + 1) cap 1) w := by
 simp [go_sem, Tryz.underlying39];intro h; omega
theorem JN {w1 w : World} {q : Nat} {lv : Value} {l : List Nd} {ks : List Int} (k : Int) (HN : NdT w1 lv l) (hk : KSt w1 w q lv ks) (hr : ∀ k ∈ ks, 0 ≤ k ∧ k < (l.length : Int)) (hk0 : k ≠ 0) :
 Calls Tryz.prog 115 #[.pointer (some ⟨q, 0, none⟩), .int .i64 k] w (MC w1 q lv (G8 l k ks)) := by
 cases ks with
 | nil =>
  have h0 : ((0 : Int) != k) = true := by rw [ψa]; exact fun e => hk0 e.symm
  have hnx := κ (wu HN hk hr);clear hk;go_enter Tryz.func115, Tryz.ntmps115;go_wp2_with fail;refine hnx.out.mono ?_;rintro e w2 ⟨rfl, hk2⟩;rw [show nextK l [] = 0 from rfl];go_wp2_with fail;go_ret;exact ⟨rfl, hk2⟩
 | cons c r =>
  have hnx := κ (wu HN hk hr);clear hk;obtain ⟨kd, hkd⟩ : ∃ kd, kindOf l c = kd := ⟨_, rfl⟩;by_cases he : kd = k
  · have h0 : (kd != k) = false := by rw [he]; simp
    have HP := κ (show G8 l k (c :: r) = (true, r) by simp [G8, hkd, he]);clear he;go_enter Tryz.func115, Tryz.ntmps115;go_wp2_with fail;refine hnx.out.mono ?_;rintro e w2 ⟨rfl, hk2⟩;rw [show nextK l (c :: r) = kd from hkd];obtain ⟨a, cap, hi, -, c1, hf⟩ := hk2.reads;have c1' : w2.cell? ⟨q, 1, none⟩ = some (.slice a (r.length + 1) cap) := c1;have f1 := hf 1;have hs := Aq a r.length cap;have HI := κ (Ints.tail hi);obtain ⟨sa, scap, hsv⟩ : ∃ sa scap, sliced a 1 (r.length + 1) cap 1 = .slice sa r.length scap := ⟨_, _, rfl⟩;rw [hsv] at hs HI;have HK := κ hk2;clear hsv hi c1 hf hk2;go_wp2_with fail;go_ret;exact ⟨by rw [HP.out]; rfl, by rw [HP.out]; exact HK.set HI.out⟩
  · have h0 : (kd != k) = true := by rw [ψa]; exact he
    have HP := κ (show G8 l k (c :: r) = (false, c :: r) by simp [G8, hkd, he]);clear he;go_enter Tryz.func115, Tryz.ntmps115;go_wp2_with fail;refine hnx.out.mono ?_;rintro e w2 ⟨rfl, hk2⟩;rw [show nextK l (c :: r) = kd from hkd];go_wp2_with fail;go_ret;exact ⟨by rw [HP.out]; rfl, by rw [HP.out]; exact hk2⟩
theorem J2 (k : Int) (w : World) : Calls Tryz.prog 149 #[.int .i64 0, .int .i64 k] w fun e w' => e = .returned (.bool (bw 0 k)) ∧ w' = w := by
 by_cases a1 : 1 ≤ k
 · by_cases a2 : k ≤ 4
   · have HP := κ (show bw 0 k = true by simp [bw, a1, a2]);go_enter Tryz.func149, Tryz.ntmps149;go_wp2_with fail;go_ret;exact ⟨by rw [HP.out]; rfl, rfl⟩
   · by_cases a3 : 10 ≤ k
     · by_cases a4 : k ≤ 26
       · have HP := κ (show bw 0 k = true by simp [bw, a1, a2, a3, a4]);go_enter Tryz.func149, Tryz.ntmps149;go_wp2_with fail;go_ret;exact ⟨by rw [HP.out]; rfl, rfl⟩
       · have HP := κ (show bw 0 k = false by simp [bw, a1, a2, a3, a4]);go_enter Tryz.func149, Tryz.ntmps149;go_wp2_with fail;go_ret;exact ⟨by rw [HP.out]; rfl, rfl⟩
     · have HP := κ (show bw 0 k = false by simp [bw, a1, a2, a3]);go_enter Tryz.func149, Tryz.ntmps149;go_wp2_with fail;go_ret;exact ⟨by rw [HP.out]; rfl, rfl⟩
 · by_cases a5 : 10 ≤ k
   · by_cases a6 : k ≤ 26
     · have HP := κ (show bw 0 k = true by simp [bw, a1, a5, a6]);go_enter Tryz.func149, Tryz.ntmps149;go_wp2_with fail;go_ret;exact ⟨by rw [HP.out]; rfl, rfl⟩
     · have HP := κ (show bw 0 k = false by simp [bw, a1, a5, a6]);go_enter Tryz.func149, Tryz.ntmps149;go_wp2_with fail;go_ret;exact ⟨by rw [HP.out]; rfl, rfl⟩
   · have HP := κ (show bw 0 k = false by simp [bw, a1, a5]);go_enter Tryz.func149, Tryz.ntmps149;go_wp2_with fail;go_ret;exact ⟨by rw [HP.out]; rfl, rfl⟩
theorem J1 (k : Int) (w : World) : Calls Tryz.prog 149 #[.int .i64 1, .int .i64 k] w fun e w' => e = .returned (.bool (bw 1 k)) ∧ w' = w := by
 by_cases a7 : k = 1
 · subst a7;have HP := κ (show bw 1 1 = true by rfl);go_enter Tryz.func149, Tryz.ntmps149;go_wp2_with fail;go_ret;exact ⟨by rw [HP.out]; rfl, rfl⟩
 · have a7b : (k == 1) = false := by rw [ξY]; exact a7
   by_cases a8 : k = 3
   · subst a8;have HP := κ (show bw 1 3 = true by rfl);go_enter Tryz.func149, Tryz.ntmps149;go_wp2_with fail;go_ret;exact ⟨by rw [HP.out]; rfl, rfl⟩
   · have a8b : (k == 3) = false := by rw [ξY]; exact a8
     by_cases a9 : k = 4
     · subst a9;have HP := κ (show bw 1 4 = true by rfl);go_enter Tryz.func149, Tryz.ntmps149;go_wp2_with fail;go_ret;exact ⟨by rw [HP.out]; rfl, rfl⟩
     · have a9b : (k == 4) = false := by rw [ξY]; exact a9
       by_cases a10 : 30 ≤ k
       · by_cases a11 : k ≤ 38
         · by_cases a12 : k = 35
           · subst a12;have HP := κ (show bw 1 35 = false by rfl);go_enter Tryz.func149, Tryz.ntmps149;go_wp2_with fail;go_ret;exact ⟨by rw [HP.out]; rfl, rfl⟩
           · have a12b : (k != 35) = true := by rw [ψa]; exact a12
             have HP := κ (show bw 1 k = true by simp [bw, a7, a8, a9, a10, a11, a12]);go_enter Tryz.func149, Tryz.ntmps149;go_wp2_with fail;go_ret;exact ⟨by rw [HP.out]; rfl, rfl⟩
         · have HP := κ (show bw 1 k = false by simp [bw, a7, a8, a9, a10, a11]);go_enter Tryz.func149, Tryz.ntmps149;go_wp2_with fail;go_ret;exact ⟨by rw [HP.out]; rfl, rfl⟩
       · have HP := κ (show bw 1 k = false by simp [bw, a7, a8, a9, a10]);go_enter Tryz.func149, Tryz.ntmps149;go_wp2_with fail;go_ret;exact ⟨by rw [HP.out]; rfl, rfl⟩
theorem J0 (k : Int) (w : World) : Calls Tryz.prog 149 #[.int .i64 2, .int .i64 k] w fun e w' => e = .returned (.bool (bw 2 k)) ∧ w' = w := by
 by_cases a13 : 40 ≤ k
 · by_cases a14 : k ≤ 44
   · have HP := κ (show bw 2 k = true by simp [bw, a13, a14]);go_enter Tryz.func149, Tryz.ntmps149;go_wp2_with fail;go_ret;exact ⟨by rw [HP.out]; rfl, rfl⟩
   · have HP := κ (show bw 2 k = false by simp [bw, a13, a14]);go_enter Tryz.func149, Tryz.ntmps149;go_wp2_with fail;go_ret;exact ⟨by rw [HP.out]; rfl, rfl⟩
 · have HP := κ (show bw 2 k = false by simp [bw, a13]);go_enter Tryz.func149, Tryz.ntmps149;go_wp2_with fail;go_ret;exact ⟨by rw [HP.out]; rfl, rfl⟩
theorem JZ (k : Int) (w : World) : Calls Tryz.prog 149 #[.int .i64 3, .int .i64 k] w fun e w' => e = .returned (.bool (bw 3 k)) ∧ w' = w := by
 by_cases a15 : k = 51
 · subst a15;have HP := κ (show bw 3 51 = true by rfl);go_enter Tryz.func149, Tryz.ntmps149;go_wp2_with fail;go_ret;exact ⟨by rw [HP.out]; rfl, rfl⟩
 · have a15b : (k == 51) = false := by rw [ξY]; exact a15
   by_cases a16 : k = 52
   · subst a16;have HP := κ (show bw 3 52 = true by rfl);go_enter Tryz.func149, Tryz.ntmps149;go_wp2_with fail;go_ret;exact ⟨by rw [HP.out]; rfl, rfl⟩
   · have a16b : (k == 52) = false := by rw [ξY]; exact a16
     by_cases a17 : k = 54
     · subst a17;have HP := κ (show bw 3 54 = true by rfl);go_enter Tryz.func149, Tryz.ntmps149;go_wp2_with fail;go_ret;exact ⟨by rw [HP.out]; rfl, rfl⟩
     · have a17b : (k == 54) = false := by rw [ξY]; exact a17
       by_cases a18 : k = 58
       · subst a18;have HP := κ (show bw 3 58 = true by rfl);go_enter Tryz.func149, Tryz.ntmps149;go_wp2_with fail;go_ret;exact ⟨by rw [HP.out]; rfl, rfl⟩
       · have a18b : (k == 58) = false := by rw [ξY]; exact a18
         by_cases a19 : k = 60
         · subst a19;have HP := κ (show bw 3 60 = true by rfl);go_enter Tryz.func149, Tryz.ntmps149;go_wp2_with fail;go_ret;exact ⟨by rw [HP.out]; rfl, rfl⟩
         · have a19b : (k == 60) = false := by rw [ξY]; exact a19
           by_cases a20 : k = 63
           · subst a20;have HP := κ (show bw 3 63 = true by rfl);go_enter Tryz.func149, Tryz.ntmps149;go_wp2_with fail;go_ret;exact ⟨by rw [HP.out]; rfl, rfl⟩
           · have a20b : (k == 63) = false := by rw [ξY]; exact a20
             by_cases a21 : k = 64
             · subst a21;have HP := κ (show bw 3 64 = true by rfl);go_enter Tryz.func149, Tryz.ntmps149;go_wp2_with fail;go_ret;exact ⟨by rw [HP.out]; rfl, rfl⟩
             · have a21b : (k == 64) = false := by rw [ξY]; exact a21
               by_cases a22 : k = 66
               · subst a22;have HP := κ (show bw 3 66 = true by rfl);go_enter Tryz.func149, Tryz.ntmps149;go_wp2_with fail;go_ret;exact ⟨by rw [HP.out]; rfl, rfl⟩
               · have a22b : (k == 66) = false := by rw [ξY]; exact a22
                 by_cases a23 : k = 67
                 · subst a23;have HP := κ (show bw 3 67 = true by rfl);go_enter Tryz.func149, Tryz.ntmps149;go_wp2_with fail;go_ret;exact ⟨by rw [HP.out]; rfl, rfl⟩
                 · have a23b : (k == 67) = false := by rw [ξY]; exact a23
                   by_cases a24 : k = 68
                   · subst a24;have HP := κ (show bw 3 68 = true by rfl);go_enter Tryz.func149, Tryz.ntmps149;go_wp2_with fail;go_ret;exact ⟨by rw [HP.out]; rfl, rfl⟩
                   · have a24b : (k == 68) = false := by rw [ξY]; exact a24
                     by_cases a25 : k = 69
                     · subst a25;have HP := κ (show bw 3 69 = true by rfl);go_enter Tryz.func149, Tryz.ntmps149;go_wp2_with fail;go_ret;exact ⟨by rw [HP.out]; rfl, rfl⟩
                     · have a25b : (k == 69) = false := by rw [ξY]; exact a25
                       by_cases a26 : k = 71
                       · subst a26;have HP := κ (show bw 3 71 = true by rfl);go_enter Tryz.func149, Tryz.ntmps149;go_wp2_with fail;go_ret;exact ⟨by rw [HP.out]; rfl, rfl⟩
                       · have a26b : (k == 71) = false := by rw [ξY]; exact a26
                         by_cases a27 : k = 73
                         · subst a27;have HP := κ (show bw 3 73 = true by rfl);go_enter Tryz.func149, Tryz.ntmps149;go_wp2_with fail;go_ret;exact ⟨by rw [HP.out]; rfl, rfl⟩
                         · have a27b : (k == 73) = false := by rw [ξY]; exact a27
                           have HP := κ (show bw 3 k = false by simp [bw, a15, a16, a17, a18, a19, a20, a21, a22, a23, a24, a25, a26, a27]);go_enter Tryz.func149, Tryz.ntmps149;go_wp2_with fail;go_ret;exact ⟨by rw [HP.out]; rfl, rfl⟩
theorem JY (k : Int) (w : World) : Calls Tryz.prog 149 #[.int .i64 4, .int .i64 k] w fun e w' => e = .returned (.bool (bw 4 k)) ∧ w' = w := by
 by_cases a13 : 80 ≤ k
 · by_cases a14 : k ≤ 85
   · have HP := κ (show bw 4 k = true by simp [bw, a13, a14]);go_enter Tryz.func149, Tryz.ntmps149;go_wp2_with fail;go_ret;exact ⟨by rw [HP.out]; rfl, rfl⟩
   · have HP := κ (show bw 4 k = false by simp [bw, a13, a14]);go_enter Tryz.func149, Tryz.ntmps149;go_wp2_with fail;go_ret;exact ⟨by rw [HP.out]; rfl, rfl⟩
 · have HP := κ (show bw 4 k = false by simp [bw, a13]);go_enter Tryz.func149, Tryz.ntmps149;go_wp2_with fail;go_ret;exact ⟨by rw [HP.out]; rfl, rfl⟩
theorem JX (k : Int) (w : World) : Calls Tryz.prog 149 #[.int .i64 5, .int .i64 k] w fun e w' => e = .returned (.bool (bw 5 k)) ∧ w' = w := by
 by_cases a13 : 90 ≤ k
 · by_cases a14 : k ≤ 92
   · have HP := κ (show bw 5 k = true by simp [bw, a13, a14]);go_enter Tryz.func149, Tryz.ntmps149;go_wp2_with fail;go_ret;exact ⟨by rw [HP.out]; rfl, rfl⟩
   · have HP := κ (show bw 5 k = false by simp [bw, a13, a14]);go_enter Tryz.func149, Tryz.ntmps149;go_wp2_with fail;go_ret;exact ⟨by rw [HP.out]; rfl, rfl⟩
 · have HP := κ (show bw 5 k = false by simp [bw, a13]);go_enter Tryz.func149, Tryz.ntmps149;go_wp2_with fail;go_ret;exact ⟨by rw [HP.out]; rfl, rfl⟩
theorem JW (k : Int) (w : World) : Calls Tryz.prog 149 #[.int .i64 6, .int .i64 k] w fun e w' => e = .returned (.bool (bw 6 k)) ∧ w' = w := by
 by_cases a13 : 94 ≤ k
 · by_cases a14 : k ≤ 100
   · have HP := κ (show bw 6 k = true by simp [bw, a13, a14]);go_enter Tryz.func149, Tryz.ntmps149;go_wp2_with fail;go_ret;exact ⟨by rw [HP.out]; rfl, rfl⟩
   · have HP := κ (show bw 6 k = false by simp [bw, a13, a14]);go_enter Tryz.func149, Tryz.ntmps149;go_wp2_with fail;go_ret;exact ⟨by rw [HP.out]; rfl, rfl⟩
 · have HP := κ (show bw 6 k = false by simp [bw, a13]);go_enter Tryz.func149, Tryz.ntmps149;go_wp2_with fail;go_ret;exact ⟨by rw [HP.out]; rfl, rfl⟩
theorem JV (k : Int) (w : World) : Calls Tryz.prog 149 #[.int .i64 7, .int .i64 k] w fun e w' => e = .returned (.bool (bw 7 k)) ∧ w' = w := by
 by_cases a13 : k = 62
 · subst a13;have HP := κ (show bw 7 62 = true by rfl);go_enter Tryz.func149, Tryz.ntmps149;go_wp2_with fail;go_ret;exact ⟨by rw [HP.out]; rfl, rfl⟩
 · have a13b : (k == 62) = false := by rw [ξY]; exact a13
   by_cases a14 : k = 65
   · subst a14;have HP := κ (show bw 7 65 = true by rfl);go_enter Tryz.func149, Tryz.ntmps149;go_wp2_with fail;go_ret;exact ⟨by rw [HP.out]; rfl, rfl⟩
   · have a14b : (k == 65) = false := by rw [ξY]; exact a14
     have HP := κ (show bw 7 k = false by simp [bw, a13b, a14b]);go_enter Tryz.func149, Tryz.ntmps149;go_wp2_with fail;go_ret;exact ⟨by rw [HP.out]; rfl, rfl⟩
theorem CC (g : Nat) (k : Int) (w : World) (hg : g ≤ 7) :
 Calls Tryz.prog 149 #[.int .i64 g, .int .i64 k] w fun e w' => e = .returned (.bool (bw g k)) ∧ w' = w := by
 obtain rfl | rfl | rfl | rfl | rfl | rfl | rfl | rfl : g = 0 ∨ g = 1 ∨ g = 2 ∨ g = 3 ∨ g = 4 ∨ g = 5 ∨ g = 6 ∨ g = 7 := by omega
 · exact J2 k w
 · exact J1 k w
 · exact J0 k w
 · exact JZ k w
 · exact JY k w
 · exact JX k w
 · exact JW k w
 · exact JV k w
end Go.Proofs.YtbchkldhnjahaaaGreatDoor
namespace Kiln
theorem uM {f : Int → Bool} {c : Int} {r : List Int} (h : f c = true) : cH f (c :: r) = ((cH f r).1 + 1, (cH f r).2) := by simp [cH, h]
theorem uL {f : Int → Bool} {c : Int} {r : List Int} (h : f c = false) : cH f (c :: r) = (0, c :: r) := by simp [cH, h]
theorem EH (l : List Nd) (k : Int) (r : List Int) : (∃ c r', r = c :: r' ∧ G8 l k r = (true, r') ∧ cH (fun c => kindOf l c == k) r = ((cH (fun c => kindOf l c == k) r').1 + 1, (cH (fun c => kindOf l c == k) r').2)) ∨ (G8 l k r = (false, r) ∧ cH (fun c => kindOf l c == k) r = (0, r)) := by
 cases r with
 | nil => exact .inr ⟨rfl, rfl⟩
 | cons c r =>
  by_cases h : kindOf l c = k
  · exact .inl ⟨c, r, rfl, by simp [G8, h], uM (by simp [h])⟩
  · exact .inr ⟨by simp [G8, h], uL (by simp [h])⟩
theorem G9 (l : List Nd) (g : Nat) (r : List Int) : (∃ c r', r = c :: r' ∧ ofG l g r = (true, r') ∧ cH (fun c => bw g (kindOf l c)) r = ((cH (fun c => bw g (kindOf l c)) r').1 + 1, (cH (fun c => bw g (kindOf l c)) r').2)) ∨ (ofG l g r = (false, r) ∧ cH (fun c => bw g (kindOf l c)) r = (0, r)) := by
 cases r with
 | nil => exact .inr ⟨rfl, rfl⟩
 | cons c r =>
  cases h : bw g (kindOf l c) with
  | true => exact .inl ⟨c, r, rfl, by simp [ofG, h], uM (by simp [h])⟩
  | false => exact .inr ⟨by simp [ofG, h], uL (by simp [h])⟩
end Kiln
namespace Go.Proofs.YtbchkldhnjahaaaGreatDoor
open Go.RowKit Kiln
open Go.Proofs
theorem KSt.form {w1 w : World} {q : Nat} {lv : Value} {ks : List Int} (h : KSt w1 w q lv ks) : ks.length ≤ 9223372036854775807 := by
 obtain ⟨iv, _, a, cap, _, h1, h2, _⟩ := h.blk;unfold maxLen at h2;omega
theorem wo {w1 w : World} {q : Nat} {lv : Value} {l : List Nd} {ks : List Int} (g : Nat) (hg : g ≤ 7) (HN : NdT w1 lv l) (hk : KSt w1 w q lv ks) (hr : ∀ k ∈ ks, 0 ≤ k ∧ k < (l.length : Int)) :
 Calls Tryz.prog 112 #[.pointer (some ⟨q, 0, none⟩), .int .i64 g] w (MC w1 q lv (ofG l g ks)) := by
 have HK := κ hk;obtain ⟨a, cap, hi, -, c1, hf⟩ := hk.reads;cases ks with
 | nil =>
  clear hi hk hf;go_enter Tryz.func112, Tryz.ntmps112;go_wp2_with fail;go_ret;exact ⟨rfl, HK⟩
 | cons c r =>
  have hd0 : (((c :: r).length : Int) == 0) = false := by rw [ξY]; simp only [ξ2]; omega
  have c1' : w.cell? ⟨q, 1, none⟩ = some (.slice a (r.length + 1) cap) := c1;have f1 := hf 1;obtain ⟨kd, hkd⟩ : ∃ kd, kindOf l c = kd := ⟨_, rfl⟩;have hnx := κ (wu HN hk hr);clear hi hk hf c1;obtain ⟨B, hB⟩ : ∃ B, bw g kd = B := ⟨_, rfl⟩;have HMB := κ hB;have HKD := κ hkd;clear hB hkd;go_enter Tryz.func112, Tryz.ntmps112;go_wp2_with fail;refine hnx.out.mono ?_;rintro e w2 ⟨rfl, hk2⟩;rw [show nextK l (c :: r) = kd from HKD.out];have HK2 := κ hk2;clear hk2;go_wp2_with fail;refine (CC g kd w2 hg).mono ?_;rintro e w3 ⟨rfl, rfl⟩;rw [HMB.out];cases B with
  | false =>
   have HP := κ (show ofG l g (c :: r) = (false, c :: r) by simp [ofG, HKD.out, HMB.out]);go_wp2_with fail;go_ret;exact ⟨by rw [HP.out]; rfl, by rw [HP.out]; exact HK2.out⟩
  | true =>
   have HP := κ (show ofG l g (c :: r) = (true, r) by simp [ofG, HKD.out, HMB.out]);obtain ⟨a, cap, hi, -, c1, hf⟩ := HK2.reads;have c1' : w3.cell? ⟨q, 1, none⟩ = some (.slice a (r.length + 1) cap) := c1;have f1 := hf 1;have hs := Aq a r.length cap;have HI := κ (Ints.tail hi);obtain ⟨sa, scap, hsv⟩ : ∃ sa scap, sliced a 1 (r.length + 1) cap 1 = .slice sa r.length scap := ⟨_, _, rfl⟩;rw [hsv] at hs HI;clear hsv hi c1 hf;go_wp2_with fail;go_ret;exact ⟨by rw [HP.out]; rfl, by rw [HP.out]; exact HK2.set HI.out⟩
theorem Nt {p : Prop} (h : p := by
 rw [ho] at hk2 ⊢;rw [hs] at hm;have HM := κ hm;have HK2 := κ hk2;clear hm hk2 hs ho;simp only [ξ2] at hn;go_wp2_with fail;go_roundg (r'.length + 1)
 case measure => simp
 case rel => exact ⟨n + 1, r', _, rfl, rfl, rfl, fun c hc => HSUB.out c (ξA _ hc), HK2.out, by omega, by rw [HM.out, Nat.add_assoc, Nat.add_comm 1]⟩
 ) : p := h
theorem GK {w1 w : World} {q : Nat} {lv : Value} {l : List Nd} {ks : List Int} (k : Int) (least : Int) (HN : NdT w1 lv l) (hk : KSt w1 w q lv ks) (hr : ∀ k ∈ ks, 0 ≤ k ∧ k < (l.length : Int)) (hk0 : k ≠ 0) :
 Calls Tryz.prog 113 #[.pointer (some ⟨q, 0, none⟩), .int .i64 k, .int .i64 least] w fun e w' => e = .returned (.bool (eZ l k least ks)) ∧ Below w1.heap.size w1 w' := by
 have HK := κ hk;have HRR := κ hr;have HLN := κ hk.form;have HX : RowKit.Hid (∀ n r, cH (fun c => kindOf l c == k) ks = (n, r) → eZ l k least ks = (decide (least ≤ (n : Int)) && r.isEmpty)) := fun n r h => by unfold eZ; rw [h]
 clear hk hr;go_enter Tryz.func113, Tryz.ntmps113;go_wp2_with fail;go_loopg [7] (ks.length + 1) (fun g v wr => ∃ (n : Nat) (r : List Int) (wx : World), wx = wr ∧ v = .int .i64 (n : Nat) ∧ r.length + 1 = g ∧ (∀ c ∈ r, c ∈ ks) ∧ KSt w1 wr q lv r ∧ n + r.length = ks.length ∧ cH (fun c => kindOf l c == k) ks = ((cH (fun c => kindOf l c == k) r).1 + n, (cH (fun c => kindOf l c == k) r).2))
 case atStart => exact ⟨0, ks, _, rfl, rfl, rfl, fun _ h => h, HK, by omega, rfl⟩
 case round =>
  obtain ⟨n, r, wx, rfl, rfl, rfl, hsub, hkk, hn, hm⟩ := hrel;have HSUB := κ hsub;have hon := κ (JN k HN hkk (fun c hc => HRR c (hsub c hc)) hk0);have hln := HLN.out;clear hsub hkk;go_wp2_with fail;refine hon.out.mono ?_;rintro e w2 ⟨rfl, hk2⟩;clear hon;rcases EH l k r with ⟨c, r', rfl, ho, hs⟩ | ⟨ho, hs⟩
  · exact Nt
  · rw [ho] at hk2 ⊢;rw [hs] at hm;have HM := κ (HX.out n r (by rw [hm, Nat.zero_add]));have HK2 := κ hk2;clear hm hk2 hs ho;by_cases hle : least ≤ (n : Int)
    · have HE := κ (wL HK2);go_wp2_with fail;refine HE.mono ?_;rintro e w3 ⟨rfl, hk3⟩;have HB := κ hk3.bel;have HX2 := κ (show eZ l k least ks = r.isEmpty by rw [HM.out]; simp [hle]);clear hk3;go_wp2_with fail;go_ret;exact ⟨by rw [HX2.out]; rfl, HB.out⟩
    · have HX2 := κ (show eZ l k least ks = false by rw [HM.out]; simp [hle]);have HB := κ HK2.bel;go_wp2_with fail;go_ret;exact ⟨by rw [HX2.out]; rfl, HB.out⟩
theorem FQ {w1 w : World} {q : Nat} {lv : Value} {l : List Nd} {ks : List Int} (g : Nat) (least : Int) (HN : NdT w1 lv l) (hk : KSt w1 w q lv ks) (hr : ∀ k ∈ ks, 0 ≤ k ∧ k < (l.length : Int)) (hk0 : g ≤ 7) :
 Calls Tryz.prog 114 #[.pointer (some ⟨q, 0, none⟩), .int .i64 g, .int .i64 least] w fun e w' => e = .returned (.bool (mI l g least ks)) ∧ Below w1.heap.size w1 w' := by
 have HK := κ hk;have HRR := κ hr;have HLN := κ hk.form;have HX : RowKit.Hid (∀ n r, cH (fun c => bw g (kindOf l c)) ks = (n, r) → mI l g least ks = (decide (least ≤ (n : Int)) && r.isEmpty)) := fun n r h => by unfold mI; rw [h]
 clear hk hr;go_enter Tryz.func114, Tryz.ntmps114;go_wp2_with fail;go_loopg [7] (ks.length + 1) (fun gg v wr => ∃ (n : Nat) (r : List Int) (wx : World), wx = wr ∧ v = .int .i64 (n : Nat) ∧ r.length + 1 = gg ∧ (∀ c ∈ r, c ∈ ks) ∧ KSt w1 wr q lv r ∧ n + r.length = ks.length ∧ cH (fun c => bw g (kindOf l c)) ks = ((cH (fun c => bw g (kindOf l c)) r).1 + n, (cH (fun c => bw g (kindOf l c)) r).2))
 case atStart => exact ⟨0, ks, _, rfl, rfl, rfl, fun _ h => h, HK, by omega, rfl⟩
 case round =>
  obtain ⟨n, r, wx, rfl, rfl, rfl, hsub, hkk, hn, hm⟩ := hrel;have HSUB := κ hsub;have hon := κ (wo g hk0 HN hkk (fun c hc => HRR c (hsub c hc)));have hln := HLN.out;clear hsub hkk;go_wp2_with fail;refine hon.out.mono ?_;rintro e w2 ⟨rfl, hk2⟩;clear hon;rcases G9 l g r with ⟨c, r', rfl, ho, hs⟩ | ⟨ho, hs⟩
  · exact Nt
  · rw [ho] at hk2 ⊢;rw [hs] at hm;have HM := κ (HX.out n r (by rw [hm, Nat.zero_add]));have HK2 := κ hk2;clear hm hk2 hs ho;by_cases hle : least ≤ (n : Int)
    · have HE := κ (wL HK2);go_wp2_with fail;refine HE.mono ?_;rintro e w3 ⟨rfl, hk3⟩;have HB := κ hk3.bel;have HX2 := κ (show mI l g least ks = r.isEmpty by rw [HM.out]; simp [hle]);clear hk3;go_wp2_with fail;go_ret;exact ⟨by rw [HX2.out]; rfl, HB.out⟩
    · have HX2 := κ (show mI l g least ks = false by rw [HM.out]; simp [hle]);have HB := κ HK2.bel;go_wp2_with fail;go_ret;exact ⟨by rw [HX2.out]; rfl, HB.out⟩
end Go.Proofs.YtbchkldhnjahaaaGreatDoor
namespace Go.Proofs.YtbchkldhnjahaaaGreatDoor
open Go Go.ChangeShapes Go.WideShapes Go.ChangeAt Go.RowKit
theorem ER {H : Type} {enc : TypeId × Value → H} {C : Checked} {os : Os} {f : FuncId} {fn : Func} {s : ChangeSpec} {conds : List PathCond} {apart fresh handsOn again : Bool} {X : World → Array Value → Prop}
 (hX : ∀ (w w' : World) (args : Array Value), w.heap = w'.heap → X w args → X w' args)
 (own : ownKnob C.prog.godebug = none) (started : os.Started) (noInit : C.prog.inits.idxOf? f = none) (hfn : C.prog.funcs[f]? = some fn)
 (witness : ∃ (w : World) (tape : Tape) (i : Input), w.os = os ∧ (w.forCall tape i).Shaped C.prog ∧ i.vars = [] ∧ Input.okWide C.prog (w.forCall tape i) .any w.heap.size f i ∧
  ((s.pre enc C.prog fn conds apart (w.forCall tape i).memory i.args ∧ X (w.forCall tape i).memory i.args) ∧ sizedMet enc C.prog fn (OpenSpec.ofChange s) apart (w.forCall tape i).memory i.args) ∧ ({} : Assume).holds C.prog (lone (Frame.enter C.prog f i.args .normal) [] (w.forCall tape i)))
 (contract : ∀ (W : World) (base : Nat) (args : Array Value) (ds gs : List (DataW H)) (before : List MemPlace),
  (∀ (j : Nat) t v, fn.params[j]? = some t → args[j]? = some v → Value.okWide C.prog W .any base t v) →
  DataW.Whole enc C.prog fn.params.toList s.vars apart W args.toList ds gs before →
  (DataW.weightsEach C.prog (fn.params.toList ++ s.plain.varTypes C.prog) (ds ++ gs)).all (· ≤ reachBytes) = true → X W args → W.ShapedOpen C.prog →
  Calls C.prog f args W fun e W' => ∃ v, e = .returned v ∧ s.post enc C.prog fn apart fresh handsOn again W args v W') :
 ReturnsInHanded {} C os f .any (fun w args => (s.pre enc C.prog fn conds apart w args ∧ X w args) ∧ sizedMet enc C.prog fn (OpenSpec.ofChange s) apart w args) (s.post enc C.prog fn apart fresh handsOn again) :=
 returnsInHanded_of_calls own started noInit witness fun w tape i _ hsh _ hok hpre _ => by
  obtain ⟨_, _, _, fn', hfn', _, _, _, _, hval⟩ := hok;obtain rfl : fn' = fn := Option.some.inj (hfn'.symm.trans hfn);obtain ⟨⟨⟨ds, gs, before, hw, _⟩, hx⟩, hz⟩ := hpre;refine (contract _ w.heap.size i.args ds gs before hval (DataW.Whole.of_heap (w' := w.forCall tape i) (by rfl) hw) (hz.weights hw) (hX _ _ _ (by rfl) hx) hsh).mono ?_;rintro e W' ⟨v, rfl, hp⟩;exact ChangeSpec.post_blind hp
theorem Ni : ownKnob Tryz.prog.godebug = none := by kernel_rfl
def laid5 : List (String × DataW Unit) := [("math/bits.deBruijn32tab", Rows.laid_math_bits_deBruijn32tab), ("math/bits.deBruijn64tab", Rows.laid_math_bits_deBruijn64tab), ("internal/strconv.uint64pow10", Rows.laid_internal_strconv_uint64pow10), ("strconv.ErrRange", Rows.laid_strconv_ErrRange), ("strconv.ErrSyntax", Rows.laid_strconv_ErrSyntax)]
theorem Nb : Tryz.prog.globalNamed "strconv.ErrSyntax" = some 1 := by kernel_rfl
theorem Hy : (Tryz.prog.globals[1]?).map (·.type) = some 133 := by kernel_rfl
theorem KG : Tryz.prog.cellsOf 237 = 1 := by kernel_rfl
theorem Ik : Tryz.prog.cellsOf 9 = 1 := by kernel_rfl
theorem IG : "*" ++ "errors.errorString" = "*errors.errorString" := by decide
theorem MN (u : TypeId) (h : Tryz.prog.typeName? 3 u = some "*errors.errorString") : u = 235 :=
 typeName_ptr_named (nm := "errors.errorString") (by rw [IG]; kernel_rfl) (by kernel_rfl) (by decide) u (by rw [IG]; exact h)
theorem MW {W : World} (h : laidMetH Tryz.prog laid5 W) (hsh : W.ShapedOpen Tryz.prog) : Gl W := by
 rw [MakeChecks.laidMetH_plain _ _ _ (by kernel_rfl)] at h;refine ⟨?_, ?_⟩
 · exact Go.Proofs.cell_of_shapedOpen_int (zero := #[.int .i64 0]) (t := 3) hsh (of_decide_eq_true (by kernel_rfl)) (by kernel_rfl) rfl (by kernel_rfl) (by kernel_rfl) Tryz.underlying3
 · obtain ⟨a, s, hv, _, _, _⟩ := laid_sentinel h.tail.tail.tail.tail Nb Hy Tryz.underlying133 MN Tryz.underlying235 Tryz.underlying237 rfl rfl Tryz.underlying9 KG Ik;exact ⟨_, by simpa using World.var?_cell Nb hv 0, .inr ⟨_, _, rfl⟩⟩
theorem H9 (os : Os) (args : Array Value) : laidMetH Tryz.prog laid5 ((World.doorLaid Tryz.prog 100 os).forCall (fun _ _ => 0) ⟨#[], args, []⟩).memory :=
 laidMetH_of_parts3 (fuel := 8) (laidMet_of_run' 8 (by kernel_rfl) (by kernel_rfl)) (by kernel_rfl) (by kernel_rfl)
end Go.Proofs.YtbchkldhnjahaaaGreatDoor
namespace Go.Proofs.YtbchkldhnjahaaaGreatDoor
open Go Go.ChangeShapes Go.WideShapes Go.RowKit Kiln
section
variable {H : Type} {enc : TypeId × Value → H} {W : World} {sp : Nat → Bool} {held : Bool}
theorem Il : Tryz.prog.cellsOf 3 = 1 := by kernel_rfl
instance : Inhabited Nd := ⟨⟨0, [], [], [], 0, 0⟩⟩
end
theorem xK : laidOutB Tryz.prog = true := by kernel_rfl
end Go.Proofs.YtbchkldhnjahaaaGreatDoor
namespace Go.Proofs.YtbchkldhnjahaaaGreatDoor
open Go.RowKit Kiln
open Go.Proofs
open Go.ChangeMaps (setBlock)
def zK (i k : Int) : Value := .agg #[.int .i64 i, .int .i64 k]
def ED (i k : Int) : Lit := .string (keyBytes [.int .i64 i, .int .i64 k])
def yG (i : Int) : Prop := (Lit.int .i64 i).wf = true
theorem yU : Tryz.prog.cellsOf 84 = 2 := by kernel_rfl
theorem EA : (match Tryz.prog.underlying 84 with | some (.array _ _) | some (.struct _) => true | _ => false) = true := by rw [Tryz.underlying84]
theorem G3 : (84 : TypeId) < Tryz.prog.types.size := of_decide_eq_true (by kernel_rfl)
theorem JJ : Tryz.prog.keyTypeAt 2 84 = true := by kernel_rfl
theorem qy : WideMaps.KeyLaw Tryz.prog 84 := deep_law_laid xK (m := 2) (by omega) G3 JJ EA
theorem mg : Maps.Keyed Tryz.prog 84 := Maps.Keyed.of_law qy
theorem xX : Tryz.prog.keyType 84 = true := by kernel_rfl
theorem types_size : ∃ m, Tryz.prog.types.size = m + 1 := ⟨Tryz.prog.types.size - 1, by kernel_rfl⟩
theorem qA (i k : Int) (hi : yG i) (hk : yG k) : keyOf Tryz.prog 84 (zK i k) = some (ED i k) := by
 unfold yG at hi hk;obtain ⟨m, hm⟩ := types_size;unfold keyOf zK;simp only [Tryz.underlying84];rw [ψi (by simp [xX, Value.formed, Tryz.underlying84, yU]), hm];unfold Program.keyLits;simp only [Tryz.underlying84, Value.cells];rw [ψi (by rw [yU]; exact ⟨rfl, by simp⟩)];simp [List.mapM_cons, Il, Program.keyLits, Tryz.underlying3, hi, hk, ED]
theorem EC {i k i' k' : Int} (hi : yG i) (hk : yG k) (hi' : yG i') (hk' : yG k') (h : ED i k = ED i' k') : i = i' ∧ k = k' := by
 have h1 := qA i k hi hk;have h2 := qA i' k' hi' hk';rw [h] at h1;have := qy.inj h1 h2;unfold zK at this;simp at this;exact this
def PrS (w : World) (bm n : Nat) (cnt : Int → Int → Nat) : Prop := ∃ D : DataW Unit, w.ownsMap Tryz.prog 84 (plainElem Tryz.prog 3) bm n D ∧ ∀ i k, yG i → yG k → D.atKey (ED i k) (.lit (.int .i64 0)) = .lit (.int .i64 (cnt i k))
theorem qB (w : World) : (zeroValue 3).run Tryz.prog w = .ok (.int .i64 0) w := by kernel_rfl
theorem PrS.made (w : World) : PrS (w.alloc (.map #[] 0)) w.heap.size 0 (fun _ _ => 0) := ⟨_, World.ownsMap_made w _ _ _, fun _ _ _ _ => rfl⟩
theorem PrS.look {w : World} {bm n : Nat} {cnt : Int → Int → Nat} (h : PrS w bm n cnt) {i k : Int} (hi : yG i) (hk : yG k) :
 (Instr.lookup 82 (.map (some bm)) (zK i k) false).run Tryz.prog w = .ok (.int .i64 (cnt i k)) w := by
 obtain ⟨D, ho, hD⟩ := h;obtain ⟨c, hrun, hat, _⟩ := ho.lookup_int mg Tryz.underlying82 Tryz.underlying3 (qB w) (qA i k hi hk);rw [hD i k hi hk] at hat;simp only [DataW.lit.injEq, Lit.int.injEq, true_and] at hat;rw [hrun, hat]
theorem PrS.keep {w w' : World} {bm n : Nat} {cnt : Int → Int → Nat} (h : PrS w bm n cnt) (hk : w'.heap[bm]? = w.heap[bm]?) : PrS w' bm n cnt := by
 obtain ⟨D, ⟨es, clock, hb, F, hs, hD⟩, hc⟩ := h;exact ⟨D, ⟨es, clock, hk.trans hb, F, hs, hD⟩, hc⟩
theorem PrS.lt {w : World} {bm n : Nat} {cnt : Int → Int → Nat} (h : PrS w bm n cnt) : bm < w.heap.size := by
 obtain ⟨D, ho, _⟩ := h;exact ho.lt
theorem Fh {P : Program} {w : World} {t k e : TypeId} {R : Value → Option (DataW Unit × List MemPlace)} {b : Nat} {es : Array MapEntry} {clock : Nat} (K : WideMaps.KeyLaw P k) (ht : P.underlying t = some (.map k e)) {z : Value} (hz : (zeroValue e).run P w = .ok z w) (hb : w.heap[b]? = some (.map es clock)) (F : WideElems.Fit P k R es clock)
 {key : Value} {kl : Lit} (hkey : keyOf P k key = some kl) :
 (∃ st w1, (Instr.mapEntry t (.map (some b)) key).run P w = .ok (.tuple #[z, .int .i64 (st : Nat)]) w1 ∧ (Instr.mapUpdate t (.map (some b)) key z).run P w = .ok () w1 ∧ (Instr.lookup t (.map (some b)) key false).run P w = .ok z w) ∨
 (∃ v st w1, (Instr.mapEntry t (.map (some b)) key).run P w = .ok (.tuple #[v, .int .i64 (st : Nat)]) w1 ∧ w1.heap[b]? = w.heap[b]?) := by
 rcases K.find w hkey es.toList F.keys with ⟨h1, _⟩ | ⟨j, e0, h1, h2, h3⟩
 · refine .inl ⟨clock, setBlock w b (.map (es.push ⟨key, z, clock⟩) (clock + 1)), ?_, ?_, ?_⟩
   · simp [Instr.mapEntry, run_underlying ht, MapKept.run_getObj_map hb, K.check w false hkey, h1, hz, MapKept.run_setObj_map _ hb, Result.andThen, setBlock, goInt]
   · simp [Instr.mapUpdate, run_underlying ht, MapKept.run_getObj_map hb, K.check w false hkey, h1, MapKept.run_setObj_map _ hb, Result.andThen, setBlock, goInt]
   · simp [Instr.lookup, run_underlying ht, MapKept.run_getObj_map hb, K.check w es.isEmpty hkey, h1, hz, Result.andThen]
 · have hj : es[j]? = some e0 := by simpa using h2
   refine .inr ⟨e0.val, e0.born, setBlock w b (.map (es.modify j fun e => { e with key := key }) clock), ?_, ?_⟩
   · simp [Instr.mapEntry, run_underlying ht, MapKept.run_getObj_map hb, K.check w false hkey, h1, hj, h3, K.stays w hkey, MapKept.run_setObj_map _ hb, Result.andThen, setBlock, goInt]
   · have hsame : (es.modify j fun e => { e with key := key }) = es := by
      refine Array.ext_getElem? fun i => ?_;rw [Array.getElem?_modify];split
      · rename_i hji;subst hji;rw [hj];simp only [Option.map_some, ξO];rw [← h3]
      · rfl
     rw [Go.ChangeMaps.heap_setBlock_same hb, hsame, hb]
theorem mR (w : World) (b : Nat) (o o' : Obj) : setBlock (setBlock w b o) b o' = setBlock w b o' := by
 unfold setBlock;simp
theorem PrS.bump {w : World} {bm n : Nat} {cnt : Int → Int → Nat} (h : PrS w bm n cnt) (hn : n + 1 < maxLen) {i k : Int} (hi : yG i) (hk : yG k) (hc : cnt i k + 1 ≤ 9223372036854775807) :
 ∃ v0 st w1 w2, (Instr.mapEntry 82 (.map (some bm)) (zK i k)).run Tryz.prog w = .ok (.tuple #[v0, .int .i64 (st : Nat)]) w1 ∧
  (Instr.lookup 82 (.map (some bm)) (zK i k) false).run Tryz.prog w1 = .ok (.int .i64 (cnt i k)) w1 ∧
  (Instr.entryStore 82 (.map (some bm)) (.int .i64 (st : Nat)) (.int .i64 ((cnt i k : Nat) + 1))).run Tryz.prog w1 = .ok () w2 ∧
  PrS w2 bm (n + 1) (gG cnt i k) ∧ w.grownBy w2 (some bm) := by
 have hl := h.look hi hk;obtain ⟨D, ho, hD⟩ := id h;obtain ⟨es, clock, hb, F, hs, hDe⟩ := id ho;have hkey := qA i k hi hk;have hwf : (Lit.int .i64 ((cnt i k : Nat) + 1)).wf = true := WalkArith.wf_i64 (by omega);obtain ⟨v0, st, es1, clock1, e1, -, e3⟩ := WideElems.entry_then_store qy Tryz.underlying82 qB hb F hkey;obtain ⟨es', clock', e4, e5⟩ := e3 (setBlock w bm (.map es1 clock1)) (.int .i64 ((cnt i k : Nat) + 1)) (Go.ChangeMaps.heap_setBlock_same hb _);obtain ⟨w3, e6, ho3, hg3⟩ := ho.update mg Tryz.underlying82 (by omega) hkey (plainElem_int (H := Unit) Tryz.underlying3 hwf);rw [e5] at e6;simp only [Result.ok.injEq, true_and] at e6;refine ⟨v0, st, _, _, e1, ?_, e4, ?_, ?_⟩
 · rcases Fh qy Tryz.underlying82 (qB w) hb F hkey with ⟨st', w1, f1, f2, f3⟩ | ⟨v', st', w1, f1, f2⟩
   · rw [e1] at f1;simp only [Result.ok.injEq] at f1;obtain ⟨-, rfl⟩ := f1;obtain ⟨w4, e7, ho4, _⟩ := ho.update mg Tryz.underlying82 (by omega) hkey (plainElem_int (H := Unit) Tryz.underlying3 (by decide : (Lit.int .i64 0).wf = true));rw [f2] at e7;simp only [Result.ok.injEq, true_and] at e7;subst e7;rw [hl] at f3;simp only [Result.ok.injEq, Value.int.injEq, true_and, and_true] at f3;obtain ⟨c, hrun, hat, _⟩ := ho4.lookup_int mg Tryz.underlying82 Tryz.underlying3 (qB _) hkey;rw [Go.Maps.atKey_put_same ho.isMap (by trivial)] at hat;simp only [DataW.lit.injEq, Lit.int.injEq, true_and] at hat;rw [hrun, ← hat, f3]
   · rw [e1] at f1;simp only [Result.ok.injEq] at f1;obtain ⟨-, rfl⟩ := f1;exact (h.keep f2).look hi hk
 · rw [mR, e6];refine ⟨_, ho3, fun i' k' hi' hk' => ?_⟩;unfold gG;by_cases he : i' = i ∧ k' = k
   · obtain ⟨rfl, rfl⟩ := he;rw [Go.Maps.atKey_put_same ho.isMap (by trivial), ψi ⟨rfl, rfl⟩];simp
   · rw [Go.Maps.atKey_put_other (fun e => he (EC hi' hk' hi hk e)), ψh he];exact hD i' k' hi' hk'
 · rw [mR, e6]; exact hg3
def pairs (S : List (Int × Int)) : List Value := S.flatMap fun p => [.int .i64 p.1, .int .i64 p.2]
theorem jf (S : List (Int × Int)) : (pairs S).length = S.length * 2 := by
 induction S with
 | nil => rfl
 | cons p S ih => simp only [pairs, List.flatMap_cons, ξ1, ξ2, ξ5] at ih ⊢; omega
theorem nO (S T : List (Int × Int)) : pairs (S ++ T) = pairs S ++ pairs T := by simp [pairs]
def qL (B : Nat) (w : World) (v : Value) (S : List (Int × Int)) : Prop := w.ownsRow B 84 2 v S.length (pairs S)
theorem qL.lt {B : Nat} {w : World} {v : Value} {S : List (Int × Int)} (h : qL B w v S) : ∀ k, v.ownBlock = some k → B ≤ k ∧ k < w.heap.size := World.ownsRow.lt h
theorem qL.keep {B : Nat} {w w' : World} {v : Value} {S : List (Int × Int)} (h : qL B w v S) (hk : BQ w w' v) : qL B w' v S := cE h hk
theorem qL.below {B : Nat} {w w' : World} {v : Value} {S : List (Int × Int)} (h : qL B w v S) (hb : Below w.heap.size w w') : qL B w' v S := h.keep fun k e => hb.block k (h.lt k e).2
theorem qL.form {B : Nat} {w : World} {v : Value} {S : List (Int × Int)} (h : qL B w v S) : ∃ a cap, v = .slice a S.length cap := qw h
theorem qL.one {B : Nat} {w : World} (i k : Int) (hB : B ≤ w.heap.size) : qL B (w.alloc (.cells #[.int .i64 i, .int .i64 k] 84)) (.slice (some ⟨w.heap.size, 0, none⟩) 1 1) [(i, k)] :=
 ⟨by simp [pairs], .inr ⟨w.heap.size, 1, _, rfl, hB, ψe w _, ξF _, by simp [maxLen], by simp, by simp [pairs]⟩⟩
theorem qL.top {B : Nat} {w : World} {v : Value} {S : List (Int × Int)} {p : Int × Int} (h : qL B w v (S ++ [p])) : ∃ g cap, v = .slice (some ⟨g, 0, none⟩) (S.length + 1) cap ∧ S.length + 1 ≤ cap ∧ cap ≤ maxLen ∧
 w.cell? ⟨g, S.length * 2, none⟩ = some (.int .i64 p.1) ∧ w.cell? ⟨g, S.length * 2 + 1, none⟩ = some (.int .i64 p.2) ∧ qL B w (.slice (some ⟨g, 0, none⟩) S.length cap) S := by
 have hl : (S ++ [p]).length = S.length + 1 := by simp
 rcases id h.2 with ⟨_, h0⟩ | ⟨g, cap, cur, hv, hb, hg, hle, hm, hs, hx⟩
 · simp at h0
 · rw [hl] at hv hle hx;subst hv;have hc : ∀ (j : Nat) u, (pairs (S ++ [p]))[j]? = some u → w.cell? ⟨g, j, none⟩ = some u := fun j u hu => by
    have := World.ownsRow.cells h (g := g) rfl j u hu;rwa [iA] at this
   refine ⟨g, cap, rfl, hle, hm, hc _ _ ?_, hc _ _ ?_, jf S, .inr ⟨g, cap, cur, rfl, hb, hg, by omega, hm, hs, ?_⟩⟩
   · rw [nO, ξt (by rw [jf]; omega), jf]; simp [pairs]
   · rw [nO, ξt (by rw [jf]; omega), jf]; simp [pairs]
   · rw [nO] at hx;have h2 := congrArg (List.take (S.length * 2)) hx;have h3 : (pairs S ++ pairs [p]).take (S.length * 2) = pairs S := by
      rw [List.take_append_of_le_length (by rw [jf]; exact ξF _)];exact List.take_of_length_le (by rw [jf]; exact ξF _)
     rw [List.take_take, ξK (by omega), h3] at h2;exact h2
theorem JH (g n cap : Nat) (w : World) (h : n ≤ cap) : (Instr.sliceAt 85 (.slice (some ⟨g, 0, none⟩) (n + 1) cap) none (some (.int .i64 (n : Nat))) none).run Tryz.prog w = .ok (.slice (some ⟨g, 0, none⟩) n cap) w := by
 have h2 : (n : Int) ≤ cap := by omega
 simp [go_sem, Tryz.underlying85, h2]
theorem DX {w : World} {a : Option Addr} {n cap : Nat} {l : List Bytes} (h : Strs w (.slice a n cap) l) {i : Nat} {x : Bytes} (hi : l[i]? = some x) : ∃ b off, a = some ⟨b, off, none⟩ ∧ w.cell? ⟨b, off + i, none⟩ = some (str x) := by
 obtain ⟨a', cap', hv, -, hl⟩ := h;simp only [ξR] at hv;obtain ⟨rfl, -, -⟩ := hv;obtain ⟨b, off, rfl, hx⟩ := hl (by rintro rfl; simp at hi);exact ⟨b, off, rfl, hx i x hi⟩
theorem MS {α : Type} {a b : List α} {i : Nat} {x y : α} (ha : a[i]? = some x) (hb : b[i]? = some y) (h : x ≠ y) : a ≠ b := by
 rintro rfl;rw [ha] at hb;exact h (Option.some.inj hb)
theorem DV {α : Type} {a b : List α} {i : Nat} {x : α} (h : a.take i = b.take i) (ha : a[i]? = some x) (hb : b[i]? = some x) : a.take (i + 1) = b.take (i + 1) := by
 rw [qW ha, qW hb, h]
end Go.Proofs.YtbchkldhnjahaaaGreatDoor
namespace Kiln
def Iz (a b : List Nd) (R : Int → Int → Prop) (i k : Int) : Prop := ∃ x y, nodeAt a i = some x ∧ nodeAt b k = some y ∧ x.kind = y.kind ∧ x.text = y.text ∧ x.path = y.path ∧ x.kids.length = y.kids.length ∧
 ∀ (j : Nat) p q, x.kids[j]? = some p → y.kids[j]? = some q → p < i ∧ q < k ∧ R p q
theorem Iz.mono {a b : List Nd} {R R' : Int → Int → Prop} {i k : Int} (h : Iz a b R i k) (hr : ∀ p q, R p q → R' p q) : Iz a b R' i k := by
 obtain ⟨x, y, h1, h2, h3, h4, h5, h6, h7⟩ := h;exact ⟨x, y, h1, h2, h3, h4, h5, h6, fun j p q hp hq => let ⟨u, v, z⟩ := h7 j p q hp hq; ⟨u, v, hr _ _ z⟩⟩
structure SI (a b : List Nd) (i k : Int) (B : Bool) (S : List (Int × Int)) (cnt : Int → Int → Nat) : Prop where
 ok : B = true → ∀ p ∈ S, oU a b p.1 p.2
 met : ∀ i' k', cnt i' k' ≠ 0 → Iz a b (fun p q => cnt p q ≠ 0 ∨ (p, q) ∈ S) i' k'
 root : cnt i k ≠ 0 ∨ (i, k) ∈ S
 depth : ∀ (s : Nat) p, S[s]? = some p → 0 ≤ p.1 → s ≤ iE a (p.1.toNat + 1)
 len : S.length ≤ iE a 0 + 1
theorem SI.done {a b : List Nd} {i k : Int} {B : Bool} {cnt : Int → Int → Nat} (h : SI a b i k B [] cnt) : oU a b i k :=
 kF (M := fun p q => cnt p q ≠ 0) (fun p q hpq => by
  obtain ⟨x, y, h1, h2, h3, h4, h5, h6, h7⟩ := h.met p q hpq;exact ⟨x, y, h1, h2, h3, h4, h5, h6, fun j u v hu hv => let ⟨z1, z2, z3⟩ := h7 j u v hu hv; ⟨z1, z2, z3.resolve_right (by simp)⟩⟩) (i.toNat + 1) i k (by omega) (h.root.resolve_right (by simp))
end Kiln
namespace Go.Proofs.YtbchkldhnjahaaaGreatDoor
open Go.RowKit Kiln
open Go.Proofs
theorem wQ (cnt : Int → Int → Nat) (i k p q : Int) (h : cnt p q ≠ 0) : gG cnt i k p q ≠ 0 := by
 unfold gG; split
 · omega
 · exact h
theorem Dc (cnt : Int → Int → Nat) (i k : Int) : gG cnt i k i k = cnt i k + 1 := by simp [gG]
theorem sV (cnt : Int → Int → Nat) {i k p q : Int} (h : ¬ (p = i ∧ q = k)) : gG cnt i k p q = cnt p q := by unfold gG; rw [ψh h]
theorem SI.again {a b : List Nd} {i k i' k' : Int} {B : Bool} {S : List (Int × Int)} {cnt : Int → Int → Nat} (h : SI a b i k B (S ++ [(i', k')]) cnt) (hc : cnt i' k' ≠ 0) : SI a b i k B S (gG cnt i' k') := by
 have hR : ∀ p q, cnt p q ≠ 0 ∨ (p, q) ∈ S ++ [(i', k')] → gG cnt i' k' p q ≠ 0 ∨ (p, q) ∈ S := fun p q hpq => by
  rcases hpq with h1 | h1
  · exact .inl (wQ _ _ _ _ _ h1)
  · rcases ξ9.1 h1 with h1 | h1
    · exact .inr h1
    · simp only [ξC, ξP] at h1;obtain ⟨rfl, rfl⟩ := h1;exact .inl (wQ _ _ _ _ _ hc)
 refine ⟨fun hb p hp => h.ok hb p (ξ9.2 (.inl hp)), fun p q hpq => ?_, hR _ _ h.root, fun s p hs => h.depth s p ?_, ?_⟩
 · have : cnt p q ≠ 0 := by
    by_cases he : p = i' ∧ q = k'
    · obtain ⟨rfl, rfl⟩ := he; exact hc
    · rwa [sV cnt he] at hpq
   exact (h.met p q this).mono hR
 · rw [ξs (ξz.1 hs).1]; exact hs
 · have := h.len; simp at this; omega
theorem SI.push {a b : List Nd} {i k i' k' : Int} {B : Bool} {S : List (Int × Int)} {cnt : Int → Int → Nat} {x y : Nd} (h : SI a b i k B (S ++ [(i', k')]) cnt) (hx : nodeAt a i' = some x) (hy : nodeAt b k' = some y)
 (e1 : x.kind = y.kind) (e2 : x.text = y.text) (e3 : x.path = y.path) (e4 : x.kids.length = y.kids.length) (hlow : ∀ (j : Nat) p q, x.kids[j]? = some p → y.kids[j]? = some q → p < i' ∧ q < k') : SI a b i k B (S ++ x.kids.zip y.kids) (gG cnt i' k') := by
 have hi' := (fI hx).1;have hxn : a[i'.toNat]? = some x := by unfold nodeAt at hx; rw [ψi hi'] at hx; exact hx
 have hzip : ∀ (j : Nat) p q, x.kids[j]? = some p → y.kids[j]? = some q → (p, q) ∈ x.kids.zip y.kids := fun j p q hp hq => ξB (i := j) (by rw [List.getElem?_zip_eq_some]; exact ⟨hp, hq⟩);have hR : ∀ p q, cnt p q ≠ 0 ∨ (p, q) ∈ S ++ [(i', k')] → gG cnt i' k' p q ≠ 0 ∨ (p, q) ∈ S ++ x.kids.zip y.kids := fun p q hpq => by
  rcases hpq with h1 | h1
  · exact .inl (wQ _ _ _ _ _ h1)
  · rcases ξ9.1 h1 with h1 | h1
    · exact .inr (ξ9.2 (.inl h1))
    · simp only [ξC, ξP] at h1;obtain ⟨rfl, rfl⟩ := h1;exact .inl (by rw [Dc]; omega)
 have hdep : S.length ≤ iE a (i'.toNat + 1) := h.depth S.length (i', k') (by rw [ξt (ξF _)]; simp) hi';have hsum := pK hxn;refine ⟨fun hb p hp => ?_, fun p q hpq => ?_, hR _ _ h.root, fun s p hs hp0 => ?_, ?_⟩
 · rcases ξ9.1 hp with hp | hp
   · exact h.ok hb p (ξ9.2 (.inl hp))
   · obtain ⟨x', y', hx', hy', -, -, -, -, hk⟩ := (h.ok hb (i', k') (ξ9.2 (.inr (by simp)))).head;rw [hx] at hx'; rw [hy] at hy';simp only [ξO] at hx' hy';subst hx'; subst hy';obtain ⟨j, hj⟩ := List.mem_iff_getElem?.1 hp;rw [show p = (p.1, p.2) from rfl, List.getElem?_zip_eq_some] at hj;exact (hk j p.1 p.2 hj.1 hj.2).2.2
 · by_cases he : p = i' ∧ q = k'
   · obtain ⟨rfl, rfl⟩ := he;exact ⟨x, y, hx, hy, e1, e2, e3, e4, fun j u v hu hv => ⟨(hlow j u v hu hv).1, (hlow j u v hu hv).2, .inr (ξ9.2 (.inr (hzip j u v hu hv)))⟩⟩
   · rw [sV cnt he] at hpq;exact (h.met p q hpq).mono hR
 · by_cases hsl : s < S.length
   · rw [ξs hsl] at hs;exact h.depth s p (by rw [ξs hsl]; exact hs) hp0
   · rw [ξt (by omega)] at hs;have hsz := (ξz.1 hs).1;rw [List.length_zip] at hsz;rw [show p = (p.1, p.2) from rfl, List.getElem?_zip_eq_some] at hs;have h1 := (hlow _ p.1 p.2 hs.1 hs.2).1;have h2 := pO a (i := p.1.toNat + 1) (j := i'.toNat) (by omega);omega
 · have h2 := pO a (i := 0) (j := i'.toNat) (by omega);rw [ξ1, List.length_zip];omega
theorem Hr : (Tryz.prog.info? 84).map (fun i => (i.zero, i.size, i.bytes)) = some (some (.agg #[.int .i64 0, .int .i64 0]), 2, 16) := by kernel_rfl
theorem G6 (p q : Int) : ∀ u ∈ [Value.int .i64 p, .int .i64 q], u.oneCell' = true := by
 intro u hu;simp only [List.mem_cons, List.not_mem_nil, or_false] at hu;rcases hu with rfl | rfl <;> rfl
theorem Bm {n : Nat} (h : n ≤ 9223372036854775807) : yG (n : Int) := by unfold yG; exact WalkArith.wf_i64 (by omega)
theorem Nn {p : Prop} (h : p := by
 have HF : RowKit.Hid (B = false) := by
  show _ = _;cases hBv : B with
  | false => rfl
  | true => obtain ⟨x, y, hx, hy, _⟩ := (HSI.ok hBv (pi, pk) (by simp)).head; have := fI hx; have := fI hy; omega
 go_wp2_with fail;go_ret;exact ⟨by rw [HF.out]; rfl, bQ HBL.out _⟩
 ) : p := h
theorem GH (w : World) (av bv : Value) (a b : List Nd) (i k : Int) (B : Bool) (hB : B = true ↔ oU a b i k) (ha : NdT w av a) (hb : NdT w bv b) (hla : a.length ≤ 262144) (hlb : b.length ≤ 262144) (hka : ∀ x ∈ a, x.kids.length ≤ 262154) (hpa : ∀ x ∈ a, x.path.length ≤ 1099511627776) :
 Calls Tryz.prog 17 #[av, .int .i64 i, bv, .int .i64 k] w fun e w' => e = .returned (.bool B) ∧ Below w.heap.size w w' := by
 have HA := κ ha;have HB := κ hb;have HBB := κ hB;have HPA := κ hpa;obtain ⟨aa, acap, rfl, -⟩ := ha;obtain ⟨ba, bcap, rfl, -⟩ := hb;have hmk : (Instr.makeMap 82 none).run Tryz.prog w = .ok (.map (some w.heap.size)) (w.alloc (.map #[] 0)) := rfl;obtain ⟨KS, hKS⟩ : ∃ KS, iE a 0 = KS := ⟨_, rfl⟩;obtain ⟨G0, hG0⟩ : ∃ G0, a.length * b.length * (262154 + 1) + 3 = G0 := ⟨_, rfl⟩;have hG1 : G0 ≤ 2305843009213693952 := by
  rw [← hG0];have h1 : a.length * b.length ≤ 68719476736 := ξG (Nat.mul_le_mul hla hlb) (by decide);generalize a.length * b.length = X at h1 ⊢;omega
 have HP0 := κ ((PrS.made w).keep (w' := (w.alloc (.map #[] 0)).alloc (.cells #[.int .i64 i, .int .i64 k] 84)) (ξe _ _ _ (by simp)));have HS0 := κ (qL.one (B := w.heap.size + 1) (w := w.alloc (.map #[] 0)) i k (by simp));have HB0 := κ (bQ (bQ (ξf _ w) (.map #[] 0)) (.cells #[.int .i64 i, .int .i64 k] 84));have hun := Gm hka b.length (fun _ _ => 0);have hksum : KS ≤ 68722098176 := by
  rw [← hKS];have h1 := CK hka;omega
 have HKA := κ hka;have HKM := κ hksum;have HI0 : RowKit.Hid (SI a b i k B [(i, k)] (fun _ _ => 0)) := ⟨fun h p hp => by
  simp only [ξC] at hp; subst hp; exact HBB.out.1 h, fun _ _ h => absurd rfl h, .inr (by simp), fun s p hs _ => by
  cases s with
  | zero => exact ξM _
  | succ s => simp at hs, by simp⟩
 have HST : RowKit.Hid (qb a b.length (fun _ _ => 0) + 1 + 1 ≤ G0) := by
  show qb a b.length (fun _ _ => 0) + 1 + 1 ≤ G0;omega
 have HKS := κ hKS;clear hB hpa hun hksum hG0 hKS hka;go_enter Tryz.func17, Tryz.ntmps17;go_wp2_with fail;clear hmk;go_loopg [10] (G0) (fun g v wr => ∃ (S : List (Int × Int)) (cnt : Int → Int → Nat) (n : Nat) (wx : World), wx = wr ∧ qL (w.heap.size + 1) wr v S ∧ PrS wr w.heap.size n cnt ∧ Below w.heap.size w wr ∧ w.heap.size + 1 ≤ wr.heap.size ∧ SI a b i k B S cnt ∧ qb a b.length cnt + S.length + 1 ≤ g ∧ n + g ≤ G0 ∧ ∀ p q, cnt p q + g ≤ G0)
 case atStart => exact ⟨_, _, 0, _, rfl, by simpa using HS0.out, HP0.out, HB0.out, by simp, HI0.out, by have := HST.out; simpa using this, by omega, by intros; simp⟩
 case round =>
  obtain ⟨S, cnt, n, wx1, rfl, hs, hp, hb, hsz1, hi, hg, hng, hcg⟩ := hrel;have HPR := κ hp;have HBL := κ hb;have HSI := κ hi;have HCG := κ hcg;by_cases hS : S = []
  · subst hS;obtain ⟨sa, scap, rfl⟩ := hs.form;have HBT : RowKit.Hid (B = true) := HBB.out.2 hi.done;clear hs hp hb hi hcg;go_wp2_with fail;go_ret;exact ⟨by rw [HBT.out]; rfl, HBL.out⟩
  · obtain ⟨S', p, rfl⟩ : ∃ S' p, S = S' ++ [p] := ⟨S.dropLast, S.getLast hS, (List.dropLast_concat_getLast hS).symm⟩;obtain ⟨pi, pk⟩ := p;obtain ⟨fu, rfl⟩ : ∃ fu, gk = fu + 1 := ⟨gk - 1, by omega⟩;have hSl := hi.len;rw [HKS.out] at hSl;simp only [ξ1, ξ2, ξ5] at hSl hg;obtain ⟨sg, scap, rfl, hsc, hsm, c0, c1, hcut⟩ := hs.top;have HSC := κ hcut;have HS1 := κ (qL.lt hcut);have hpop := fun w => JH sg S'.length scap w (by omega);unfold maxLen at hsm;have hix : (S'.length : Int) < (S'.length : Int) + 1 := by omega
    have HG := κ hg;clear hs hp hb hi hcg hS hcut hg;by_cases h1 : pi < 0
    · exact Nn
    by_cases h2 : (a.length : Int) ≤ pi
    · exact Nn
    by_cases h3 : pk < 0
    · exact Nn
    by_cases h4 : (b.length : Int) ≤ pk
    · exact Nn
    obtain ⟨iN, rfl⟩ : ∃ iN : Nat, pi = iN := ⟨pi.toNat, by omega⟩;obtain ⟨kN, rfl⟩ : ∃ kN : Nat, pk = kN := ⟨pk.toNat, by omega⟩;obtain ⟨wA, hwA⟩ : ∃ wA, wx1.alloc (.cells #[.int .i64 (iN : Nat), .int .i64 (kN : Nat)] 84) = wA := ⟨_, rfl⟩;have hA1 : wA.heap[wx1.heap.size]? = some (.cells #[.int .i64 (iN : Nat), .int .i64 (kN : Nat)] 84 (0, 0)) := by rw [← hwA]; exact ψe _ _
    have cA0 : wA.cell? ⟨wx1.heap.size, 0, none⟩ = some (.int .i64 (iN : Nat)) := bO hA1 0 _ rfl;have cA1 : wA.cell? ⟨wx1.heap.size, 1, none⟩ = some (.int .i64 (kN : Nat)) := bO hA1 1 _ rfl;have hPA : PrS wA w.heap.size n cnt := by rw [← hwA]; exact HPR.keep (ξe _ _ _ HPR.lt)
    have hSA : qL (w.heap.size + 1) wA (.slice (some ⟨sg, 0, none⟩) S'.length scap) S' := by rw [← hwA]; exact HSC.below (bQ (ξf _ _) _)
    have hBA : Below w.heap.size w wA := by rw [← hwA]; exact bQ HBL.out _
    have wfi : yG (iN : Int) := Bm (by omega);have wfk : yG (kN : Int) := Bm (by omega);obtain ⟨cc, hcc⟩ : ∃ cc, cnt iN kN = cc := ⟨_, rfl⟩;have hcb := HCG.out iN kN;have hPD : PrS wA.drew w.heap.size n cnt := hPA.keep rfl;have hlk := hPD.look wfi wfk;obtain ⟨v0, st, w1, w2, e1, e2, e3, hP2, hg2⟩ := hPD.bump (by unfold maxLen; omega) wfi wfk (by omega);rw [hcc] at hlk e2 e3 hcb;have hl2 := hP2.look wfi wfk;have hl3 := (hP2.keep (w' := w2.drew) rfl).look wfi wfk;have hbc : gG cnt iN kN iN kN = cc + 1 := by simp [gG, hcc]
    rw [hbc] at hl2 hl3;unfold zK at hlk e1 e2 hl2 hl3;have ew : IntKind.i64.wrap ((cc : Int) + 1) = (cc : Int) + 1 := IntWalk.i64_in _ (by omega);have HP2 := κ hP2;have HG2 := κ hg2;have HBA := κ hBA;have HSA := κ hSA;have HCC := κ hcc;clear hP2 hg2 hBA hSA hPA hPD hcc hbc hcb;go_wp2_with fail;go_region;clear hlk e1 e2 e3;have hN1 : wx1.heap.size < wA.heap.size := (ξd.1 hA1).1;have h2k : ∀ q, q < wA.heap.size → q ≠ w.heap.size → w2.heap[q]? = wA.heap[q]? := fun q hq hne => HG2.block q hq (fun e => hne (Option.some.inj e));have hA2 : w2.heap[wx1.heap.size]? = some (.cells #[.int .i64 (iN : Nat), .int .i64 (kN : Nat)] 84 (0, 0)) := (h2k _ hN1 (by omega)).trans hA1;have HS2 := κ (HSA.keep (w' := w2) fun q e => h2k q (HSA.lt q e).2 (by have := (HSA.lt q e).1; omega));have HB2 := κ ((jZ HBA).grown HG2 HBA.size (fun q e => by cases e; exact ξF _));have hz2 : wA.heap.size ≤ w2.heap.size := HG2.size;have HA2 := κ hA2;clear hA2 hA1 cA0 cA1 h2k HG2 HSA HBA;have n0 : w2.cell? ⟨wx1.heap.size, 0, none⟩ = some (.int .i64 (iN : Nat)) := bO HA2 0 _ rfl;have n1 : w2.cell? ⟨wx1.heap.size, 1, none⟩ = some (.int .i64 (kN : Nat)) := bO HA2 1 _ rfl;by_cases hc0 : cc = 0
    · subst hc0;obtain ⟨x, hx⟩ : ∃ x, a[iN]? = some x := ⟨_, ξw (by omega)⟩;obtain ⟨y, hy⟩ : ∃ y, b[kN]? = some y := ⟨_, ξw (by omega)⟩;have hxl : (iN : Int) < (a.length : Int) := by omega
      have hyl : (kN : Int) < (b.length : Int) := by omega
      obtain ⟨xb, xo, xc, xpv, xkv, hxv, hxp, hxk, hxc⟩ := HA.one hx;obtain ⟨yb, yo, yc, ypv, ykv, hyv, hyp, hyk, hyc⟩ := HB.one hy;simp only [ξR] at hxv hyv;obtain ⟨rfl, -, rfl⟩ := hxv;obtain ⟨rfl, -, rfl⟩ := hyv;obtain ⟨xpa, xpc, rfl, -⟩ := id hxp;obtain ⟨ypa, ypc, rfl, -⟩ := id hyp;obtain ⟨xka, xkc, rfl, -⟩ := id hxk;obtain ⟨yka, ykc, rfl, -⟩ := id hyk;have x0 : w2.cell? ⟨xb, xo + iN * 6, none⟩ = some (.int .i64 x.kind) := cell_later HB2 (hxc 0 _ rfl _ rfl);have x1 : w2.cell? ⟨xb, xo + iN * 6 + 1, none⟩ = some (str x.text) := cell_later HB2 (hxc 1 _ rfl _ rfl);have x2 : w2.cell? ⟨xb, xo + iN * 6 + 2, none⟩ = some (.slice xpa x.path.length xpc) := cell_later HB2 (hxc 2 _ rfl _ rfl);have x3 : w2.cell? ⟨xb, xo + iN * 6 + 3, none⟩ = some (.slice xka x.kids.length xkc) := cell_later HB2 (hxc 3 _ rfl _ rfl);have x4 : w2.cell? ⟨xb, xo + iN * 6 + 4, none⟩ = some (.int .i64 x.line) := cell_later HB2 (hxc 4 _ rfl _ rfl);have x5 : w2.cell? ⟨xb, xo + iN * 6 + 5, none⟩ = some (.int .i64 x.col) := cell_later HB2 (hxc 5 _ rfl _ rfl);have y0 : w2.cell? ⟨yb, yo + kN * 6, none⟩ = some (.int .i64 y.kind) := cell_later HB2 (hyc 0 _ rfl _ rfl);have y1 : w2.cell? ⟨yb, yo + kN * 6 + 1, none⟩ = some (str y.text) := cell_later HB2 (hyc 1 _ rfl _ rfl);have y2 : w2.cell? ⟨yb, yo + kN * 6 + 2, none⟩ = some (.slice ypa y.path.length ypc) := cell_later HB2 (hyc 2 _ rfl _ rfl);have y3 : w2.cell? ⟨yb, yo + kN * 6 + 3, none⟩ = some (.slice yka y.kids.length ykc) := cell_later HB2 (hyc 3 _ rfl _ rfl);have y4 : w2.cell? ⟨yb, yo + kN * 6 + 4, none⟩ = some (.int .i64 y.line) := cell_later HB2 (hyc 4 _ rfl _ rfl);have y5 : w2.cell? ⟨yb, yo + kN * 6 + 5, none⟩ = some (.int .i64 y.col) := cell_later HB2 (hyc 5 _ rfl _ rfl);have HX := κ hx;have HY := κ hy;have HXP := κ hxp;have HYP := κ hyp;have HXK := κ hxk;have HYK := κ hyk;clear hx hy hxp hyp hxk hyk hxc hyc ew;have x0a := ay x0;have x0b := fun o => ay (x0a o);have x1a := ay x1;have x1b := fun o => ay (x1a o);have x2a := ay x2;have x2b := fun o => ay (x2a o);have x3a := ay x3;have x3b := fun o => ay (x3a o);have x4a := ay x4;have x4b := fun o => ay (x4a o);have x5a := ay x5;have x5b := fun o => ay (x5a o);have y0a := ay y0;have y0b := fun o => ay (y0a o);have y1a := ay y1;have y1b := fun o => ay (y1a o);have y2a := ay y2;have y2b := fun o => ay (y2a o);have y3a := ay y3;have y3b := fun o => ay (y3a o);have y4a := ay y4;have y4b := fun o => ay (y4a o);have y5a := ay y5;have y5b := fun o => ay (y5a o);have n0a := ay n0;have n0b := fun o => ay (n0a o);have n1a := ay n1;have n1b := fun o => ay (n1a o);go_upto_region 10 with fail;go_cut [12, 13] (fun u v wc => ∃ xn yn, u = .pointer (some ⟨xn, 0, none⟩) ∧ v = .pointer (some ⟨yn, 0, none⟩) ∧ w2.heap.size ≤ xn ∧ w2.heap.size ≤ yn ∧ Below w2.heap.size w2 wc ∧
       wc.heap[xn]? = some (.cells #[.int .i64 x.kind, str x.text, .slice xpa x.path.length xpc, .slice xka x.kids.length xkc, .int .i64 x.line, .int .i64 x.col] 41 (0, 0)) ∧
       wc.heap[yn]? = some (.cells #[.int .i64 y.kind, str y.text, .slice ypa y.path.length ypc, .slice yka y.kids.length ykc, .int .i64 y.line, .int .i64 y.col] 41 (0, 0)))
      case first =>
       go_region
       · go_wp2_with fail;go_meet
         exact ⟨_, _, rfl, rfl, ξF _, Nat.le_succ _, jZ (bQ (bQ (ξf _ _) _) _), (ξe _ _ _ (by simp)).trans (ψe _ _), su _ _ _⟩
       · go_wp2_with fail;go_meet
         exact ⟨_, _, rfl, rfl, Nat.le_succ _, ξF _, jZ (bQ (bQ (ξf _ _) _) _), su _ _ _, (ξe _ _ _ (by simp)).trans (ψe _ _)⟩
      case rest =>
       obtain ⟨xn, yn, rfl, rfl, hxn, hyn, hbc, hcx, hcy⟩ := hcut;have HBW := κ (HB2.trans (hbc.mono HB2.size));have HPW := κ (HP2.keep (w' := wc) (hbc.block _ HP2.lt));have HSW := κ (HS2.below hbc);have hcn : wc.heap[wx1.heap.size]? = some (.cells #[.int .i64 (iN : Nat), .int .i64 (kN : Nat)] 84 (0, 0)) := (hbc.block _ (ξd.1 HA2).1).trans HA2;have hN1 : wx1.heap.size < w2.heap.size := (ξd.1 HA2).1;have HCX := κ hcx;have HCY := κ hcy;have HCN := κ hcn;have hzc : w2.heap.size ≤ wc.heap.size := hbc.size;clear hbc hcx hcy hcn HB2 HP2 HS2 n0 n1 x0a x0b x1a x1b x2a x2b x3a x3b x4a x4b x5a x5b y0a y0b y1a y1b y2a y2b y3a y3b y4a y4b y5a y5b n0a n0b n1a n1b x0 x1 x2 x3 x4 x5 y0 y1 y2 y3 y4 y5;have kx0 := bO HCX 0 _ rfl;have kx1 := bO HCX 1 _ rfl;have kx2 := bO HCX 2 _ rfl;have kx3 := bO HCX 3 _ rfl;have ky0 := bO HCY 0 _ rfl;have ky1 := bO HCY 1 _ rfl;have ky2 := bO HCY 2 _ rfl;have ky3 := bO HCY 3 _ rfl;by_cases hk1 : x.kind = y.kind
       rotate_left
       · have q1 : (x.kind != y.kind) = true := by rw [ψa]; exact hk1
         have HF : RowKit.Hid (B = false) := by
          show _ = _;cases hBv : B with
          | false => rfl
          | true =>
           obtain ⟨x', y', hx', hy', e1, e2, e3, e4, e5⟩ := (HSI.ok hBv ((iN : Int), (kN : Int)) (by simp)).head;rw [bN, HX.out] at hx';rw [bN, HY.out] at hy';simp only [ξO] at hx' hy';subst hx'; subst hy';exact absurd e1 hk1
         clear hk1;go_wp2_with fail;go_ret;exact ⟨by rw [HF.out]; rfl, HBW.out⟩
       by_cases hk2 : x.text = y.text
       rotate_left
       · have q1 : (x.kind != y.kind) = false := by rw [hk1]; simp
         have q2 : (x.text == y.text) = false := by rw [ξY]; exact hk2
         have HF : RowKit.Hid (B = false) := by
          show _ = _;cases hBv : B with
          | false => rfl
          | true =>
           obtain ⟨x', y', hx', hy', e1, e2, e3, e4, e5⟩ := (HSI.ok hBv ((iN : Int), (kN : Int)) (by simp)).head;rw [bN, HX.out] at hx';rw [bN, HY.out] at hy';simp only [ξO] at hx' hy';subst hx'; subst hy';exact absurd e2 hk2
         clear hk1 hk2;go_wp2_with fail;go_ret;exact ⟨by rw [HF.out]; rfl, HBW.out⟩
       by_cases hk3 : x.path.length = y.path.length
       rotate_left
       · have q1 : (x.kind != y.kind) = false := by rw [hk1]; simp
         have q2 : (x.text == y.text) = true := by rw [hk2]; simp
         have q3 : ((x.path.length : Int) != (y.path.length : Int)) = true := by rw [ψa]; omega
         have HF : RowKit.Hid (B = false) := by
          show _ = _;cases hBv : B with
          | false => rfl
          | true =>
           obtain ⟨x', y', hx', hy', e1, e2, e3, e4, e5⟩ := (HSI.ok hBv ((iN : Int), (kN : Int)) (by simp)).head;rw [bN, HX.out] at hx';rw [bN, HY.out] at hy';simp only [ξO] at hx' hy';subst hx'; subst hy';exact absurd (congrArg List.length e3) hk3
         clear hk1 hk2 hk3;go_wp2_with fail;go_ret;exact ⟨by rw [HF.out]; rfl, HBW.out⟩
       by_cases hk4 : x.kids.length = y.kids.length
       rotate_left
       · have q1 : (x.kind != y.kind) = false := by rw [hk1]; simp
         have q2 : (x.text == y.text) = true := by rw [hk2]; simp
         have q3 : ((x.path.length : Int) != (y.path.length : Int)) = false := by rw [hk3]; simp
         have q4 : ((x.kids.length : Int) != (y.kids.length : Int)) = true := by rw [ψa]; omega
         have HF : RowKit.Hid (B = false) := by
          show _ = _;cases hBv : B with
          | false => rfl
          | true =>
           obtain ⟨x', y', hx', hy', e1, e2, e3, e4, e5⟩ := (HSI.ok hBv ((iN : Int), (kN : Int)) (by simp)).head;rw [bN, HX.out] at hx';rw [bN, HY.out] at hy';simp only [ξO] at hx' hy';subst hx'; subst hy';exact absurd e4 hk4
         clear hk1 hk2 hk3 hk4;go_wp2_with fail;go_ret;exact ⟨by rw [HF.out]; rfl, HBW.out⟩
       have q1 : (x.kind != y.kind) = false := by rw [hk1]; simp
       have q2 : (x.text == y.text) = true := by rw [hk2]; simp
       have q3 : ((x.path.length : Int) != (y.path.length : Int)) = false := by rw [hk3]; simp
       have q4 : ((x.kids.length : Int) != (y.kids.length : Int)) = false := by rw [hk4]; simp
       have HK1 := κ hk1;have HK2 := κ hk2;have HK3 := κ hk3;have HK4 := κ hk4;have hpl := HPA.out x (ξB HX);have hkl := HKA.out x (ξB HX);clear hk1 hk2 hk3 hk4;go_wp2_with fail;clear kx0 kx1 kx2 kx3 ky0 ky1 ky2 ky3 q1 q2 q3 q4;go_loopg [110] (x.path.length + 1) (fun g v wr => ∃ (t : Nat) (wx : World), wx = wr ∧ v = .int .i64 (t : Nat) ∧ t + g = x.path.length + 1 ∧ t ≤ x.path.length ∧ x.path.take t = y.path.take t ∧ Below wc.heap.size wc wr)
       case atStart => exact ⟨0, _, rfl, rfl, by omega, ξM _, by simp, ξf _ _⟩
       case round =>
        obtain ⟨t, wv, rfl, rfl, hg, ht, hab, hbv⟩ := hrel;have HAB := κ hab;have HBV := κ hbv;have HWV := κ (HBW.trans (hbv.mono HBW.size));have lx2 := bO (ni HCX hbv) 2 _ rfl;have ly2 := bO (ni HCY hbv) 2 _ rfl;clear hab hbv;by_cases hlt : t < x.path.length
        · obtain ⟨u, hu⟩ : ∃ u, x.path[t]? = some u := ⟨_, ξw hlt⟩;obtain ⟨v, hv⟩ : ∃ v, y.path[t]? = some v := ⟨_, ξw (by have := HK3.out; omega)⟩;obtain ⟨fv, rfl⟩ : ∃ fv, gk = fv + 1 := ⟨gk - 1, by omega⟩;obtain ⟨ub, uo, rfl, hc1⟩ := DX HXP hu;obtain ⟨vb, vo, rfl, hc2⟩ := DX HYP hv;have f1 : wv.cell? ⟨ub, uo + t, none⟩ = some (str u) := cell_later HWV hc1;have f2 : wv.cell? ⟨vb, vo + t, none⟩ = some (str v) := cell_later HWV hc2;have hti : (t : Int) < (x.path.length : Int) := by omega
          have hti2 : (t : Int) < (y.path.length : Int) := by have := HK3.out; omega
          have HU := κ hu;have HV := κ hv;clear hc1 hc2 hu hv;by_cases huv : u = v
          · subst huv;go_wp2_with fail;go_quiet (fail);go_wp2_with fail;go_roundg fv
            case measure => omega
            case rel => exact ⟨t + 1, _, rfl, rfl, by omega, by omega, DV HAB HU HV, ⟨HBV.os, HBV.tape, HBV.output, HBV.size, HBV.block⟩⟩
          · have q1 : (u == v) = false := by rw [ξY]; exact huv
            have HF : RowKit.Hid (B = false) := by
             show _ = _;cases hBv : B with
             | false => rfl
             | true =>
              obtain ⟨x', y', hx', hy', e1, e2, e3, e4, e5⟩ := (HSI.ok hBv ((iN : Int), (kN : Int)) (by simp)).head;rw [bN, HX.out] at hx';rw [bN, HY.out] at hy';simp only [ξO] at hx' hy';subst hx'; subst hy';exact absurd e3 (MS HU HV huv)
            go_wp2_with fail;go_quiet (fail);go_wp2_with fail;go_ret;exact ⟨by rw [HF.out]; rfl, ⟨HWV.os, HWV.tape, HWV.output, HWV.size, HWV.block⟩⟩
        · obtain rfl : t = x.path.length := by omega
          have HPE : RowKit.Hid (x.path = y.path) := by
           show _ = _;have h1 := HAB.out;rw [List.take_length, HK3.out, List.take_length] at h1;exact h1
          have HPV := κ (HPW.keep (w' := wv) (HBV.block _ HPW.lt));have HSV := κ (HSW.below HBV);have HXV := κ (ni HCX HBV);have HYV := κ (ni HCY HBV);have HNV := κ (ni HCN HBV);have hzv : wc.heap.size ≤ wv.heap.size := HBV.size;have lx3 := bO HXV 3 _ rfl;clear HBV HAB hg ht hlt lx2 ly2;go_wp2_with fail;clear lx3;obtain ⟨Z, hZ⟩ : ∃ Z, x.kids.zip y.kids = Z := ⟨_, rfl⟩;have hZl : Z.length = x.kids.length := by rw [← hZ, List.length_zip]; have := HK4.out; omega
          have HZ := κ hZ;clear hZ;obtain ⟨i0, hi0, hi1, hi2, hi3⟩ := info_parts Hr;have HJ := κ (ξc hi0 (ξc hi1 (ξc hi2 hi3)));clear hi0 hi1 hi2 hi3;have HBD := κ (ξc HPV.lt (ξc (ξd.1 HNV).1 (ξc (ξd.1 HXV).1 (ξd.1 HYV).1)));go_loopg [10, 128] (x.kids.length + 1) (fun g u v wr => ∃ (t : Nat) (wx : World), wx = wr ∧ v = .int .i64 (t : Nat) ∧ t + g = x.kids.length + 1 ∧ t ≤ x.kids.length ∧ (∀ (j : Nat) p q, j < t → x.kids[j]? = some p → y.kids[j]? = some q → p < (iN : Int) ∧ q < (kN : Int)) ∧
           qL (w.heap.size + 1) wr u (S' ++ Z.take t) ∧ (∀ q, u.ownBlock = some q → q ≠ wx1.heap.size ∧ q ≠ xn ∧ q ≠ yn) ∧ Below w.heap.size w wr ∧ (∀ q, q < wv.heap.size → (q = w.heap.size ∨ q = wx1.heap.size ∨ q = xn ∨ q = yn) → wr.heap[q]? = wv.heap[q]?) ∧ wv.heap.size ≤ wr.heap.size)
          case atStart => exact ⟨0, _, rfl, rfl, by omega, ξM _, fun j p q hj => absurd hj (by omega), by simpa using HSV.out, fun q hq => by
           have hq2 : sg = q := by simpa [Value.ownBlock] using hq
           have h1 := (HS1 q hq).2;omega, HWV, fun _ _ _ => rfl, ξF _⟩
          case round =>
           obtain ⟨t, wz, rfl, rfl, hg, ht, hlow, hst, hap, hbz, hkz, hszz⟩ := hrel;have HLOW := κ hlow;have HSZ := κ hst;have HAP := κ hap;have HBZ := κ hbz;have HKZ := κ hkz;have hXZ := (hkz xn HBD.out.2.2.1 (.inr (.inr (.inl rfl)))).trans HXV;have hYZ := (hkz yn HBD.out.2.2.2 (.inr (.inr (.inr rfl)))).trans HYV;have hNZ := (hkz wx1.heap.size HBD.out.2.1 (.inr (.inl rfl))).trans HNV;have lx3 := bO hXZ 3 _ rfl;have ly3 := bO hYZ 3 _ rfl;have ln0 := bO hNZ 0 _ rfl;have ln1 := bO hNZ 1 _ rfl;have hlen : (S' ++ Z.take t).length = S'.length + t := by rw [ξ1, ξ7]; omega
           obtain ⟨ua, ucap, hu0⟩ := hst.form;rw [hlen] at hu0;subst hu0;have HLEN := κ hlen;clear hlen hlow hap hbz hkz hXZ hYZ hNZ hst;by_cases hlt : t < x.kids.length
           · obtain ⟨kp, hu⟩ : ∃ u, x.kids[t]? = some u := ⟨_, ξw hlt⟩;obtain ⟨kq, hv⟩ : ∃ v, y.kids[t]? = some v := ⟨_, ξw (by have := HK4.out; omega)⟩;obtain ⟨fv, rfl⟩ : ∃ fv, gk = fv + 1 := ⟨gk - 1, by omega⟩;obtain ⟨ub, uo, rfl, hc1⟩ := ints_at HXK hu;obtain ⟨vb, vo, rfl, hc2⟩ := ints_at HYK hv;have f1 : wz.cell? ⟨ub, uo + t, none⟩ = some (.int .i64 kp) := cell_later HBZ hc1;have f2 : wz.cell? ⟨vb, vo + t, none⟩ = some (.int .i64 kq) := cell_later HBZ hc2;have hti : (t : Int) < (x.kids.length : Int) := by omega
             have hti2 : (t : Int) < (y.kids.length : Int) := by have := HK4.out; omega
             have HU := κ hu;have HV := κ hv;clear hc1 hc2 hu hv;by_cases hp1 : (iN : Int) ≤ kp
             · have hd1 : decide ((iN : Int) ≤ kp) = true := by simpa using hp1
               have HF : RowKit.Hid (B = false) := by
                show _ = _;cases hBv : B with
                | false => rfl
                | true =>
                 obtain ⟨x', y', hx', hy', e1, e2, e3, e4, e5⟩ := (HSI.ok hBv ((iN : Int), (kN : Int)) (by simp)).head;rw [bN, HX.out] at hx';rw [bN, HY.out] at hy';simp only [ξO] at hx' hy';subst hx'; subst hy';have := (e5 t kp kq HU HV).1; omega
               go_wp2_with fail;go_quiet (fail);go_wp2_with fail;go_ret;exact ⟨by rw [HF.out]; rfl, ⟨HBZ.os, HBZ.tape, HBZ.output, HBZ.size, HBZ.block⟩⟩
             by_cases hq1 : (kN : Int) ≤ kq
             · have hd1 : decide ((iN : Int) ≤ kp) = false := by simpa using hp1
               have HF : RowKit.Hid (B = false) := by
                show _ = _;cases hBv : B with
                | false => rfl
                | true =>
                 obtain ⟨x', y', hx', hy', e1, e2, e3, e4, e5⟩ := (HSI.ok hBv ((iN : Int), (kN : Int)) (by simp)).head;rw [bN, HX.out] at hx';rw [bN, HY.out] at hy';simp only [ξO] at hx' hy';subst hx'; subst hy';have := (e5 t kp kq HU HV).2.1; omega
               go_wp2_with fail;go_quiet (fail);go_wp2_with fail;go_ret;exact ⟨by rw [HF.out]; rfl, ⟨HBZ.os, HBZ.tape, HBZ.output, HBZ.size, HBZ.block⟩⟩
             have hd1 : decide ((iN : Int) ≤ kp) = false := by simpa using hp1
             have hzt : Z[t]? = some (kp, kq) := by rw [← HZ.out, List.getElem?_zip_eq_some]; exact ⟨HU.out, HV.out⟩
             have hall : (S' ++ Z.take (t + 1)) = (S' ++ Z.take t) ++ [(kp, kq)] := by rw [qW hzt, ξo]
             have HALL := κ hall;clear hzt hall;go_wp2_with fail;go_quiet (fail);go_wp2_with fail;obtain ⟨wq, hwq⟩ : ∃ wq, wz.drewN nq = wq := ⟨_, rfl⟩;have HDR : RowKit.Hid (wq.heap = wz.heap ∧ Below w.heap.size w wq) := by
              show wq.heap = wz.heap ∧ Below w.heap.size w wq;rw [← hwq]; exact ⟨rfl, iK HBZ.out _⟩
             have cq : ∀ ad, wq.cell? ad = wz.cell? ad := fun ad => by rw [← hwq]; rfl
             have f1' := (cq _).trans f1;have f2' := (cq _).trans f2;have lx3' := (cq _).trans lx3;have ly3' := (cq _).trans ly3;have f1a := ay f1';have f2a := ay f2';have lx3a := ay lx3';have ly3a := ay ly3';have HSQ : RowKit.Hid (∀ o, (wq.alloc o).ownsRow (w.heap.size + 1) 84 2 (.slice ua (S'.length + t) ucap) (S'.length + t) (pairs (S' ++ Z.take t))) := fun o => by
              have := (HSZ.keep (w' := wq) (fun q _ => by rw [HDR.out.1])).below (bQ (ξf _ wq) o);unfold qL at this;rw [HLEN.out] at this;exact this
             have hqs : w.heap.size + 1 ≤ wq.heap.size := by rw [HDR.out.1]; have := HBD.out.1; omega
             rw [hwq];clear hwq cq f1 f2 lx3 ly3 ln0 ln1;have hKS1 := HKM.out;go_region_law ((refine ψj _ rfl (.tmp 149) (.tmp 161) 85 rfl (w.heap.size + 1) 84 i0 (.agg #[.int .i64 0, .int .i64 0]) 2 16 Tryz.underlying85 HJ.out.1 HJ.out.2.1 HJ.out.2.2.1 HJ.out.2.2.2 rfl (by decide) (.slice ua (S'.length + t) ucap) (S'.length + t) (pairs (S' ++ Z.take t)) (by simp [Act.eval]) (by exact HSQ.out _) ⟨wq.heap.size, 0, none⟩ 1 1 [.int .i64 kp, .int .i64 kq] (by simp [Act.eval]) rfl (by exact ξW (ψe _ _)) (G6 kp kq) (by decide) (by unfold maxLen; omega) (by omega) (by simp [World.drew]; omega) _ rfl ?_); intro g2 cap2 w7 hrow hgr hgb hgl)
             all_goals
              have h7 : ∀ q, q < wq.heap.size → (Value.slice ua (S'.length + t) ucap).ownBlock ≠ some q → w7.heap[q]? = wq.heap[q]? := fun q hq hne => (hgr.block q (by simp [World.drew]; omega) (fun e => hne e.symm)).trans (ξe _ _ q (by simpa [World.drew] using hq));have hs7 : wq.heap.size + 1 ≤ w7.heap.size := by have := hgr.size; simp [World.drew] at this; omega
              have HT7 := κ (show qL (w.heap.size + 1) w7 (.slice (some ⟨g2, 0, none⟩) (S'.length + t + 1) cap2) (S' ++ Z.take (t + 1)) by
               unfold qL;rw [HALL.out, nO, ξ1, HLEN.out];exact hrow)
              have HA7 : RowKit.Hid (∀ q, (Value.slice (some ⟨g2, 0, none⟩) (S'.length + t + 1) cap2).ownBlock = some q → q ≠ wx1.heap.size ∧ q ≠ xn ∧ q ≠ yn) := fun q hq => by
               have hq2 : g2 = q := by simpa [Value.ownBlock] using hq
               rcases hgb with hgb | hgb
               · rw [hq2] at hgb; exact HAP.out q hgb
               · have := HBD.out;have h1 : wq.heap.size + 1 = g2 := by rw [hgb]; simp [World.drew]
                 rw [HDR.out.1] at h1;omega
              have HB7 : RowKit.Hid (Below w.heap.size w w7) := ⟨hgr.os.trans HDR.out.2.os, hgr.tape.trans HDR.out.2.tape, hgr.output.trans HDR.out.2.output, by have := HDR.out.2.size; omega, fun q hq => (h7 q (by omega) (fun e => by have := (HSZ.lt q e).1; omega)).trans (HDR.out.2.block q hq)⟩;have HK7 : RowKit.Hid (∀ q, q < wv.heap.size → (q = w.heap.size ∨ q = wx1.heap.size ∨ q = xn ∨ q = yn) → w7.heap[q]? = wv.heap[q]?) := fun q hq hc => by
               refine (h7 q (by rw [HDR.out.1]; omega) (fun e => ?_)).trans (by rw [HDR.out.1]; exact HKZ.out q hq hc);have h1 := HAP.out q e;have h2 := (HSZ.lt q e).1;omega
              have hz7 : wv.heap.size ≤ w7.heap.size := by rw [HDR.out.1] at hs7; omega
              clear h7 hs7 hrow hgr hgb hgl;go_wp2_with fail;go_roundg fv
              case measure => omega
              case rel => exact ⟨t + 1, _, rfl, rfl, by omega, by omega, fun j p q hj hp hq => by
               by_cases hjt : j = t
               · subst hjt;rw [HU.out] at hp; rw [HV.out] at hq;simp only [ξO] at hp hq;subst hp; subst hq;omega
               · exact HLOW j p q (by omega) hp hq, HT7, HA7, HB7, HK7, hz7⟩
           · obtain rfl : t = x.kids.length := by omega
             have hall : S' ++ Z.take x.kids.length = S' ++ x.kids.zip y.kids := by rw [HZ.out, ← hZl, List.take_length]
             have HS3 := κ (show qL (w.heap.size + 1) wz (.slice ua (S'.length + x.kids.length) ucap) (S' ++ x.kids.zip y.kids) by rw [← hall]; exact HSZ.out);have HSX := κ (SI.push HSI.out (x := x) (y := y) (by rw [bN]; exact HX.out) (by rw [bN]; exact HY.out) HK1.out HK2.out HPE.out HK4.out (fun j p q hp hq => HLOW.out j p q (ξz.1 hp).1 hp hq));have hum := B0 (lb := b.length) (cnt := cnt) (i := iN) (k := kN) HX (by omega) HCC;have HM : RowKit.Hid (qb a b.length (gG cnt iN kN) + (S' ++ x.kids.zip y.kids).length + 1 ≤ fu) := by
              show qb a b.length (gG cnt iN kN) + (S' ++ x.kids.zip y.kids).length + 1 ≤ fu;have h1 := HG.out;rw [ξ1, List.length_zip];omega
             have HPZ := κ (HPV.keep (HKZ w.heap.size HBD.out.1 (.inl rfl)));clear hum hall;go_wp2_with fail;go_roundg fu
             case measure => omega
             case rel => exact ⟨S' ++ x.kids.zip y.kids, gG cnt iN kN, n + 1, _, rfl, HS3, HPZ, HBZ, by omega, HSX, HM, by omega, fun p q => by
              have := HCG.out p q;unfold gG;split
              · have := HCG.out iN kN; omega
              · omega⟩
    · have hgt : (1 : Int) < (cc : Int) + 1 := by omega
      have HSX := κ (SI.again HSI.out (by rw [HCC.out]; exact hc0));have hum := BZ (a := a) (lb := b.length) (cnt := cnt) (i := iN) (k := kN);have HM : RowKit.Hid (qb a b.length (gG cnt iN kN) + S'.length + 1 ≤ fu) := by
       show qb a b.length (gG cnt iN kN) + S'.length + 1 ≤ fu;have := HG.out; omega
      clear hum;go_wp2_with fail;go_roundg fu
      case measure => omega
      case rel => exact ⟨S', gG cnt iN kN, n + 1, _, rfl, HS2, HP2, HB2, by omega, HSX, HM, by omega, fun p q => by
       have := HCG.out p q;unfold gG;split
       · have := HCG.out iN kN; omega
       · omega⟩
end Go.Proofs.YtbchkldhnjahaaaGreatDoor
namespace Kiln
def AL (ts : List Tok) : Except Nat (Nat × PS) := if ts.all cL then (match eY ts (iV ts 1001) ps0 with
 | .ok x => .ok x
 | .error (.stop _ _ k) => .error k
 | .error .out => .error 1) else .error 1
theorem Du (ts : List Tok) (ln col : Int) : (ts.map (zJ ln col)).all cL = ts.all cL := by
 rw [List.all_map]; rfl
theorem JK {ts : List Tok} (hp : ∀ t ∈ ts, t.path.length ≤ 1099511627776) (ln col : Int) : match AL ts with
 | .ok x => (∃ s', AL (ts.map (zJ ln col)) = .ok (x.1, s') ∧ s'.nodes.length = x.2.nodes.length ∧ oU x.2.nodes s'.nodes x.1 x.1) ∧ lT x.2.nodes ∧ x.1 < x.2.nodes.length ∧ x.2.nodes.length ≤ 262144 ∧ ∀ n ∈ x.2.nodes, n.kids.length ≤ 262154 ∧ n.path.length ≤ 1099511627776
 | .error k => AL (ts.map (zJ ln col)) = .error k ∧ k ≠ 0 := by
 unfold AL;rw [Du];cases hw : ts.all cL with
 | false => exact ⟨rfl, by decide⟩
 | true =>
  simp only [↓reduceIte];cases h : eY ts (iV ts 1001) ps0 with
  | error e =>
   cases e with
   | out => exact (Ak hw hp h).elim
   | stop l c k =>
    obtain ⟨l', c', h', hk⟩ := zn (ln := ln) (col := col) h;rw [h'];exact ⟨rfl, hk⟩
  | ok x =>
   obtain ⟨i, s⟩ := x;obtain ⟨hg, hk, hm, hl, -⟩ := xk hw hp h;obtain ⟨s', h', h1, h2⟩ := Ca (ln := ln) (col := col) h hg hk.lt;rw [h'];exact ⟨⟨s', rfl, h1, h2⟩, hg, hk.lt, hm, hl⟩
theorem rI {ts : List Tok} (hp : ∀ t ∈ ts, t.path.length ≤ 1099511627776) {x : Nat × PS} (h : AL ts = .ok x) : eY ts (iV ts 1001) ps0 = .ok x ∧ lT x.2.nodes ∧ x.1 < x.2.nodes.length ∧ x.2.nodes.length ≤ 262144 ∧ (∀ n ∈ x.2.nodes, n.kids.length ≤ 262154 ∧ n.path.length ≤ 1099511627776) ∧ x.2.deep.length = x.2.nodes.length := by
 unfold AL at h;cases hw : ts.all cL with
 | false => rw [hw] at h; cases h
 | true =>
  rw [hw] at h;simp only [↓reduceIte] at h;cases ht : eY ts (iV ts 1001) ps0 with
  | error e => rw [ht] at h; cases e <;> cases h
  | ok y =>
   rw [ht] at h;simp only [ξm] at h;subst h;obtain ⟨i, s⟩ := y;obtain ⟨hg, hk, hm, hl, hd⟩ := xk hw hp ht;exact ⟨rfl, hg, hk.lt, hm, hl, hd⟩
theorem G5 {ts : List Tok} (hp : ∀ t ∈ ts, t.path.length ≤ 1099511627776) {k : Nat} (h : AL ts = .error k) : k ≠ 0 := by
 have := JK hp 0 0;rw [h] at this;exact this.2
def fH (s : Bytes) : Option (Nat × PS) := match gJ s with
 | .error _ => none
 | .ok ts => match AL ts with
  | .ok x => some x
  | .error _ => none
end Kiln
namespace Go.Proofs.YtbchkldhnjahaaaGreatDoor
open Go.RowKit Kiln
open Go.Proofs
theorem Cc {u : Tok} (h : Small 1048576 u) : Fits u := by
 have hj := Bh (u.path ++ [u.text]) [46];rw [qX, ξ1] at hj;simp only [ξ2, ξ5] at hj;obtain ⟨h1, h2⟩ := h;exact ⟨by omega, by omega, by omega⟩
theorem xB {l : Bytes} {ts : List Tok} (h : gJ l = .ok ts) : ∀ t ∈ ts, t.path.length ≤ 1099511627776 := fun t ht => by
 have := ((mY h).1 t ht).2; omega
def BR (w : World) (R : Except Nat (Nat × PS)) (e : Ending) (w' : World) : Prop :=
 Below w.heap.size w w' ∧ match R with
 | .ok x => ∃ nv, e = .returned (.tuple #[nv, .int .i64 (x.1 : Nat), .int .i64 0, .int .i64 0, .int .i64 0]) ∧ NdT w' nv x.2.nodes
 | .error k => ∃ l c : Int, e = .returned (.tuple #[.slice none 0 0, .int .i64 0, .int .i64 l, .int .i64 c, .int .i64 (k : Nat)])
theorem Eu (tv : Value) (ts : List Tok) (w : World) (hg : Gl w) (ht : TkS w tv ts) (hlen : ts.length ≤ 4398046511104) (hz : ∀ u ∈ ts, Fits u) :
 Calls Tryz.prog 12 #[tv] w (BR w (AL ts)) := by
 refine (xU tv ts w hg ht hlen hz).mono ?_;intro e w' h;unfold F5 at h;unfold BR AL;refine ⟨h.1, ?_⟩;replace h := h.2;cases hw : ts.all cL with
 | false => rw [hw] at h; exact ⟨0, 0, h⟩
 | true =>
  rw [hw] at h;simp only [↓reduceIte];cases hr : eY ts (iV ts 1001) ps0 with
  | ok x => rw [hr] at h; exact h
  | error q =>
   rw [hr] at h;cases q with
   | out => exact h.elim
   | stop l c k => exact ⟨l, c, h⟩
def F4 (w : World) (R : Option (Nat × PS)) (e : Ending) (w' : World) : Prop :=
 Below w.heap.size w w' ∧ match R with
 | some x => ∃ nv, e = .returned (.tuple #[nv, .int .i64 (x.1 : Nat), .bool true]) ∧ NdT w' nv x.2.nodes
 | none => e = .returned (.tuple #[.slice none 0 0, .int .i64 0, .bool false])
def PdV (w : World) (v : Value) (i : Int) (b : Bool) : Option (Nat × PS) → Prop
 | some x => i = (x.1 : Nat) ∧ b = true ∧ NdT w v x.2.nodes
 | none => b = false
theorem F4.val {w w' : World} {R : Option (Nat × PS)} {e : Ending} (h : F4 w R e w') : ∃ v i b, e = .returned (.tuple #[v, .int .i64 i, .bool b]) ∧ PdV w' v i b R := by
 replace h := h.2;cases R with
 | some x => obtain ⟨nv, h1, h2⟩ := h; exact ⟨_, _, _, h1, rfl, rfl, h2⟩
 | none => exact ⟨_, _, _, h, rfl⟩
def OpV (w : World) (v : Value) (i c : Int) : Except Nat (Nat × PS) → Prop
 | .ok x => i = (x.1 : Nat) ∧ c = 0 ∧ NdT w v x.2.nodes
 | .error k => v = .slice none 0 0 ∧ c = (k : Nat)
theorem BR.val {w w' : World} {R : Except Nat (Nat × PS)} {e : Ending} (h : BR w R e w') : ∃ v i l c k, e = .returned (.tuple #[v, .int .i64 i, .int .i64 l, .int .i64 c, .int .i64 k]) ∧ OpV w' v i k R := by
 replace h := h.2;cases R with
 | ok x => obtain ⟨nv, h1, h2⟩ := h; exact ⟨_, _, _, _, _, h1, rfl, rfl, h2⟩
 | error k => obtain ⟨l, c, h1⟩ := h; exact ⟨_, _, _, _, _, h1, rfl, rfl⟩
theorem oz (s : ByteArray) (w : World) (hg : Gl w) : Calls Tryz.prog 20 #[.string s] w (F4 w (fH s.data.toList)) := by
 have HG := κ hg; clear hg;have HSC := κ (rz s w HG);go_enter Tryz.func20, Tryz.ntmps20;go_wp2_with fail;refine HSC.mono ?_;rintro e w2 hpost;have HB2 := κ hpost.1;cases hr : gJ s.data.toList with
 | error q =>
  obtain ⟨c, x, y⟩ := q;obtain rfl := II hpost hr;have hc := xC hr;have hcn : ((c : Int) != 0) = true := by rw [ψa]; omega
  have HPP : RowKit.Hid (fH s.data.toList = none) := by show fH _ = none; unfold fH; rw [hr]
  clear hpost hr hc;go_wp2_with fail;go_ret3
  rw [HPP.out];exact ⟨HB2, rfl⟩
 | ok l =>
  obtain ⟨v, xs, rfl, hown, htk⟩ := Je hpost hr;have HT := κ (Am hown htk);have hsz := mY hr;have HP := κ (Eu v l w2 (HG.below HB2) HT (by omega) fun u hu => Cc (hsz.1 u hu));have HER := κ (fun k => G5 (k := k) (xB hr));have HPP : RowKit.Hid (fH s.data.toList = match AL l with
   | .ok x => some x
   | .error _ => none) := by show fH _ = _; unfold fH; rw [hr]
  clear hpost hr hown htk hsz;obtain ⟨a, cap, rfl, -⟩ := id HT;go_wp2_with fail;refine HP.mono ?_;rintro e w3 ⟨hb3, hpo⟩;have HB3 := κ (HB2.trans (hb3.mono HB2.size));clear hb3 HP;obtain ⟨R, hR⟩ : ∃ R, AL l = R := ⟨_, rfl⟩;rw [hR] at hpo;have HRR := κ hR;clear hR;cases R with
  | error k =>
   obtain ⟨ln, col, rfl⟩ := hpo;have hk := HER.out k HRR;have hkn : ((k : Int) == 0) = false := by rw [ξY]; omega
   clear hk;go_wp2_with fail;go_ret3
   rw [HPP.out, HRR.out];exact ⟨HB3, rfl⟩
  | ok x =>
   obtain ⟨nv, rfl, hn⟩ := hpo;have HN := κ hn;obtain ⟨na, ncap, rfl, -⟩ := id HN;clear hn;go_wp2_with fail;go_ret3
   rw [HPP.out, HRR.out];exact ⟨HB3, _, rfl, HN⟩
end Go.Proofs.YtbchkldhnjahaaaGreatDoor
