/- Part of the proof. Conditions: those of each theorem. -/
import Derived.Deep.OwnRows
import Derived.Test.YtbchkldhnjahaaaGreatDoorRows
import Derived.ProofKit
import Derived.LaidMore
import Derived.OpenShut
import Derived.ShutString
import Derived.SizedLaws
import Derived.HandedShaped
import Derived.Stop.Joined
import Derived.Stop.LaidErr
import Derived.Shelf.Vars
import Derived.Deep.Slices
import Derived.SliceStrings
import Derived.DeepKeys4
import Derived.WideKeyEntry
import Derived.Maps.OwnSet
import Derived.Deep.CutBlock
import Derived.KernelRfl
import Derived.RegionTactic
import Derived.Test.YtbchkldhnjahaaaGreatDoorPoa
import Derived.Test.YtbchkldhnjahaaaGreatDoorPob
import Derived.Test.YtbchkldhnjahaaaGreatDoorPoe
import Derived.Test.YtbchkldhnjahaaaGreatDoorPof
import Derived.Test.YtbchkldhnjahaaaGreatDoorPoh
import Derived.Test.YtbchkldhnjahaaaGreatDoorPoi
import Derived.Test.YtbchkldhnjahaaaGreatDoorPoj
import Derived.Test.YtbchkldhnjahaaaGreatDoorPon
import Derived.Test.YtbchkldhnjahaaaGreatDoorPou
set_option maxRecDepth 100000
set_option maxHeartbeats 40000000
namespace Go.Proofs.YtbchkldhnjahaaaGreatDoor
open Go.RowKit Kiln
open Go.Proofs
theorem Mk : (Tryz.prog.info? 4).map (fun i => (i.zero, i.size, i.bytes)) = some (some (.bool false), 1, 1) := by kernel_rfl
def Dt (w : World) (B n : Nat) (m : Nat → Bool) : Prop := w.rowIs B 4 n fun j => .bool (m j)
theorem Dt.below {w w' : World} {B n : Nat} {m : Nat → Bool} (h : Dt w B n m) (hk : w'.heap[B]? = w.heap[B]?) : Dt w' B n m := h.of_block hk
theorem Dt.put {w : World} {B n k : Nat} {m m' : Nat → Bool} (h : Dt w B n m) (hm : ∀ j, m' j = if j = k then true else m j) : Dt (w.setCell ⟨B, k, none⟩ (.bool true)) B n m' :=
 (h.set k (.bool true)).congr fun j _ => by
  rw [hm j];by_cases hj : j = k <;> simp [hj]
theorem Dt.cell {w : World} {B n : Nat} {m : Nat → Bool} (h : Dt w B n m) {i : Nat} (hi : i < n) : w.cell? ⟨B, i, none⟩ = some (.bool (m i)) := World.rowIs.cell h hi
theorem ints_at {w : World} {a : Option Addr} {n cap : Nat} {l : List Int} (h : Ints w (.slice a n cap) l) {i : Nat} {x : Int} (hi : l[i]? = some x) : ∃ b off, a = some ⟨b, off, none⟩ ∧ w.cell? ⟨b, off + i, none⟩ = some (.int .i64 x) := by
 obtain ⟨a', cap', hv, -, -, hl⟩ := h;simp only [ξR] at hv;obtain ⟨rfl, -, -⟩ := hv;obtain ⟨b, off, rfl, hx⟩ := hl (by rintro rfl; simp at hi);exact ⟨b, off, rfl, hx i x hi⟩
theorem Ints.tail {w : World} {a : Option Addr} {k : Int} {ks : List Int} {cap : Nat} (h : Ints w (.slice a (ks.length + 1) cap) (k :: ks)) : Ints w (sliced a 1 (ks.length + 1) cap 1) ks := by
 obtain ⟨a', cap', hv, hlc, hcm, hl⟩ := h;simp only [ξ2, ξR, true_and] at hv;obtain ⟨rfl, rfl⟩ := hv;obtain ⟨b, off, rfl, hx⟩ := hl (by simp);simp only [ξ2] at hlc;unfold sliced;refine ⟨_, cap - 1, rfl, by omega, by omega, fun hne => ?_⟩;have hc : cap ≠ 1 := by
  cases ks with
  | nil => exact absurd rfl hne
  | cons c r => simp only [ξ2] at hlc; omega
 refine ⟨b, off + 1, by rw [ψh hc]; simp [Addr.add], fun i x hi => ?_⟩;have := hx (i + 1) x (by simpa using hi);rw [show off + 1 + i = off + (i + 1) by omega];exact this
structure KSt (w1 w : World) (q : Nat) (lv : Value) (ks : List Int) : Prop where
 bel : Below w1.heap.size w1 w
 q1 : w1.heap.size ≤ q
 blk : ∃ iv, w.heap[q]? = some (.cells #[lv, iv] 117 (0, 0)) ∧ Ints w1 iv ks
def MC (w1 : World) (q : Nat) (lv : Value) (r : Bool × List Int) (e : Ending) (w' : World) : Prop := e = .returned (.bool r.1) ∧ KSt w1 w' q lv r.2
theorem KSt.below {w1 w w' : World} {q : Nat} {lv : Value} {ks : List Int} (h : KSt w1 w q lv ks) (hb : Below w.heap.size w w') : KSt w1 w' q lv ks := by
 obtain ⟨iv, hq, hi⟩ := h.blk;exact ⟨h.bel.trans (hb.mono h.bel.size), h.q1, iv, (hb.block q (ξd.1 hq).1).trans hq, hi⟩
theorem KSt.drew {w1 w : World} {q : Nat} {lv : Value} {ks : List Int} (h : KSt w1 w q lv ks) : KSt w1 w.drew q lv ks := h.below ⟨rfl, rfl, rfl, ξF _, fun _ _ => rfl⟩
theorem KSt.alloc {w1 w : World} {q : Nat} {lv : Value} {ks : List Int} (h : KSt w1 w q lv ks) (o : Obj) : KSt w1 (w.alloc o) q lv ks := h.below ((ξf _ w).alloc (ξF _) o)
theorem KSt.set {w1 w : World} {q : Nat} {lv : Value} {ks : List Int} (h : KSt w1 w q lv ks) {v : Value} {ks' : List Int} (hi : Ints w1 v ks') : KSt w1 (w.setCell ⟨q, 1, none⟩ v) q lv ks' := by
 obtain ⟨iv, hq, _⟩ := h.blk;exact ⟨h.bel.setCell h.q1 _, h.q1, v, ψg w q 1 _ _ v hq, hi⟩
theorem KSt.reads {w1 w : World} {q : Nat} {lv : Value} {ks : List Int} (h : KSt w1 w q lv ks) :
 ∃ a cap, Ints w1 (.slice a ks.length cap) ks ∧ w.cell? ⟨q, 0, none⟩ = some lv ∧ w.cell? ⟨q, 1, none⟩ = some (.slice a ks.length cap) ∧ ∀ i, w.frozen? ⟨q, i, none⟩ = false := by
 obtain ⟨iv, hq, hi⟩ := h.blk;obtain ⟨a, cap, rfl, _⟩ := id hi;exact ⟨a, cap, hi, by simp [World.cell?, hq], by simp [World.cell?, hq], fun i => frozen_of_row w q i _ _ hq⟩
theorem wL {w1 w : World} {q : Nat} {lv : Value} {ks : List Int} (hk : KSt w1 w q lv ks) :
 Calls Tryz.prog 66 #[.pointer (some ⟨q, 0, none⟩)] w fun e w' => e = .returned (.bool ks.isEmpty) ∧ KSt w1 w' q lv ks := by
 have HK := κ hk;obtain ⟨a, cap, hi, c0, c1, hf⟩ := hk.reads;cases ks with
 | nil =>
  clear hi hk hf;go_enter Tryz.func66, Tryz.ntmps66;go_wp2_with fail;go_ret;exact ⟨rfl, HK⟩
 | cons k r =>
  have hd0 : (((k :: r).length : Int) == 0) = false := by rw [ξY]; simp only [ξ2]; omega
  clear hi hk hf;go_enter Tryz.func66, Tryz.ntmps66;go_wp2_with fail;go_ret;exact ⟨rfl, HK⟩
theorem wu {w1 w : World} {q : Nat} {lv : Value} {l : List Nd} {ks : List Int} (HN : NdT w1 lv l) (hk : KSt w1 w q lv ks) (hr : ∀ k ∈ ks, 0 ≤ k ∧ k < (l.length : Int)) :
 Calls Tryz.prog 150 #[.pointer (some ⟨q, 0, none⟩)] w fun e w' => e = .returned (.int .i64 (nextK l ks)) ∧ KSt w1 w' q lv ks := by
 have HK := κ hk;obtain ⟨a, cap, hi, c0, c1, hf⟩ := hk.reads;cases ks with
 | nil =>
  clear hi hk hf hr;go_enter Tryz.func150, Tryz.ntmps150;go_wp2_with fail;go_ret;exact ⟨rfl, HK⟩
 | cons k r =>
  have hd0 : (((k :: r).length : Int) == 0) = false := by rw [ξY]; simp only [ξ2]; omega
  have hk0 := hr k (by simp);obtain ⟨kn, rfl⟩ : ∃ kn : Nat, k = kn := ⟨k.toNat, by omega⟩;obtain ⟨nd, hnd⟩ : ∃ nd, l[kn]? = some nd := ⟨_, ξw (by omega)⟩;have HX := κ (show nextK l ((kn : Int) :: r) = nd.kind by simp [nextK, kindOf, hnd]);obtain ⟨bn, offn, capn, pv, kv, rfl, -, -, hc⟩ := HN.one hnd;have e0 : w.cell? ⟨bn, offn + kn * 6, none⟩ = some (.int .i64 nd.kind) := cell_later hk.bel (hc 0 _ rfl _ rfl);obtain ⟨bi, offi, rfl, hcell⟩ := ints_at hi (i := 0) rfl;have e1 : w.cell? ⟨bi, offi, none⟩ = some (.int .i64 kn) := cell_later hk.bel hcell;have hlt : (kn : Int) < (l.length : Int) := hk0.2;have hlk : (0 : Int) < (r.length : Int) + 1 := by omega
  have hlk2 : (0 : Int) < ((r.length + 1 : Nat) : Int) := by omega
  have f0 := hf 0;have f1 := hf 1;clear hi hk hf hr hc hcell hnd hk0;go_enter Tryz.func150, Tryz.ntmps150;go_wp2_with fail;go_quiet (fail);go_wp2_with fail;go_ret;exact ⟨by rw [HX.out]; rfl, HK.below ⟨rfl, rfl, rfl, ξF _, fun _ _ => rfl⟩⟩
theorem Aq (a : Option Addr) (n cap : Nat) (w : World) : (Instr.sliceAt 39 (.slice a (n + 1) cap) (some (.int .i64 1)) none none).run Tryz.prog w = .ok (sliced a 1 (n + 1) cap 1) w := by
 simp [go_sem, Tryz.underlying39];intro h; omega
theorem JN {w1 w : World} {q : Nat} {lv : Value} {l : List Nd} {ks : List Int} (k : Int) (HN : NdT w1 lv l) (hk : KSt w1 w q lv ks) (hr : ∀ k ∈ ks, 0 ≤ k ∧ k < (l.length : Int)) (hk0 : k ≠ 0) :
 Calls Tryz.prog 115 #[.pointer (some ⟨q, 0, none⟩), .int .i64 k] w (MC w1 q lv (G8 l k ks)) := by
 cases ks with
 | nil =>
  have h0 : ((0 : Int) != k) = true := by rw [ψa]; exact fun e => hk0 e.symm
  have hnx := κ (wu HN hk hr);clear hk;go_enter Tryz.func115, Tryz.ntmps115;go_wp2_with fail;refine hnx.out.mono ?_;rintro e w2 ⟨rfl, hk2⟩;rw [show nextK l [] = 0 from rfl];go_wp2_with fail;go_ret;exact ⟨rfl, hk2⟩
 | cons c r =>
  have hnx := κ (wu HN hk hr);clear hk;obtain ⟨kd, hkd⟩ : ∃ kd, kindOf l c = kd := ⟨_, rfl⟩;by_cases he : kd = k
  · have h0 : (kd != k) = false := by rw [he]; simp
    have HP := κ (show G8 l k (c :: r) = (true, r) by simp [G8, hkd, he]);clear he;go_enter Tryz.func115, Tryz.ntmps115;go_wp2_with fail;refine hnx.out.mono ?_;rintro e w2 ⟨rfl, hk2⟩;rw [show nextK l (c :: r) = kd from hkd];obtain ⟨a, cap, hi, -, c1, hf⟩ := hk2.reads;have c1' : w2.cell? ⟨q, 1, none⟩ = some (.slice a (r.length + 1) cap) := c1;have f1 := hf 1;have hs := Aq a r.length cap;have HI := κ (Ints.tail hi);obtain ⟨sa, scap, hsv⟩ : ∃ sa scap, sliced a 1 (r.length + 1) cap 1 = .slice sa r.length scap := ⟨_, _, rfl⟩;rw [hsv] at hs HI;have HK := κ hk2;clear hsv hi c1 hf hk2;go_wp2_with fail;go_ret;exact ⟨by rw [HP.out]; rfl, by rw [HP.out]; exact HK.set HI.out⟩
  · have h0 : (kd != k) = true := by rw [ψa]; exact he
    have HP := κ (show G8 l k (c :: r) = (false, c :: r) by simp [G8, hkd, he]);clear he;go_enter Tryz.func115, Tryz.ntmps115;go_wp2_with fail;refine hnx.out.mono ?_;rintro e w2 ⟨rfl, hk2⟩;rw [show nextK l (c :: r) = kd from hkd];go_wp2_with fail;go_ret;exact ⟨by rw [HP.out]; rfl, by rw [HP.out]; exact hk2⟩
theorem J2 (k : Int) (w : World) : Calls Tryz.prog 149 #[.int .i64 0, .int .i64 k] w fun e w' => e = .returned (.bool (bw 0 k)) ∧ w' = w := by
 by_cases a1 : 1 ≤ k
 · by_cases a2 : k ≤ 4
   · have HP := κ (show bw 0 k = true by simp [bw, a1, a2]);go_enter Tryz.func149, Tryz.ntmps149;go_wp2_with fail;go_ret;exact ⟨by rw [HP.out]; rfl, rfl⟩
   · by_cases a3 : 10 ≤ k
     · by_cases a4 : k ≤ 26
       · have HP := κ (show bw 0 k = true by simp [bw, a1, a2, a3, a4]);go_enter Tryz.func149, Tryz.ntmps149;go_wp2_with fail;go_ret;exact ⟨by rw [HP.out]; rfl, rfl⟩
       · have HP := κ (show bw 0 k = false by simp [bw, a1, a2, a3, a4]);go_enter Tryz.func149, Tryz.ntmps149;go_wp2_with fail;go_ret;exact ⟨by rw [HP.out]; rfl, rfl⟩
     · have HP := κ (show bw 0 k = false by simp [bw, a1, a2, a3]);go_enter Tryz.func149, Tryz.ntmps149;go_wp2_with fail;go_ret;exact ⟨by rw [HP.out]; rfl, rfl⟩
 · by_cases a5 : 10 ≤ k
   · by_cases a6 : k ≤ 26
     · have HP := κ (show bw 0 k = true by simp [bw, a1, a5, a6]);go_enter Tryz.func149, Tryz.ntmps149;go_wp2_with fail;go_ret;exact ⟨by rw [HP.out]; rfl, rfl⟩
     · have HP := κ (show bw 0 k = false by simp [bw, a1, a5, a6]);go_enter Tryz.func149, Tryz.ntmps149;go_wp2_with fail;go_ret;exact ⟨by rw [HP.out]; rfl, rfl⟩
   · have HP := κ (show bw 0 k = false by simp [bw, a1, a5]);go_enter Tryz.func149, Tryz.ntmps149;go_wp2_with fail;go_ret;exact ⟨by rw [HP.out]; rfl, rfl⟩
theorem J1 (k : Int) (w : World) : Calls Tryz.prog 149 #[.int .i64 1, .int .i64 k] w fun e w' => e = .returned (.bool (bw 1 k)) ∧ w' = w := by
 by_cases a7 : k = 1
 · subst a7;have HP := κ (show bw 1 1 = true by rfl);go_enter Tryz.func149, Tryz.ntmps149;go_wp2_with fail;go_ret;exact ⟨by rw [HP.out]; rfl, rfl⟩
 · have a7b : (k == 1) = false := by rw [ξY]; exact a7
   by_cases a8 : k = 3
   · subst a8;have HP := κ (show bw 1 3 = true by rfl);go_enter Tryz.func149, Tryz.ntmps149;go_wp2_with fail;go_ret;exact ⟨by rw [HP.out]; rfl, rfl⟩
   · have a8b : (k == 3) = false := by rw [ξY]; exact a8
     by_cases a9 : k = 4
     · subst a9;have HP := κ (show bw 1 4 = true by rfl);go_enter Tryz.func149, Tryz.ntmps149;go_wp2_with fail;go_ret;exact ⟨by rw [HP.out]; rfl, rfl⟩
     · have a9b : (k == 4) = false := by rw [ξY]; exact a9
       by_cases a10 : 30 ≤ k
       · by_cases a11 : k ≤ 38
         · by_cases a12 : k = 35
           · subst a12;have HP := κ (show bw 1 35 = false by rfl);go_enter Tryz.func149, Tryz.ntmps149;go_wp2_with fail;go_ret;exact ⟨by rw [HP.out]; rfl, rfl⟩
           · have a12b : (k != 35) = true := by rw [ψa]; exact a12
             have HP := κ (show bw 1 k = true by simp [bw, a7, a8, a9, a10, a11, a12]);go_enter Tryz.func149, Tryz.ntmps149;go_wp2_with fail;go_ret;exact ⟨by rw [HP.out]; rfl, rfl⟩
         · have HP := κ (show bw 1 k = false by simp [bw, a7, a8, a9, a10, a11]);go_enter Tryz.func149, Tryz.ntmps149;go_wp2_with fail;go_ret;exact ⟨by rw [HP.out]; rfl, rfl⟩
       · have HP := κ (show bw 1 k = false by simp [bw, a7, a8, a9, a10]);go_enter Tryz.func149, Tryz.ntmps149;go_wp2_with fail;go_ret;exact ⟨by rw [HP.out]; rfl, rfl⟩
theorem J0 (k : Int) (w : World) : Calls Tryz.prog 149 #[.int .i64 2, .int .i64 k] w fun e w' => e = .returned (.bool (bw 2 k)) ∧ w' = w := by
 by_cases a13 : 40 ≤ k
 · by_cases a14 : k ≤ 44
   · have HP := κ (show bw 2 k = true by simp [bw, a13, a14]);go_enter Tryz.func149, Tryz.ntmps149;go_wp2_with fail;go_ret;exact ⟨by rw [HP.out]; rfl, rfl⟩
   · have HP := κ (show bw 2 k = false by simp [bw, a13, a14]);go_enter Tryz.func149, Tryz.ntmps149;go_wp2_with fail;go_ret;exact ⟨by rw [HP.out]; rfl, rfl⟩
 · have HP := κ (show bw 2 k = false by simp [bw, a13]);go_enter Tryz.func149, Tryz.ntmps149;go_wp2_with fail;go_ret;exact ⟨by rw [HP.out]; rfl, rfl⟩
theorem JZ (k : Int) (w : World) : Calls Tryz.prog 149 #[.int .i64 3, .int .i64 k] w fun e w' => e = .returned (.bool (bw 3 k)) ∧ w' = w := by
 by_cases a15 : k = 51
 · subst a15;have HP := κ (show bw 3 51 = true by rfl);go_enter Tryz.func149, Tryz.ntmps149;go_wp2_with fail;go_ret;exact ⟨by rw [HP.out]; rfl, rfl⟩
 · have a15b : (k == 51) = false := by rw [ξY]; exact a15
   by_cases a16 : k = 52
   · subst a16;have HP := κ (show bw 3 52 = true by rfl);go_enter Tryz.func149, Tryz.ntmps149;go_wp2_with fail;go_ret;exact ⟨by rw [HP.out]; rfl, rfl⟩
   · have a16b : (k == 52) = false := by rw [ξY]; exact a16
     by_cases a17 : k = 54
     · subst a17;have HP := κ (show bw 3 54 = true by rfl);go_enter Tryz.func149, Tryz.ntmps149;go_wp2_with fail;go_ret;exact ⟨by rw [HP.out]; rfl, rfl⟩
     · have a17b : (k == 54) = false := by rw [ξY]; exact a17
       by_cases a18 : k = 58
       · subst a18;have HP := κ (show bw 3 58 = true by rfl);go_enter Tryz.func149, Tryz.ntmps149;go_wp2_with fail;go_ret;exact ⟨by rw [HP.out]; rfl, rfl⟩
       · have a18b : (k == 58) = false := by rw [ξY]; exact a18
         by_cases a19 : k = 60
         · subst a19;have HP := κ (show bw 3 60 = true by rfl);go_enter Tryz.func149, Tryz.ntmps149;go_wp2_with fail;go_ret;exact ⟨by rw [HP.out]; rfl, rfl⟩
         · have a19b : (k == 60) = false := by rw [ξY]; exact a19
           by_cases a20 : k = 63
           · subst a20;have HP := κ (show bw 3 63 = true by rfl);go_enter Tryz.func149, Tryz.ntmps149;go_wp2_with fail;go_ret;exact ⟨by rw [HP.out]; rfl, rfl⟩
           · have a20b : (k == 63) = false := by rw [ξY]; exact a20
             by_cases a21 : k = 64
             · subst a21;have HP := κ (show bw 3 64 = true by rfl);go_enter Tryz.func149, Tryz.ntmps149;go_wp2_with fail;go_ret;exact ⟨by rw [HP.out]; rfl, rfl⟩
             · have a21b : (k == 64) = false := by rw [ξY]; exact a21
               by_cases a22 : k = 66
               · subst a22;have HP := κ (show bw 3 66 = true by rfl);go_enter Tryz.func149, Tryz.ntmps149;go_wp2_with fail;go_ret;exact ⟨by rw [HP.out]; rfl, rfl⟩
               · have a22b : (k == 66) = false := by rw [ξY]; exact a22
                 by_cases a23 : k = 67
                 · subst a23;have HP := κ (show bw 3 67 = true by rfl);go_enter Tryz.func149, Tryz.ntmps149;go_wp2_with fail;go_ret;exact ⟨by rw [HP.out]; rfl, rfl⟩
                 · have a23b : (k == 67) = false := by rw [ξY]; exact a23
                   by_cases a24 : k = 68
                   · subst a24;have HP := κ (show bw 3 68 = true by rfl);go_enter Tryz.func149, Tryz.ntmps149;go_wp2_with fail;go_ret;exact ⟨by rw [HP.out]; rfl, rfl⟩
                   · have a24b : (k == 68) = false := by rw [ξY]; exact a24
                     by_cases a25 : k = 69
                     · subst a25;have HP := κ (show bw 3 69 = true by rfl);go_enter Tryz.func149, Tryz.ntmps149;go_wp2_with fail;go_ret;exact ⟨by rw [HP.out]; rfl, rfl⟩
                     · have a25b : (k == 69) = false := by rw [ξY]; exact a25
                       by_cases a26 : k = 71
                       · subst a26;have HP := κ (show bw 3 71 = true by rfl);go_enter Tryz.func149, Tryz.ntmps149;go_wp2_with fail;go_ret;exact ⟨by rw [HP.out]; rfl, rfl⟩
                       · have a26b : (k == 71) = false := by rw [ξY]; exact a26
                         by_cases a27 : k = 73
                         · subst a27;have HP := κ (show bw 3 73 = true by rfl);go_enter Tryz.func149, Tryz.ntmps149;go_wp2_with fail;go_ret;exact ⟨by rw [HP.out]; rfl, rfl⟩
                         · have a27b : (k == 73) = false := by rw [ξY]; exact a27
                           have HP := κ (show bw 3 k = false by simp [bw, a15, a16, a17, a18, a19, a20, a21, a22, a23, a24, a25, a26, a27]);go_enter Tryz.func149, Tryz.ntmps149;go_wp2_with fail;go_ret;exact ⟨by rw [HP.out]; rfl, rfl⟩
theorem JY (k : Int) (w : World) : Calls Tryz.prog 149 #[.int .i64 4, .int .i64 k] w fun e w' => e = .returned (.bool (bw 4 k)) ∧ w' = w := by
 by_cases a13 : 80 ≤ k
 · by_cases a14 : k ≤ 85
   · have HP := κ (show bw 4 k = true by simp [bw, a13, a14]);go_enter Tryz.func149, Tryz.ntmps149;go_wp2_with fail;go_ret;exact ⟨by rw [HP.out]; rfl, rfl⟩
   · have HP := κ (show bw 4 k = false by simp [bw, a13, a14]);go_enter Tryz.func149, Tryz.ntmps149;go_wp2_with fail;go_ret;exact ⟨by rw [HP.out]; rfl, rfl⟩
 · have HP := κ (show bw 4 k = false by simp [bw, a13]);go_enter Tryz.func149, Tryz.ntmps149;go_wp2_with fail;go_ret;exact ⟨by rw [HP.out]; rfl, rfl⟩
theorem JX (k : Int) (w : World) : Calls Tryz.prog 149 #[.int .i64 5, .int .i64 k] w fun e w' => e = .returned (.bool (bw 5 k)) ∧ w' = w := by
 by_cases a13 : 90 ≤ k
 · by_cases a14 : k ≤ 92
   · have HP := κ (show bw 5 k = true by simp [bw, a13, a14]);go_enter Tryz.func149, Tryz.ntmps149;go_wp2_with fail;go_ret;exact ⟨by rw [HP.out]; rfl, rfl⟩
   · have HP := κ (show bw 5 k = false by simp [bw, a13, a14]);go_enter Tryz.func149, Tryz.ntmps149;go_wp2_with fail;go_ret;exact ⟨by rw [HP.out]; rfl, rfl⟩
 · have HP := κ (show bw 5 k = false by simp [bw, a13]);go_enter Tryz.func149, Tryz.ntmps149;go_wp2_with fail;go_ret;exact ⟨by rw [HP.out]; rfl, rfl⟩
theorem JW (k : Int) (w : World) : Calls Tryz.prog 149 #[.int .i64 6, .int .i64 k] w fun e w' => e = .returned (.bool (bw 6 k)) ∧ w' = w := by
 by_cases a13 : 94 ≤ k
 · by_cases a14 : k ≤ 100
   · have HP := κ (show bw 6 k = true by simp [bw, a13, a14]);go_enter Tryz.func149, Tryz.ntmps149;go_wp2_with fail;go_ret;exact ⟨by rw [HP.out]; rfl, rfl⟩
   · have HP := κ (show bw 6 k = false by simp [bw, a13, a14]);go_enter Tryz.func149, Tryz.ntmps149;go_wp2_with fail;go_ret;exact ⟨by rw [HP.out]; rfl, rfl⟩
 · have HP := κ (show bw 6 k = false by simp [bw, a13]);go_enter Tryz.func149, Tryz.ntmps149;go_wp2_with fail;go_ret;exact ⟨by rw [HP.out]; rfl, rfl⟩
theorem JV (k : Int) (w : World) : Calls Tryz.prog 149 #[.int .i64 7, .int .i64 k] w fun e w' => e = .returned (.bool (bw 7 k)) ∧ w' = w := by
 by_cases a13 : k = 62
 · subst a13;have HP := κ (show bw 7 62 = true by rfl);go_enter Tryz.func149, Tryz.ntmps149;go_wp2_with fail;go_ret;exact ⟨by rw [HP.out]; rfl, rfl⟩
 · have a13b : (k == 62) = false := by rw [ξY]; exact a13
   by_cases a14 : k = 65
   · subst a14;have HP := κ (show bw 7 65 = true by rfl);go_enter Tryz.func149, Tryz.ntmps149;go_wp2_with fail;go_ret;exact ⟨by rw [HP.out]; rfl, rfl⟩
   · have a14b : (k == 65) = false := by rw [ξY]; exact a14
     have HP := κ (show bw 7 k = false by simp [bw, a13b, a14b]);go_enter Tryz.func149, Tryz.ntmps149;go_wp2_with fail;go_ret;exact ⟨by rw [HP.out]; rfl, rfl⟩
theorem CC (g : Nat) (k : Int) (w : World) (hg : g ≤ 7) :
 Calls Tryz.prog 149 #[.int .i64 g, .int .i64 k] w fun e w' => e = .returned (.bool (bw g k)) ∧ w' = w := by
 obtain rfl | rfl | rfl | rfl | rfl | rfl | rfl | rfl : g = 0 ∨ g = 1 ∨ g = 2 ∨ g = 3 ∨ g = 4 ∨ g = 5 ∨ g = 6 ∨ g = 7 := by omega
 · exact J2 k w
 · exact J1 k w
 · exact J0 k w
 · exact JZ k w
 · exact JY k w
 · exact JX k w
 · exact JW k w
 · exact JV k w
end Go.Proofs.YtbchkldhnjahaaaGreatDoor
namespace Kiln
theorem uM {f : Int → Bool} {c : Int} {r : List Int} (h : f c = true) : cH f (c :: r) = ((cH f r).1 + 1, (cH f r).2) := by simp [cH, h]
theorem uL {f : Int → Bool} {c : Int} {r : List Int} (h : f c = false) : cH f (c :: r) = (0, c :: r) := by simp [cH, h]
theorem EH (l : List Nd) (k : Int) (r : List Int) : (∃ c r', r = c :: r' ∧ G8 l k r = (true, r') ∧ cH (fun c => kindOf l c == k) r = ((cH (fun c => kindOf l c == k) r').1 + 1, (cH (fun c => kindOf l c == k) r').2)) ∨ (G8 l k r = (false, r) ∧ cH (fun c => kindOf l c == k) r = (0, r)) := by
 cases r with
 | nil => exact .inr ⟨rfl, rfl⟩
 | cons c r =>
  by_cases h : kindOf l c = k
  · exact .inl ⟨c, r, rfl, by simp [G8, h], uM (by simp [h])⟩
  · exact .inr ⟨by simp [G8, h], uL (by simp [h])⟩
theorem G9 (l : List Nd) (g : Nat) (r : List Int) : (∃ c r', r = c :: r' ∧ ofG l g r = (true, r') ∧ cH (fun c => bw g (kindOf l c)) r = ((cH (fun c => bw g (kindOf l c)) r').1 + 1, (cH (fun c => bw g (kindOf l c)) r').2)) ∨ (ofG l g r = (false, r) ∧ cH (fun c => bw g (kindOf l c)) r = (0, r)) := by
 cases r with
 | nil => exact .inr ⟨rfl, rfl⟩
 | cons c r =>
  cases h : bw g (kindOf l c) with
  | true => exact .inl ⟨c, r, rfl, by simp [ofG, h], uM (by simp [h])⟩
  | false => exact .inr ⟨by simp [ofG, h], uL (by simp [h])⟩
end Kiln
namespace Go.Proofs.YtbchkldhnjahaaaGreatDoor
open Go.RowKit Kiln
open Go.Proofs
theorem KSt.form {w1 w : World} {q : Nat} {lv : Value} {ks : List Int} (h : KSt w1 w q lv ks) : ks.length ≤ 9223372036854775807 := by
 obtain ⟨iv, _, a, cap, _, h1, h2, _⟩ := h.blk;unfold maxLen at h2;omega
theorem wo {w1 w : World} {q : Nat} {lv : Value} {l : List Nd} {ks : List Int} (g : Nat) (hg : g ≤ 7) (HN : NdT w1 lv l) (hk : KSt w1 w q lv ks) (hr : ∀ k ∈ ks, 0 ≤ k ∧ k < (l.length : Int)) :
 Calls Tryz.prog 112 #[.pointer (some ⟨q, 0, none⟩), .int .i64 g] w (MC w1 q lv (ofG l g ks)) := by
 have HK := κ hk;obtain ⟨a, cap, hi, -, c1, hf⟩ := hk.reads;cases ks with
 | nil =>
  clear hi hk hf;go_enter Tryz.func112, Tryz.ntmps112;go_wp2_with fail;go_ret;exact ⟨rfl, HK⟩
 | cons c r =>
  have hd0 : (((c :: r).length : Int) == 0) = false := by rw [ξY]; simp only [ξ2]; omega
  have c1' : w.cell? ⟨q, 1, none⟩ = some (.slice a (r.length + 1) cap) := c1;have f1 := hf 1;obtain ⟨kd, hkd⟩ : ∃ kd, kindOf l c = kd := ⟨_, rfl⟩;have hnx := κ (wu HN hk hr);clear hi hk hf c1;obtain ⟨B, hB⟩ : ∃ B, bw g kd = B := ⟨_, rfl⟩;have HMB := κ hB;have HKD := κ hkd;clear hB hkd;go_enter Tryz.func112, Tryz.ntmps112;go_wp2_with fail;refine hnx.out.mono ?_;rintro e w2 ⟨rfl, hk2⟩;rw [show nextK l (c :: r) = kd from HKD.out];have HK2 := κ hk2;clear hk2;go_wp2_with fail;refine (CC g kd w2 hg).mono ?_;rintro e w3 ⟨rfl, rfl⟩;rw [HMB.out];cases B with
  | false =>
   have HP := κ (show ofG l g (c :: r) = (false, c :: r) by simp [ofG, HKD.out, HMB.out]);go_wp2_with fail;go_ret;exact ⟨by rw [HP.out]; rfl, by rw [HP.out]; exact HK2.out⟩
  | true =>
   have HP := κ (show ofG l g (c :: r) = (true, r) by simp [ofG, HKD.out, HMB.out]);obtain ⟨a, cap, hi, -, c1, hf⟩ := HK2.reads;have c1' : w3.cell? ⟨q, 1, none⟩ = some (.slice a (r.length + 1) cap) := c1;have f1 := hf 1;have hs := Aq a r.length cap;have HI := κ (Ints.tail hi);obtain ⟨sa, scap, hsv⟩ : ∃ sa scap, sliced a 1 (r.length + 1) cap 1 = .slice sa r.length scap := ⟨_, _, rfl⟩;rw [hsv] at hs HI;clear hsv hi c1 hf;go_wp2_with fail;go_ret;exact ⟨by rw [HP.out]; rfl, by rw [HP.out]; exact HK2.set HI.out⟩
theorem dK {p : Prop} (h : p := by
 rw [ho] at hk2 ⊢;rw [hs] at hm;have HM := κ hm;have HK2 := κ hk2;clear hm hk2 hs ho;simp only [ξ2] at hn;go_wp2_with fail;go_roundg (r'.length + 1)
 case measure => simp
 case rel => exact ⟨n + 1, r', _, rfl, rfl, rfl, fun c hc => HSUB.out c (ξA _ hc), HK2.out, by omega, by rw [HM.out, Nat.add_assoc, Nat.add_comm 1]⟩
 ) : p := h
theorem GK {w1 w : World} {q : Nat} {lv : Value} {l : List Nd} {ks : List Int} (k : Int) (least : Int) (HN : NdT w1 lv l) (hk : KSt w1 w q lv ks) (hr : ∀ k ∈ ks, 0 ≤ k ∧ k < (l.length : Int)) (hk0 : k ≠ 0) :
 Calls Tryz.prog 113 #[.pointer (some ⟨q, 0, none⟩), .int .i64 k, .int .i64 least] w fun e w' => e = .returned (.bool (eZ l k least ks)) ∧ Below w1.heap.size w1 w' := by
 have HK := κ hk;have HRR := κ hr;have HLN := κ hk.form;have HX : RowKit.Hid (∀ n r, cH (fun c => kindOf l c == k) ks = (n, r) → eZ l k least ks = (decide (least ≤ (n : Int)) && r.isEmpty)) := fun n r h => by unfold eZ; rw [h]
 clear hk hr;go_enter Tryz.func113, Tryz.ntmps113;go_wp2_with fail;go_loopg [7] (ks.length + 1) (fun g v wr => ∃ (n : Nat) (r : List Int) (wx : World), wx = wr ∧ v = .int .i64 (n : Nat) ∧ r.length + 1 = g ∧ (∀ c ∈ r, c ∈ ks) ∧ KSt w1 wr q lv r ∧ n + r.length = ks.length ∧ cH (fun c => kindOf l c == k) ks = ((cH (fun c => kindOf l c == k) r).1 + n, (cH (fun c => kindOf l c == k) r).2))
 case atStart => exact ⟨0, ks, _, rfl, rfl, rfl, fun _ h => h, HK, by omega, rfl⟩
 case round =>
  obtain ⟨n, r, wx, rfl, rfl, rfl, hsub, hkk, hn, hm⟩ := hrel;have HSUB := κ hsub;have hon := κ (JN k HN hkk (fun c hc => HRR c (hsub c hc)) hk0);have hln := HLN.out;clear hsub hkk;go_wp2_with fail;refine hon.out.mono ?_;rintro e w2 ⟨rfl, hk2⟩;clear hon;rcases EH l k r with ⟨c, r', rfl, ho, hs⟩ | ⟨ho, hs⟩
  · exact dK
  · rw [ho] at hk2 ⊢;rw [hs] at hm;have HM := κ (HX.out n r (by rw [hm, Nat.zero_add]));have HK2 := κ hk2;clear hm hk2 hs ho;by_cases hle : least ≤ (n : Int)
    · have HE := κ (wL HK2);go_wp2_with fail;refine HE.mono ?_;rintro e w3 ⟨rfl, hk3⟩;have HB := κ hk3.bel;have HX2 := κ (show eZ l k least ks = r.isEmpty by rw [HM.out]; simp [hle]);clear hk3;go_wp2_with fail;go_ret;exact ⟨by rw [HX2.out]; rfl, HB.out⟩
    · have HX2 := κ (show eZ l k least ks = false by rw [HM.out]; simp [hle]);have HB := κ HK2.bel;go_wp2_with fail;go_ret;exact ⟨by rw [HX2.out]; rfl, HB.out⟩
theorem FQ {w1 w : World} {q : Nat} {lv : Value} {l : List Nd} {ks : List Int} (g : Nat) (least : Int) (HN : NdT w1 lv l) (hk : KSt w1 w q lv ks) (hr : ∀ k ∈ ks, 0 ≤ k ∧ k < (l.length : Int)) (hk0 : g ≤ 7) :
 Calls Tryz.prog 114 #[.pointer (some ⟨q, 0, none⟩), .int .i64 g, .int .i64 least] w fun e w' => e = .returned (.bool (mI l g least ks)) ∧ Below w1.heap.size w1 w' := by
 have HK := κ hk;have HRR := κ hr;have HLN := κ hk.form;have HX : RowKit.Hid (∀ n r, cH (fun c => bw g (kindOf l c)) ks = (n, r) → mI l g least ks = (decide (least ≤ (n : Int)) && r.isEmpty)) := fun n r h => by unfold mI; rw [h]
 clear hk hr;go_enter Tryz.func114, Tryz.ntmps114;go_wp2_with fail;go_loopg [7] (ks.length + 1) (fun gg v wr => ∃ (n : Nat) (r : List Int) (wx : World), wx = wr ∧ v = .int .i64 (n : Nat) ∧ r.length + 1 = gg ∧ (∀ c ∈ r, c ∈ ks) ∧ KSt w1 wr q lv r ∧ n + r.length = ks.length ∧ cH (fun c => bw g (kindOf l c)) ks = ((cH (fun c => bw g (kindOf l c)) r).1 + n, (cH (fun c => bw g (kindOf l c)) r).2))
 case atStart => exact ⟨0, ks, _, rfl, rfl, rfl, fun _ h => h, HK, by omega, rfl⟩
 case round =>
  obtain ⟨n, r, wx, rfl, rfl, rfl, hsub, hkk, hn, hm⟩ := hrel;have HSUB := κ hsub;have hon := κ (wo g hk0 HN hkk (fun c hc => HRR c (hsub c hc)));have hln := HLN.out;clear hsub hkk;go_wp2_with fail;refine hon.out.mono ?_;rintro e w2 ⟨rfl, hk2⟩;clear hon;rcases G9 l g r with ⟨c, r', rfl, ho, hs⟩ | ⟨ho, hs⟩
  · exact dK
  · rw [ho] at hk2 ⊢;rw [hs] at hm;have HM := κ (HX.out n r (by rw [hm, Nat.zero_add]));have HK2 := κ hk2;clear hm hk2 hs ho;by_cases hle : least ≤ (n : Int)
    · have HE := κ (wL HK2);go_wp2_with fail;refine HE.mono ?_;rintro e w3 ⟨rfl, hk3⟩;have HB := κ hk3.bel;have HX2 := κ (show mI l g least ks = r.isEmpty by rw [HM.out]; simp [hle]);clear hk3;go_wp2_with fail;go_ret;exact ⟨by rw [HX2.out]; rfl, HB.out⟩
    · have HX2 := κ (show mI l g least ks = false by rw [HM.out]; simp [hle]);have HB := κ HK2.bel;go_wp2_with fail;go_ret;exact ⟨by rw [HX2.out]; rfl, HB.out⟩
end Go.Proofs.YtbchkldhnjahaaaGreatDoor
namespace Go.Proofs.YtbchkldhnjahaaaGreatDoor
open Go Go.ChangeShapes Go.WideShapes Go.ChangeAt Go.RowKit
theorem Ni : ownKnob Tryz.prog.godebug = none := by kernel_rfl
def laid5 : List (String × DataW Unit) := [("math/bits.deBruijn32tab", Rows.laid_math_bits_deBruijn32tab), ("math/bits.deBruijn64tab", Rows.laid_math_bits_deBruijn64tab), ("internal/strconv.uint64pow10", Rows.laid_internal_strconv_uint64pow10), ("strconv.ErrRange", Rows.laid_strconv_ErrRange), ("strconv.ErrSyntax", Rows.laid_strconv_ErrSyntax)]
theorem Nb : Tryz.prog.globalNamed "strconv.ErrSyntax" = some 1 := by kernel_rfl
theorem Hy : (Tryz.prog.globals[1]?).map (·.type) = some 133 := by kernel_rfl
theorem KG : Tryz.prog.cellsOf 237 = 1 := by kernel_rfl
theorem Ik : Tryz.prog.cellsOf 9 = 1 := by kernel_rfl
theorem IG : "*" ++ "errors.errorString" = "*errors.errorString" := by decide
theorem MN (u : TypeId) (h : Tryz.prog.typeName? 3 u = some "*errors.errorString") : u = 235 :=
 typeName_ptr_named (nm := "errors.errorString") (by rw [IG]; kernel_rfl) (by kernel_rfl) (by decide) u (by rw [IG]; exact h)
theorem MW {W : World} (h : laidMetH Tryz.prog laid5 W) (hsh : W.ShapedOpen Tryz.prog) : Gl W := by
 rw [MakeChecks.laidMetH_plain _ _ _ (by kernel_rfl)] at h;refine ⟨?_, ?_⟩
 · exact Go.Proofs.cell_of_shapedOpen_int (zero := #[.int .i64 0]) (t := 3) hsh (of_decide_eq_true (by kernel_rfl)) (by kernel_rfl) rfl (by kernel_rfl) (by kernel_rfl) Tryz.underlying3
 · obtain ⟨a, s, hv, _, _, _⟩ := laid_sentinel h.tail.tail.tail.tail Nb Hy Tryz.underlying133 MN Tryz.underlying235 Tryz.underlying237 rfl rfl Tryz.underlying9 KG Ik;exact ⟨_, by simpa using World.var?_cell Nb hv 0, .inr ⟨_, _, rfl⟩⟩
theorem H9 (os : Os) (args : Array Value) : laidMetH Tryz.prog laid5 ((World.doorLaid Tryz.prog 100 os).forCall (fun _ _ => 0) ⟨#[], args, []⟩).memory :=
 laidMetH_of_parts3 (fuel := 8) (laidMet_of_run' 8 (by kernel_rfl) (by kernel_rfl)) (by kernel_rfl) (by kernel_rfl)
end Go.Proofs.YtbchkldhnjahaaaGreatDoor
namespace Go.Proofs.YtbchkldhnjahaaaGreatDoor
open Go Go.ChangeShapes Go.WideShapes Go.RowKit Kiln
section
variable {H : Type} {enc : TypeId × Value → H} {W : World} {sp : Nat → Bool} {held : Bool}
theorem Il : Tryz.prog.cellsOf 3 = 1 := by kernel_rfl
instance : Inhabited Nd := ⟨⟨0, [], [], [], 0, 0⟩⟩
end
theorem xK : laidOutB Tryz.prog = true := by kernel_rfl
end Go.Proofs.YtbchkldhnjahaaaGreatDoor
namespace Go.Proofs.YtbchkldhnjahaaaGreatDoor
open Go.RowKit Kiln
open Go.Proofs
open Go.ChangeMaps (setBlock)
def zK (i k : Int) : Value := .agg #[.int .i64 i, .int .i64 k]
def ED (i k : Int) : Lit := .string (keyBytes [.int .i64 i, .int .i64 k])
def yG (i : Int) : Prop := (Lit.int .i64 i).wf = true
theorem yU : Tryz.prog.cellsOf 84 = 2 := by kernel_rfl
theorem EA : (match Tryz.prog.underlying 84 with | some (.array _ _) | some (.struct _) => true | _ => false) = true := by rw [Tryz.underlying84]
theorem G3 : (84 : TypeId) < Tryz.prog.types.size := of_decide_eq_true (by kernel_rfl)
theorem JJ : Tryz.prog.keyTypeAt 2 84 = true := by kernel_rfl
theorem qy : WideMaps.KeyLaw Tryz.prog 84 := deep_law_laid xK (m := 2) (by omega) G3 JJ EA
theorem mg : Maps.Keyed Tryz.prog 84 := Maps.Keyed.of_law qy
theorem xX : Tryz.prog.keyType 84 = true := by kernel_rfl
theorem types_size : ∃ m, Tryz.prog.types.size = m + 1 := ⟨Tryz.prog.types.size - 1, by kernel_rfl⟩
theorem qA (i k : Int) (hi : yG i) (hk : yG k) : keyOf Tryz.prog 84 (zK i k) = some (ED i k) := by
 unfold yG at hi hk;obtain ⟨m, hm⟩ := types_size;unfold keyOf zK;simp only [Tryz.underlying84];rw [ψi (by simp [xX, Value.formed, Tryz.underlying84, yU]), hm];unfold Program.keyLits;simp only [Tryz.underlying84, Value.cells];rw [ψi (by rw [yU]; exact ⟨rfl, by simp⟩)];simp [List.mapM_cons, Il, Program.keyLits, Tryz.underlying3, hi, hk, ED]
def PrS (w : World) (bm n : Nat) (cnt : Int → Int → Nat) : Prop := ∃ D : DataW Unit, w.ownsMap Tryz.prog 84 (plainElem Tryz.prog 3) bm n D ∧ ∀ i k, yG i → yG k → D.atKey (ED i k) (.lit (.int .i64 0)) = .lit (.int .i64 (cnt i k))
theorem qB (w : World) : (zeroValue 3).run Tryz.prog w = .ok (.int .i64 0) w := by kernel_rfl
theorem PrS.made (w : World) : PrS (w.alloc (.map #[] 0)) w.heap.size 0 (fun _ _ => 0) := ⟨_, World.ownsMap_made w _ _ _, fun _ _ _ _ => rfl⟩
theorem PrS.look {w : World} {bm n : Nat} {cnt : Int → Int → Nat} (h : PrS w bm n cnt) {i k : Int} (hi : yG i) (hk : yG k) :
 (Instr.lookup 82 (.map (some bm)) (zK i k) false).run Tryz.prog w = .ok (.int .i64 (cnt i k)) w := by
 obtain ⟨D, ho, hD⟩ := h;obtain ⟨c, hrun, hat, _⟩ := ho.lookup_int mg Tryz.underlying82 Tryz.underlying3 (qB w) (qA i k hi hk);rw [hD i k hi hk] at hat;simp only [DataW.lit.injEq, Lit.int.injEq, true_and] at hat;rw [hrun, hat]
theorem PrS.keep {w w' : World} {bm n : Nat} {cnt : Int → Int → Nat} (h : PrS w bm n cnt) (hk : w'.heap[bm]? = w.heap[bm]?) : PrS w' bm n cnt := by
 obtain ⟨D, ⟨es, clock, hb, F, hs, hD⟩, hc⟩ := h;exact ⟨D, ⟨es, clock, hk.trans hb, F, hs, hD⟩, hc⟩
theorem PrS.lt {w : World} {bm n : Nat} {cnt : Int → Int → Nat} (h : PrS w bm n cnt) : bm < w.heap.size := by
 obtain ⟨D, ho, _⟩ := h;exact ho.lt
def pairs (S : List (Int × Int)) : List Value := S.flatMap fun p => [.int .i64 p.1, .int .i64 p.2]
theorem jf (S : List (Int × Int)) : (pairs S).length = S.length * 2 := by
 induction S with
 | nil => rfl
 | cons p S ih => simp only [pairs, List.flatMap_cons, ξ1, ξ2, ξ5] at ih ⊢; omega
theorem nO (S T : List (Int × Int)) : pairs (S ++ T) = pairs S ++ pairs T := by simp [pairs]
def qL (B : Nat) (w : World) (v : Value) (S : List (Int × Int)) : Prop := w.ownsRow B 84 2 v S.length (pairs S)
theorem qL.lt {B : Nat} {w : World} {v : Value} {S : List (Int × Int)} (h : qL B w v S) : ∀ k, v.ownBlock = some k → B ≤ k ∧ k < w.heap.size := World.ownsRow.lt h
theorem qL.keep {B : Nat} {w w' : World} {v : Value} {S : List (Int × Int)} (h : qL B w v S) (hk : BQ w w' v) : qL B w' v S := cE h hk
theorem qL.below {B : Nat} {w w' : World} {v : Value} {S : List (Int × Int)} (h : qL B w v S) (hb : Below w.heap.size w w') : qL B w' v S := h.keep fun k e => hb.block k (h.lt k e).2
theorem qL.form {B : Nat} {w : World} {v : Value} {S : List (Int × Int)} (h : qL B w v S) : ∃ a cap, v = .slice a S.length cap := qw h
theorem qL.one {B : Nat} {w : World} (i k : Int) (hB : B ≤ w.heap.size) : qL B (w.alloc (.cells #[.int .i64 i, .int .i64 k] 84)) (.slice (some ⟨w.heap.size, 0, none⟩) 1 1) [(i, k)] :=
 ⟨by simp [pairs], .inr ⟨w.heap.size, 1, _, rfl, hB, ψe w _, ξF _, by simp [maxLen], by simp, by simp [pairs]⟩⟩
theorem qL.top {B : Nat} {w : World} {v : Value} {S : List (Int × Int)} {p : Int × Int} (h : qL B w v (S ++ [p])) : ∃ g cap, v = .slice (some ⟨g, 0, none⟩) (S.length + 1) cap ∧ S.length + 1 ≤ cap ∧ cap ≤ maxLen ∧
 w.cell? ⟨g, S.length * 2, none⟩ = some (.int .i64 p.1) ∧ w.cell? ⟨g, S.length * 2 + 1, none⟩ = some (.int .i64 p.2) ∧ qL B w (.slice (some ⟨g, 0, none⟩) S.length cap) S := by
 have hl : (S ++ [p]).length = S.length + 1 := by simp
 rcases id h.2 with ⟨_, h0⟩ | ⟨g, cap, cur, hv, hb, hg, hle, hm, hs, hx⟩
 · simp at h0
 · rw [hl] at hv hle hx;subst hv;have hc : ∀ (j : Nat) u, (pairs (S ++ [p]))[j]? = some u → w.cell? ⟨g, j, none⟩ = some u := fun j u hu => by
    have := World.ownsRow.cells h (g := g) rfl j u hu;rwa [iA] at this
   refine ⟨g, cap, rfl, hle, hm, hc _ _ ?_, hc _ _ ?_, jf S, .inr ⟨g, cap, cur, rfl, hb, hg, by omega, hm, hs, ?_⟩⟩
   · rw [nO, ξt (by rw [jf]; omega), jf]; simp [pairs]
   · rw [nO, ξt (by rw [jf]; omega), jf]; simp [pairs]
   · rw [nO] at hx;have h2 := congrArg (List.take (S.length * 2)) hx;have h3 : (pairs S ++ pairs [p]).take (S.length * 2) = pairs S := by
      rw [List.take_append_of_le_length (by rw [jf]; exact ξF _)];exact List.take_of_length_le (by rw [jf]; exact ξF _)
     rw [List.take_take, ξK (by omega), h3] at h2;exact h2
theorem DX {w : World} {a : Option Addr} {n cap : Nat} {l : List Bytes} (h : Strs w (.slice a n cap) l) {i : Nat} {x : Bytes} (hi : l[i]? = some x) : ∃ b off, a = some ⟨b, off, none⟩ ∧ w.cell? ⟨b, off + i, none⟩ = some (str x) := by
 obtain ⟨a', cap', hv, -, hl⟩ := h;simp only [ξR] at hv;obtain ⟨rfl, -, -⟩ := hv;obtain ⟨b, off, rfl, hx⟩ := hl (by rintro rfl; simp at hi);exact ⟨b, off, rfl, hx i x hi⟩
theorem MS {α : Type} {a b : List α} {i : Nat} {x y : α} (ha : a[i]? = some x) (hb : b[i]? = some y) (h : x ≠ y) : a ≠ b := by
 rintro rfl;rw [ha] at hb;exact h (Option.some.inj hb)
theorem DV {α : Type} {a b : List α} {i : Nat} {x : α} (h : a.take i = b.take i) (ha : a[i]? = some x) (hb : b[i]? = some x) : a.take (i + 1) = b.take (i + 1) := by
 rw [qW ha, qW hb, h]
theorem NN (x : Bytes) : ((⟨x.toArray⟩ : ByteArray) == ⟨x.toArray⟩) = true := (MapKept.bytes_beq _ _).2 rfl
theorem Lr (w : World) (av bv : Value) (a b : List Int) (ha : Ints w av a) (hb : Ints w bv b) :
 Calls Tryz.prog 35 #[av, bv] w fun e w' => e = .returned (.bool (a == b)) ∧ ∃ m, w' = w.drewN m := by
 have HA := κ ha;have HB := κ hb;obtain ⟨aa, acap, rfl, hac, ham, -⟩ := ha;obtain ⟨ba, bcap, rfl, hbc, hbm, -⟩ := hb;unfold maxLen at ham hbm;by_cases hlen : a.length = b.length
 · have q0 : ((a.length : Int) != (b.length : Int)) = false := by rw [hlen]; simp
   go_enter Tryz.func35, Tryz.ntmps35;go_wp2_with fail;have HLE := κ hlen;clear hlen q0;go_loopg [5] (a.length + 1) (fun g v wr => ∃ (t : Nat) (wx : World), wx = wr ∧ v = .int .i64 (t : Nat) ∧ t + g = a.length + 1 ∧ t ≤ a.length ∧ a.take t = b.take t ∧ ∃ m, wr = w.drewN m)
   case atStart => exact ⟨0, _, rfl, rfl, by omega, ξM _, by simp, 0, rfl⟩
   case round =>
    obtain ⟨t, wx, rfl, rfl, hg, ht, hab, m, hbx⟩ := hrel;have HBX := κ hbx;have hce : ∀ ad, wx.cell? ad = w.cell? ad := fun ad => by rw [hbx]; rfl
    have HAB := κ hab;clear hab;by_cases hlt : t < a.length
    · obtain ⟨x, hx⟩ : ∃ x, a[t]? = some x := ⟨_, ξw hlt⟩;obtain ⟨y, hy⟩ : ∃ y, b[t]? = some y := ⟨_, ξw (by have := HLE.out; omega)⟩;obtain ⟨fu, rfl⟩ : ∃ fu, gk = fu + 1 := ⟨gk - 1, by omega⟩;obtain ⟨ab, aoff, rfl, hc1⟩ := ints_at HA hx;obtain ⟨bb, boff, rfl, hc2⟩ := ints_at HB hy;have e1 : wx.cell? ⟨ab, aoff + t, none⟩ = some (.int .i64 x) := (hce _).trans hc1;have e2 : wx.cell? ⟨bb, boff + t, none⟩ = some (.int .i64 y) := (hce _).trans hc2;have hti : (t : Int) < (a.length : Int) := by omega
      have hti2 : (t : Int) < (b.length : Int) := by have := HLE.out; omega
      have HX := κ hx;have HY := κ hy;clear hc1 hc2 hx hy hbx hce;by_cases hxy : x = y
      · subst hxy;have q1 : (x != x) = false := by simp
        go_wp2_with fail;go_quiet (fail);go_wp2_with fail;go_roundg fu
        case measure => omega
        case rel => exact ⟨t + 1, _, rfl, rfl, by omega, by omega, DV HAB.out HX.out HY.out, m + nq, by rw [HBX.out, World.drewN_drewN]⟩
      · have q1 : (x != y) = true := by rw [ψa]; exact hxy
        have HN := κ (show (a == b) = false by rw [ξY]; exact MS HX.out HY.out hxy);go_wp2_with fail;go_quiet (fail);go_wp2_with fail;go_ret;exact ⟨by rw [HN.out]; rfl, m + nq, by rw [HBX.out, World.drewN_drewN]⟩
    · obtain rfl : t = a.length := by omega
      have HE : RowKit.Hid ((a == b) = true) := by
       show _ = _;have h1 := HAB.out;rw [List.take_length, HLE.out, List.take_length] at h1;rw [ξZ]; exact h1
      clear hbx hce;go_wp2_with fail;go_ret;exact ⟨by rw [HE.out]; rfl, m, HBX.out⟩
 · have q0 : ((a.length : Int) != (b.length : Int)) = true := by rw [ψa]; omega
   have HN := κ (show (a == b) = false by rw [ξY]; rintro rfl; exact hlen rfl);clear hlen;go_enter Tryz.func35, Tryz.ntmps35;go_wp2_with fail;go_ret;exact ⟨by rw [HN.out]; rfl, 0, rfl⟩
theorem sj (w : World) (av bv : Value) (a b : List Bytes) (ha : Strs w av a) (hb : Strs w bv b) (hbm : b.length ≤ 9223372036854775807) :
 Calls Tryz.prog 34 #[av, bv] w fun e w' => e = .returned (.bool (a == b)) ∧ ∃ m, w' = w.drewN m := by
 have HA := κ ha;have HB := κ hb;obtain ⟨aa, acap, rfl, hac, -⟩ := ha;obtain ⟨ba, bcap, rfl, hbc, -⟩ := hb;by_cases hlen : a.length = b.length
 · have q0 : ((a.length : Int) != (b.length : Int)) = false := by rw [hlen]; simp
   go_enter Tryz.func34, Tryz.ntmps34;go_wp2_with fail;have HLE := κ hlen;clear hlen q0;go_loopg [5] (a.length + 1) (fun g v wr => ∃ (t : Nat) (wx : World), wx = wr ∧ v = .int .i64 (t : Nat) ∧ t + g = a.length + 1 ∧ t ≤ a.length ∧ a.take t = b.take t ∧ ∃ m, wr = w.drewN m)
   case atStart => exact ⟨0, _, rfl, rfl, by omega, ξM _, by simp, 0, rfl⟩
   case round =>
    obtain ⟨t, wx, rfl, rfl, hg, ht, hab, m, hbx⟩ := hrel;have HBX := κ hbx;have hce : ∀ ad, wx.cell? ad = w.cell? ad := fun ad => by rw [hbx]; rfl
    have HAB := κ hab;clear hab;by_cases hlt : t < a.length
    · obtain ⟨x, hx⟩ : ∃ x, a[t]? = some x := ⟨_, ξw hlt⟩;obtain ⟨y, hy⟩ : ∃ y, b[t]? = some y := ⟨_, ξw (by have := HLE.out; omega)⟩;obtain ⟨fu, rfl⟩ : ∃ fu, gk = fu + 1 := ⟨gk - 1, by omega⟩;obtain ⟨ab, aoff, rfl, hc1⟩ := DX HA hx;obtain ⟨bb, boff, rfl, hc2⟩ := DX HB hy;have e1 : wx.cell? ⟨ab, aoff + t, none⟩ = some (str x) := (hce _).trans hc1;have e2 : wx.cell? ⟨bb, boff + t, none⟩ = some (str y) := (hce _).trans hc2;have hti : (t : Int) < (a.length : Int) := by omega
      have hti2 : (t : Int) < (b.length : Int) := by have := HLE.out; omega
      have HX := κ hx;have HY := κ hy;clear hc1 hc2 hx hy hbx hce;by_cases hxy : x = y
      · subst hxy;have q1 := NN x;have q2 : ((⟨x.toArray⟩ : ByteArray) != ⟨x.toArray⟩) = false := by rw [bne, q1]; rfl
        go_wp2_with fail;go_quiet (fail);go_wp2_with fail;go_roundg fu
        case measure => omega
        case rel => exact ⟨t + 1, _, rfl, rfl, by omega, by omega, DV HAB.out HX.out HY.out, m + nq, by rw [HBX.out, World.drewN_drewN]⟩
      · have q1 : (x == y) = false := by rw [ξY]; exact hxy
        have HN := κ (show (a == b) = false by rw [ξY]; exact MS HX.out HY.out hxy);go_wp2_with fail;go_quiet (fail);go_wp2_with fail;go_ret;exact ⟨by rw [HN.out]; rfl, m + nq, by rw [HBX.out, World.drewN_drewN]⟩
    · obtain rfl : t = a.length := by omega
      have HE : RowKit.Hid ((a == b) = true) := by
       show _ = _;have h1 := HAB.out;rw [List.take_length, HLE.out, List.take_length] at h1;rw [ξZ]; exact h1
      clear hbx hce;go_wp2_with fail;go_ret;exact ⟨by rw [HE.out]; rfl, m, HBX.out⟩
 · have q0 : ((a.length : Int) != (b.length : Int)) = true := by rw [ψa]; omega
   have HN := κ (show (a == b) = false by rw [ξY]; rintro rfl; exact hlen rfl);clear hlen;go_enter Tryz.func34, Tryz.ntmps34;go_wp2_with fail;go_ret;exact ⟨by rw [HN.out]; rfl, 0, rfl⟩
end Go.Proofs.YtbchkldhnjahaaaGreatDoor
namespace Kiln
def Iz (a b : List Nd) (R : Int → Int → Prop) (i k : Int) : Prop := ∃ x y, nodeAt a i = some x ∧ nodeAt b k = some y ∧ x.kind = y.kind ∧ x.text = y.text ∧ x.path = y.path ∧ x.kids.length = y.kids.length ∧
 ∀ (j : Nat) p q, x.kids[j]? = some p → y.kids[j]? = some q → p < i ∧ q < k ∧ R p q
theorem Iz.mono {a b : List Nd} {R R' : Int → Int → Prop} {i k : Int} (h : Iz a b R i k) (hr : ∀ p q, R p q → R' p q) : Iz a b R' i k := by
 obtain ⟨x, y, h1, h2, h3, h4, h5, h6, h7⟩ := h;exact ⟨x, y, h1, h2, h3, h4, h5, h6, fun j p q hp hq => let ⟨u, v, z⟩ := h7 j p q hp hq; ⟨u, v, hr _ _ z⟩⟩
structure SI (a b : List Nd) (i k : Int) (B : Bool) (S : List (Int × Int)) (cnt : Int → Int → Nat) : Prop where
 ok : B = true → ∀ p ∈ S, oU a b p.1 p.2
 met : ∀ i' k', cnt i' k' ≠ 0 → Iz a b (fun p q => cnt p q ≠ 0 ∨ (p, q) ∈ S) i' k'
 root : cnt i k ≠ 0 ∨ (i, k) ∈ S
 depth : ∀ (s : Nat) p, S[s]? = some p → 0 ≤ p.1 → s ≤ iE a (p.1.toNat + 1)
 len : S.length ≤ iE a 0 + 1
theorem SI.done {a b : List Nd} {i k : Int} {B : Bool} {cnt : Int → Int → Nat} (h : SI a b i k B [] cnt) : oU a b i k :=
 kF (M := fun p q => cnt p q ≠ 0) (fun p q hpq => by
  obtain ⟨x, y, h1, h2, h3, h4, h5, h6, h7⟩ := h.met p q hpq;exact ⟨x, y, h1, h2, h3, h4, h5, h6, fun j u v hu hv => let ⟨z1, z2, z3⟩ := h7 j u v hu hv; ⟨z1, z2, z3.resolve_right (by simp)⟩⟩) (i.toNat + 1) i k (by omega) (h.root.resolve_right (by simp))
end Kiln
namespace Go.Proofs.YtbchkldhnjahaaaGreatDoor
open Go.RowKit Kiln
open Go.Proofs
theorem wQ (cnt : Int → Int → Nat) (i k p q : Int) (h : cnt p q ≠ 0) : gG cnt i k p q ≠ 0 := by
 unfold gG; split
 · omega
 · exact h
theorem Dc (cnt : Int → Int → Nat) (i k : Int) : gG cnt i k i k = cnt i k + 1 := by simp [gG]
theorem sV (cnt : Int → Int → Nat) {i k p q : Int} (h : ¬ (p = i ∧ q = k)) : gG cnt i k p q = cnt p q := by unfold gG; rw [ψh h]
theorem SI.push {a b : List Nd} {i k i' k' : Int} {B : Bool} {S : List (Int × Int)} {cnt : Int → Int → Nat} {x y : Nd} (h : SI a b i k B (S ++ [(i', k')]) cnt) (hx : nodeAt a i' = some x) (hy : nodeAt b k' = some y)
 (e1 : x.kind = y.kind) (e2 : x.text = y.text) (e3 : x.path = y.path) (e4 : x.kids.length = y.kids.length) (hlow : ∀ (j : Nat) p q, x.kids[j]? = some p → y.kids[j]? = some q → p < i' ∧ q < k') : SI a b i k B (S ++ x.kids.zip y.kids) (gG cnt i' k') := by
 have hi' := (fI hx).1;have hxn : a[i'.toNat]? = some x := by unfold nodeAt at hx; rw [ψi hi'] at hx; exact hx
 have hzip : ∀ (j : Nat) p q, x.kids[j]? = some p → y.kids[j]? = some q → (p, q) ∈ x.kids.zip y.kids := fun j p q hp hq => ξB (i := j) (by rw [List.getElem?_zip_eq_some]; exact ⟨hp, hq⟩);have hR : ∀ p q, cnt p q ≠ 0 ∨ (p, q) ∈ S ++ [(i', k')] → gG cnt i' k' p q ≠ 0 ∨ (p, q) ∈ S ++ x.kids.zip y.kids := fun p q hpq => by
  rcases hpq with h1 | h1
  · exact .inl (wQ _ _ _ _ _ h1)
  · rcases ξ9.1 h1 with h1 | h1
    · exact .inr (ξ9.2 (.inl h1))
    · simp only [ξC, ξP] at h1;obtain ⟨rfl, rfl⟩ := h1;exact .inl (by rw [Dc]; omega)
 have hdep : S.length ≤ iE a (i'.toNat + 1) := h.depth S.length (i', k') (by rw [ξt (ξF _)]; simp) hi';have hsum := pK hxn;refine ⟨fun hb p hp => ?_, fun p q hpq => ?_, hR _ _ h.root, fun s p hs hp0 => ?_, ?_⟩
 · rcases ξ9.1 hp with hp | hp
   · exact h.ok hb p (ξ9.2 (.inl hp))
   · obtain ⟨x', y', hx', hy', -, -, -, -, hk⟩ := (h.ok hb (i', k') (ξ9.2 (.inr (by simp)))).head;rw [hx] at hx'; rw [hy] at hy';simp only [ξO] at hx' hy';subst hx'; subst hy';obtain ⟨j, hj⟩ := List.mem_iff_getElem?.1 hp;rw [show p = (p.1, p.2) from rfl, List.getElem?_zip_eq_some] at hj;exact (hk j p.1 p.2 hj.1 hj.2).2.2
 · by_cases he : p = i' ∧ q = k'
   · obtain ⟨rfl, rfl⟩ := he;exact ⟨x, y, hx, hy, e1, e2, e3, e4, fun j u v hu hv => ⟨(hlow j u v hu hv).1, (hlow j u v hu hv).2, .inr (ξ9.2 (.inr (hzip j u v hu hv)))⟩⟩
   · rw [sV cnt he] at hpq;exact (h.met p q hpq).mono hR
 · by_cases hsl : s < S.length
   · rw [ξs hsl] at hs;exact h.depth s p (by rw [ξs hsl]; exact hs) hp0
   · rw [ξt (by omega)] at hs;have hsz := (ξz.1 hs).1;rw [List.length_zip] at hsz;rw [show p = (p.1, p.2) from rfl, List.getElem?_zip_eq_some] at hs;have h1 := (hlow _ p.1 p.2 hs.1 hs.2).1;have h2 := pO a (i := p.1.toNat + 1) (j := i'.toNat) (by omega);omega
 · have h2 := pO a (i := 0) (j := i'.toNat) (by omega);rw [ξ1, List.length_zip];omega
end Go.Proofs.YtbchkldhnjahaaaGreatDoor
namespace Kiln
def AL (ts : List Tok) : Except Nat (Nat × PS) := if ts.all cL then (match eY ts (iV ts 1001) ps0 with
 | .ok x => .ok x
 | .error (.stop _ _ k) => .error k
 | .error .out => .error 1) else .error 1
theorem Du (ts : List Tok) (ln col : Int) : (ts.map (zJ ln col)).all cL = ts.all cL := by
 rw [List.all_map]; rfl
theorem JK {ts : List Tok} (hp : ∀ t ∈ ts, t.path.length ≤ 1099511627776) (ln col : Int) : match AL ts with
 | .ok x => (∃ s', AL (ts.map (zJ ln col)) = .ok (x.1, s') ∧ s'.nodes.length = x.2.nodes.length ∧ oU x.2.nodes s'.nodes x.1 x.1) ∧ lT x.2.nodes ∧ x.1 < x.2.nodes.length ∧ x.2.nodes.length ≤ 262144 ∧ ∀ n ∈ x.2.nodes, n.kids.length ≤ 262154 ∧ n.path.length ≤ 1099511627776
 | .error k => AL (ts.map (zJ ln col)) = .error k ∧ k ≠ 0 := by
 unfold AL;rw [Du];cases hw : ts.all cL with
 | false => exact ⟨rfl, by decide⟩
 | true =>
  simp only [↓reduceIte];cases h : eY ts (iV ts 1001) ps0 with
  | error e =>
   cases e with
   | out => exact (Ak hw hp h).elim
   | stop l c k =>
    obtain ⟨l', c', h', hk⟩ := zn (ln := ln) (col := col) h;rw [h'];exact ⟨rfl, hk⟩
  | ok x =>
   obtain ⟨i, s⟩ := x;obtain ⟨hg, hk, hm, hl, -⟩ := xk hw hp h;obtain ⟨s', h', h1, h2⟩ := Ca (ln := ln) (col := col) h hg hk.lt;rw [h'];exact ⟨⟨s', rfl, h1, h2⟩, hg, hk.lt, hm, hl⟩
end Kiln
namespace Go.Proofs.YtbchkldhnjahaaaGreatDoor
open Go.RowKit Kiln
open Go.Proofs
def BR (w : World) (R : Except Nat (Nat × PS)) (e : Ending) (w' : World) : Prop :=
 Below w.heap.size w w' ∧ match R with
 | .ok x => ∃ nv, e = .returned (.tuple #[nv, .int .i64 (x.1 : Nat), .int .i64 0, .int .i64 0, .int .i64 0]) ∧ NdT w' nv x.2.nodes
 | .error k => ∃ l c : Int, e = .returned (.tuple #[.slice none 0 0, .int .i64 0, .int .i64 l, .int .i64 c, .int .i64 (k : Nat)])
def F4 (w : World) (R : Option (Nat × PS)) (e : Ending) (w' : World) : Prop :=
 Below w.heap.size w w' ∧ match R with
 | some x => ∃ nv, e = .returned (.tuple #[nv, .int .i64 (x.1 : Nat), .bool true]) ∧ NdT w' nv x.2.nodes
 | none => e = .returned (.tuple #[.slice none 0 0, .int .i64 0, .bool false])
def PdV (w : World) (v : Value) (i : Int) (b : Bool) : Option (Nat × PS) → Prop
 | some x => i = (x.1 : Nat) ∧ b = true ∧ NdT w v x.2.nodes
 | none => b = false
theorem F4.val {w w' : World} {R : Option (Nat × PS)} {e : Ending} (h : F4 w R e w') : ∃ v i b, e = .returned (.tuple #[v, .int .i64 i, .bool b]) ∧ PdV w' v i b R := by
 replace h := h.2;cases R with
 | some x => obtain ⟨nv, h1, h2⟩ := h; exact ⟨_, _, _, h1, rfl, rfl, h2⟩
 | none => exact ⟨_, _, _, h, rfl⟩
def OpV (w : World) (v : Value) (i c : Int) : Except Nat (Nat × PS) → Prop
 | .ok x => i = (x.1 : Nat) ∧ c = 0 ∧ NdT w v x.2.nodes
 | .error k => v = .slice none 0 0 ∧ c = (k : Nat)
theorem BR.val {w w' : World} {R : Except Nat (Nat × PS)} {e : Ending} (h : BR w R e w') : ∃ v i l c k, e = .returned (.tuple #[v, .int .i64 i, .int .i64 l, .int .i64 c, .int .i64 k]) ∧ OpV w' v i k R := by
 replace h := h.2;cases R with
 | ok x => obtain ⟨nv, h1, h2⟩ := h; exact ⟨_, _, _, _, _, h1, rfl, rfl, h2⟩
 | error k => obtain ⟨l, c, h1⟩ := h; exact ⟨_, _, _, _, _, h1, rfl, rfl⟩
end Go.Proofs.YtbchkldhnjahaaaGreatDoor
namespace Kiln
def MJ (l : List Nd) (n : Nd) : Bool :=
 if n.kind = 31 ∨ n.kind = 1 ∨ n.kind = 10 then n.kids.isEmpty
 else if n.kind = 13 then !(n.kids.length == 1) && mI l 0 0 n.kids
 else if n.kind = 17 then (match n.kids with
  | [a, b] => bw 0 (kindOf l a) && bw 0 (kindOf l b)
  | _ => false)
 else if n.kind = 53 then (match n.kids with
  | [a, b] => bw 1 (kindOf l a) && bw 0 (kindOf l b)
  | _ => false)
 else if n.kind = 51 then eZ l 53 1 n.kids
 else if n.kind = 50 then mI l 3 0 n.kids
 else false
end Kiln
namespace Go.Proofs.YtbchkldhnjahaaaGreatDoor
open Go.RowKit Kiln
open Go.Proofs
theorem eP (q : Nat) (k : Int) (hk : k = 1 ∨ k = 10 ∨ k = 17 ∨ k = 31 ∨ k = 50 ∨ k = 51 ∨ k = 53) (t : ByteArray) (pa ka : Option Addr) (pn pc kn kc : Nat) (ln col : Int) (w : World) :
 Calls Tryz.prog 65 #[.pointer (some ⟨q, 0, none⟩), .agg #[.int .i64 k, Value.string t, .slice pa pn pc, .slice ka kn kc, .int .i64 ln, .int .i64 col]] w fun e w' => e = .returned (.bool true) ∧ Below w.heap.size w w' := by
 rcases hk with rfl | rfl | rfl | rfl | rfl | rfl | rfl;all_goals
  go_enter Tryz.func65, Tryz.ntmps65;go_wp2_with fail;go_ret;exact ⟨rfl, bQ (ξf _ _) _⟩
theorem DY (q : Nat) (t : ByteArray) (pa ka : Option Addr) (pn pc kn kc : Nat) (ln col : Int) (w : World) (hn : ((kn : Int) != 1) = true) :
 Calls Tryz.prog 65 #[.pointer (some ⟨q, 0, none⟩), .agg #[.int .i64 13, Value.string t, .slice pa pn pc, .slice ka kn kc, .int .i64 ln, .int .i64 col]] w fun e w' => e = .returned (.bool true) ∧ Below w.heap.size w w' := by
 go_enter Tryz.func65, Tryz.ntmps65;go_wp2_with fail;go_ret;exact ⟨rfl, bQ (ξf _ _) _⟩
section
variable {w1 w : World} {q : Nat} {lv : Value} {l : List Nd} {ks : List Int}
theorem Ku (HN : NdT w1 lv l) (hk : KSt w1 w q lv ks) (hr : ∀ k ∈ ks, 0 ≤ k ∧ k < (l.length : Int)) (hf : mI l 0 0 ks = true) :
 Calls Tryz.prog 68 #[.pointer (some ⟨q, 0, none⟩), .int .i64 13] w fun e w' => e = .returned (.bool true) ∧ Below w1.heap.size w1 w' := by
 have HA := κ (FQ 0 0 HN hk hr (by decide));have HF := κ hf;clear hf hk;go_enter Tryz.func68, Tryz.ntmps68;go_wp2_with fail;refine HA.mono ?_;rintro e w2 ⟨rfl, hb⟩;rw [HF.out];go_wp2_with fail;go_ret;exact ⟨rfl, hb⟩
theorem Rq {p : Prop} (h : p := by
 go_wp2_with fail;refine HA.mono ?_;rintro e w2 ⟨rfl, hk2⟩;rw [HFA.out] at hk2 ⊢;have HB := κ (wo 0 (by decide) HN hk2 (fun c hc => HRR c (ξA _ hc)));clear hk2;go_wp2_with fail;refine HB.mono ?_;rintro e w3 ⟨rfl, hk3⟩;rw [HFB.out] at hk3 ⊢;have HC := κ (wL hk3);clear hk3;go_wp2_with fail;refine HC.mono ?_;rintro e w4 ⟨rfl, hk4⟩;have HD := κ hk4.bel;clear hk4;go_wp2_with fail;go_ret;exact ⟨rfl, HD⟩
 ) : p := h
theorem Kt {a b : Int} (HN : NdT w1 lv l) (hk : KSt w1 w q lv [a, b]) (hr : ∀ k ∈ [a, b], 0 ≤ k ∧ k < (l.length : Int)) (ha : bw 0 (kindOf l a) = true) (hb : bw 0 (kindOf l b) = true) :
 Calls Tryz.prog 68 #[.pointer (some ⟨q, 0, none⟩), .int .i64 17] w fun e w' => e = .returned (.bool true) ∧ Below w1.heap.size w1 w' := by
 have HA := κ (wo 0 (by decide) HN hk hr);have HRR := κ hr;have HFA := κ (show ofG l 0 [a, b] = (true, [b]) by simp [ofG, ha]);have HFB := κ (show ofG l 0 [b] = (true, []) by simp [ofG, hb]);clear ha hb hk hr;go_enter Tryz.func68, Tryz.ntmps68;exact Rq
theorem KC (HN : NdT w1 lv l) (hk : KSt w1 w q lv ks) (hr : ∀ k ∈ ks, 0 ≤ k ∧ k < (l.length : Int)) (hf : mI l 3 0 ks = true) :
 Calls Tryz.prog 71 #[.pointer (some ⟨q, 0, none⟩), .int .i64 50] w fun e w' => e = .returned (.bool true) ∧ Below w1.heap.size w1 w' := by
 have HA := κ (FQ 3 0 HN hk hr (by decide));have HF := κ hf;clear hf hk;go_enter Tryz.func71, Tryz.ntmps71;go_wp2_with fail;refine HA.mono ?_;rintro e w2 ⟨rfl, hb⟩;rw [HF.out];go_wp2_with fail;go_ret;exact ⟨rfl, hb⟩
theorem KA (HN : NdT w1 lv l) (hk : KSt w1 w q lv ks) (hr : ∀ k ∈ ks, 0 ≤ k ∧ k < (l.length : Int)) (hf : eZ l 53 1 ks = true) :
 Calls Tryz.prog 71 #[.pointer (some ⟨q, 0, none⟩), .int .i64 51] w fun e w' => e = .returned (.bool true) ∧ Below w1.heap.size w1 w' := by
 have HA := κ (GK 53 1 HN hk hr (by decide));have HF := κ hf;clear hf hk;go_enter Tryz.func71, Tryz.ntmps71;go_wp2_with fail;refine HA.mono ?_;rintro e w2 ⟨rfl, hb⟩;rw [HF.out];go_wp2_with fail;go_ret;exact ⟨rfl, hb⟩
theorem Kz {a b : Int} (HN : NdT w1 lv l) (hk : KSt w1 w q lv [a, b]) (hr : ∀ k ∈ [a, b], 0 ≤ k ∧ k < (l.length : Int)) (ha : bw 1 (kindOf l a) = true) (hb : bw 0 (kindOf l b) = true) :
 Calls Tryz.prog 71 #[.pointer (some ⟨q, 0, none⟩), .int .i64 53] w fun e w' => e = .returned (.bool true) ∧ Below w1.heap.size w1 w' := by
 have HA := κ (wo 1 (by decide) HN hk hr);have HRR := κ hr;have HFA := κ (show ofG l 1 [a, b] = (true, [b]) by simp [ofG, ha]);have HFB := κ (show ofG l 0 [b] = (true, []) by simp [ofG, hb]);clear ha hb hk hr;go_enter Tryz.func71, Tryz.ntmps71;exact Rq
end
theorem cQ {w : World} {o : Obj} {n : Nat} (hn : n = w.heap.size) : (w.alloc o).heap[n]? = some o := by subst hn; exact ψe w o
theorem bq {w : World} {l : List Nd} {ks : List Int} {la pa ka : Option Addr} {lc pn pc kn kc : Nat} (k : Int) (t : ByteArray) (ln col : Int) (HN : NdT w (.slice la l.length lc) l) (hk : Ints w (.slice ka kn kc) ks) : ∀ W, W = w.alloc (.cells #[.int .i64 k, .string t, .slice pa pn pc, .slice ka kn kc, .int .i64 ln, .int .i64 col] 41) →
 RowKit.Hid (NdT W (.slice la l.length lc) l) ∧ RowKit.Hid (KSt W (W.alloc (.cells #[.slice la l.length lc, .slice ka kn kc] 117)) (w.heap.size + 1) (.slice la l.length lc) ks) ∧ RowKit.Hid (Below w.heap.size w W) ∧ RowKit.Hid (W.cell? ⟨w.heap.size, 0, none⟩ = some (.int .i64 k)) := by
 rintro W rfl;have hb1 : Below w.heap.size w (w.alloc (.cells #[.int .i64 k, .string t, .slice pa pn pc, .slice ka kn kc, .int .i64 ln, .int .i64 col] 41)) := bQ (ξf _ _) _;exact ⟨HN.below hb1, ⟨bQ (ξf _ _) _, by simp, _, cQ (by simp), hk.below hb1⟩, hb1, bO (ψe _ _) 0 _ rfl⟩
theorem Rs {p : Prop} (h : p := by
 rintro e w2 ⟨rfl, hb2⟩;have HK2 := κ (HK.below hb2);have e0 := cell_later hb2 (ay HE _);clear HK HE hb2;go_wp2_with fail;refine (wL HK2).mono ?_;rintro e w3 ⟨rfl, hk3⟩;have HD := κ (HB1.trans (hk3.bel.mono HB1.size));clear hk3;go_wp2_with fail;go_ret;exact ⟨rfl, HD⟩
 ) : p := h
theorem Ml {w : World} {l : List Nd} {la pa ka : Option Addr} {lc pn pc kc : Nat} (t : ByteArray) (ln col : Int) (HN : NdT w (.slice la l.length lc) l) (hk : Ints w (.slice ka 0 kc) [])  :
 Calls Tryz.prog 38 #[.slice la l.length lc, .agg #[.int .i64 1, .string t, .slice pa pn pc, .slice ka 0 kc, .int .i64 ln, .int .i64 col]] w fun e w' => e = .returned (.bool true) ∧ Below w.heap.size w w' := by
 obtain ⟨HN1, HK, HB1, HE⟩ := bq (pa := pa) (pn := pn) (pc := pc) 1 t ln col HN hk _ rfl;clear hk HN;go_enter Tryz.func38, Tryz.ntmps38;go_wp2_with fail;refine (eP (w.heap.size + 1) 1 (by decide) t pa ka pn pc 0 kc ln col _).mono ?_;exact Rs
theorem Km {w : World} {l : List Nd} {la pa ka : Option Addr} {lc pn pc kc : Nat} (t : ByteArray) (ln col : Int) (HN : NdT w (.slice la l.length lc) l) (hk : Ints w (.slice ka 0 kc) [])  :
 Calls Tryz.prog 38 #[.slice la l.length lc, .agg #[.int .i64 10, .string t, .slice pa pn pc, .slice ka 0 kc, .int .i64 ln, .int .i64 col]] w fun e w' => e = .returned (.bool true) ∧ Below w.heap.size w w' := by
 obtain ⟨HN1, HK, HB1, HE⟩ := bq (pa := pa) (pn := pn) (pc := pc) 10 t ln col HN hk _ rfl;clear hk HN;go_enter Tryz.func38, Tryz.ntmps38;go_wp2_with fail;refine (eP (w.heap.size + 1) 10 (by decide) t pa ka pn pc 0 kc ln col _).mono ?_;exact Rs
theorem Kj {w : World} {l : List Nd} {la pa ka : Option Addr} {lc pn pc kc : Nat} (t : ByteArray) (ln col : Int) (HN : NdT w (.slice la l.length lc) l) (hk : Ints w (.slice ka 0 kc) [])  :
 Calls Tryz.prog 38 #[.slice la l.length lc, .agg #[.int .i64 31, .string t, .slice pa pn pc, .slice ka 0 kc, .int .i64 ln, .int .i64 col]] w fun e w' => e = .returned (.bool true) ∧ Below w.heap.size w w' := by
 obtain ⟨HN1, HK, HB1, HE⟩ := bq (pa := pa) (pn := pn) (pc := pc) 31 t ln col HN hk _ rfl;clear hk HN;go_enter Tryz.func38, Tryz.ntmps38;go_wp2_with fail;refine (eP (w.heap.size + 1) 31 (by decide) t pa ka pn pc 0 kc ln col _).mono ?_;exact Rs
theorem Kl {w : World} {l : List Nd} {ks : List Int} {la pa ka : Option Addr} {lc pn pc kc : Nat} (t : ByteArray) (ln col : Int) (HN : NdT w (.slice la l.length lc) l) (hk : Ints w (.slice ka ks.length kc) ks) (hr : ∀ k ∈ ks, 0 ≤ k ∧ k < (l.length : Int)) (hf : mI l 0 0 ks = true) (HN13 : ((ks.length : Int) != 1) = true) :
 Calls Tryz.prog 38 #[.slice la l.length lc, .agg #[.int .i64 13, .string t, .slice pa pn pc, .slice ka ks.length kc, .int .i64 ln, .int .i64 col]] w fun e w' => e = .returned (.bool true) ∧ Below w.heap.size w w' := by
 obtain ⟨HN1, HK, HB1, HE⟩ := bq (pa := pa) (pn := pn) (pc := pc) 13 t ln col HN hk _ rfl;have HRR := κ hr;clear hk hr HN;go_enter Tryz.func38, Tryz.ntmps38;go_wp2_with fail;refine (DY (w.heap.size + 1) t pa ka pn pc ks.length kc ln col _ HN13).mono ?_;rintro e w2 ⟨rfl, hb2⟩;have HK2 := κ (HK.below hb2);have e0 := cell_later hb2 (ay HE _);clear HK HE hb2;go_wp2_with fail;refine (Ku HN1 HK2 HRR hf).mono ?_;rintro e w3 ⟨rfl, hb3⟩;have HD := κ (HB1.trans (hb3.mono HB1.size));clear hb3;go_wp2_with fail;go_ret;exact ⟨rfl, HD⟩
theorem Kk {w : World} {l : List Nd} {a b : Int} {la pa ka : Option Addr} {lc pn pc kc : Nat} (t : ByteArray) (ln col : Int) (HN : NdT w (.slice la l.length lc) l) (hk : Ints w (.slice ka 2 kc) [a, b]) (hr : ∀ k ∈ [a, b], 0 ≤ k ∧ k < (l.length : Int)) (hx : bw 0 (kindOf l a) = true) (hy : bw 0 (kindOf l b) = true) :
 Calls Tryz.prog 38 #[.slice la l.length lc, .agg #[.int .i64 17, .string t, .slice pa pn pc, .slice ka 2 kc, .int .i64 ln, .int .i64 col]] w fun e w' => e = .returned (.bool true) ∧ Below w.heap.size w w' := by
 obtain ⟨HN1, HK, HB1, HE⟩ := bq (pa := pa) (pn := pn) (pc := pc) 17 t ln col HN hk _ rfl;have HRR := κ hr;clear hk hr HN;go_enter Tryz.func38, Tryz.ntmps38;go_wp2_with fail;refine (eP (w.heap.size + 1) 17 (by decide) t pa ka pn pc 2 kc ln col _).mono ?_;rintro e w2 ⟨rfl, hb2⟩;have HK2 := κ (HK.below hb2);have e0 := cell_later hb2 (ay HE _);clear HK HE hb2;go_wp2_with fail;refine (Kt HN1 HK2 HRR hx hy).mono ?_;rintro e w3 ⟨rfl, hb3⟩;have HD := κ (HB1.trans (hb3.mono HB1.size));clear hb3;go_wp2_with fail;go_ret;exact ⟨rfl, HD⟩
theorem Kg {w : World} {l : List Nd} {a b : Int} {la pa ka : Option Addr} {lc pn pc kc : Nat} (t : ByteArray) (ln col : Int) (HN : NdT w (.slice la l.length lc) l) (hk : Ints w (.slice ka 2 kc) [a, b]) (hr : ∀ k ∈ [a, b], 0 ≤ k ∧ k < (l.length : Int)) (hx : bw 1 (kindOf l a) = true) (hy : bw 0 (kindOf l b) = true) :
 Calls Tryz.prog 38 #[.slice la l.length lc, .agg #[.int .i64 53, .string t, .slice pa pn pc, .slice ka 2 kc, .int .i64 ln, .int .i64 col]] w fun e w' => e = .returned (.bool true) ∧ Below w.heap.size w w' := by
 obtain ⟨HN1, HK, HB1, HE⟩ := bq (pa := pa) (pn := pn) (pc := pc) 53 t ln col HN hk _ rfl;have HRR := κ hr;clear hk hr HN;go_enter Tryz.func38, Tryz.ntmps38;go_wp2_with fail;refine (eP (w.heap.size + 1) 53 (by decide) t pa ka pn pc 2 kc ln col _).mono ?_;rintro e w2 ⟨rfl, hb2⟩;have HK2 := κ (HK.below hb2);have e0 := cell_later hb2 (ay HE _);clear HK HE hb2;go_wp2_with fail;refine (Kz HN1 HK2 HRR hx hy).mono ?_;rintro e w3 ⟨rfl, hb3⟩;have HD := κ (HB1.trans (hb3.mono HB1.size));clear hb3;go_wp2_with fail;go_ret;exact ⟨rfl, HD⟩
theorem Kh {w : World} {l : List Nd} {ks : List Int} {la pa ka : Option Addr} {lc pn pc kc : Nat} (t : ByteArray) (ln col : Int) (HN : NdT w (.slice la l.length lc) l) (hk : Ints w (.slice ka ks.length kc) ks) (hr : ∀ k ∈ ks, 0 ≤ k ∧ k < (l.length : Int)) (hf : eZ l 53 1 ks = true) :
 Calls Tryz.prog 38 #[.slice la l.length lc, .agg #[.int .i64 51, .string t, .slice pa pn pc, .slice ka ks.length kc, .int .i64 ln, .int .i64 col]] w fun e w' => e = .returned (.bool true) ∧ Below w.heap.size w w' := by
 obtain ⟨HN1, HK, HB1, HE⟩ := bq (pa := pa) (pn := pn) (pc := pc) 51 t ln col HN hk _ rfl;have HRR := κ hr;clear hk hr HN;go_enter Tryz.func38, Tryz.ntmps38;go_wp2_with fail;refine (eP (w.heap.size + 1) 51 (by decide) t pa ka pn pc ks.length kc ln col _).mono ?_;rintro e w2 ⟨rfl, hb2⟩;have HK2 := κ (HK.below hb2);have e0 := cell_later hb2 (ay HE _);clear HK HE hb2;go_wp2_with fail;refine (KA HN1 HK2 HRR hf).mono ?_;rintro e w3 ⟨rfl, hb3⟩;have HD := κ (HB1.trans (hb3.mono HB1.size));clear hb3;go_wp2_with fail;go_ret;exact ⟨rfl, HD⟩
theorem Ki {w : World} {l : List Nd} {ks : List Int} {la pa ka : Option Addr} {lc pn pc kc : Nat} (t : ByteArray) (ln col : Int) (HN : NdT w (.slice la l.length lc) l) (hk : Ints w (.slice ka ks.length kc) ks) (hr : ∀ k ∈ ks, 0 ≤ k ∧ k < (l.length : Int)) (hf : mI l 3 0 ks = true) :
 Calls Tryz.prog 38 #[.slice la l.length lc, .agg #[.int .i64 50, .string t, .slice pa pn pc, .slice ka ks.length kc, .int .i64 ln, .int .i64 col]] w fun e w' => e = .returned (.bool true) ∧ Below w.heap.size w w' := by
 obtain ⟨HN1, HK, HB1, HE⟩ := bq (pa := pa) (pn := pn) (pc := pc) 50 t ln col HN hk _ rfl;have HRR := κ hr;clear hk hr HN;go_enter Tryz.func38, Tryz.ntmps38;go_wp2_with fail;refine (eP (w.heap.size + 1) 50 (by decide) t pa ka pn pc ks.length kc ln col _).mono ?_;rintro e w2 ⟨rfl, hb2⟩;have HK2 := κ (HK.below hb2);have e0 := cell_later hb2 (ay HE _);clear HK HE hb2;go_wp2_with fail;refine (KC HN1 HK2 HRR hf).mono ?_;rintro e w3 ⟨rfl, hb3⟩;have HD := κ (HB1.trans (hb3.mono HB1.size));clear hb3;go_wp2_with fail;go_ret;exact ⟨rfl, HD⟩
end Go.Proofs.YtbchkldhnjahaaaGreatDoor
namespace Kiln
def Hw (l : List Nd) : Bool := (List.range l.length).all fun i => match l[i]? with
 | some n => (n.kids.all fun k => decide (0 ≤ k) && decide (k < (i : Int))) && MJ l n
 | none => true
theorem Hv {l : List Nd} (h : Hw l = true) {i : Nat} {n : Nd} (hn : l[i]? = some n) : (∀ k ∈ n.kids, 0 ≤ k ∧ k < (i : Int)) ∧ MJ l n = true := by
 unfold Hw at h;rw [List.all_eq_true] at h;have := h i (by simpa using (ξz.1 hn).1);rw [hn] at this;simp only [ξg, List.all_eq_true, ψc] at this;exact ⟨this.1, this.2⟩
end Kiln
namespace Go.Proofs.YtbchkldhnjahaaaGreatDoor
open Go.RowKit Kiln
open Go.Proofs
theorem Hz {w : World} {lv pv kv : Value} {l : List Nd} {n : Nd} (HN : NdT w lv l) (hp : Strs w pv n.path) (hk : Ints w kv n.kids) (hr : ∀ k ∈ n.kids, 0 ≤ k ∧ k < (l.length : Int)) (hf : MJ l n = true) :
 Calls Tryz.prog 38 #[lv, .agg #[.int .i64 n.kind, str n.text, pv, kv, .int .i64 n.line, .int .i64 n.col]] w fun e w' => e = .returned (.bool true) ∧ Below w.heap.size w w' := by
 obtain ⟨la, lc, rfl, _⟩ := id HN;obtain ⟨pa, pc, rfl, _⟩ := id hp;obtain ⟨ka, kc, rfl, _⟩ := id hk;obtain ⟨kind, text, path, kids, line, col⟩ := n;simp only at hk hr ⊢;unfold MJ at hf;simp only at hf;split at hf
 · rename_i h;have : kids = [] := by simpa using hf
   subst this;rcases h with rfl | rfl | rfl
   · exact Kj _ line col HN hk
   · exact Ml _ line col HN hk
   · exact Km _ line col HN hk
 · split at hf
   · rename_i h;subst h;simp only [ξg, Bool.not_eq_true', ξY] at hf;exact Kl _ line col HN hk hr hf.2 (by rw [ψa]; omega)
   · split at hf
     · rename_i h;subst h;match kids, hf, hk, hr with
       | [a, b], hf, hk, hr =>
        simp only [ξg] at hf;exact Kk _ line col HN hk hr hf.1 hf.2
     · split at hf
       · rename_i h;subst h;match kids, hf, hk, hr with
         | [a, b], hf, hk, hr =>
          simp only [ξg] at hf;exact Kg _ line col HN hk hr hf.1 hf.2
       · split at hf
         · rename_i h;subst h;exact Kh _ line col HN hk hr hf
         · split at hf
           · rename_i h;subst h;exact Ki _ line col HN hk hr hf
           · cases hf
theorem zCk (w : World) (lv : Value) (l : List Nd) (root : Nat) (hl : NdT w lv l) (hgood : Hw l = true) (hroot : root < l.length) (hlen : l.length ≤ 4398046511104) :
 Calls Tryz.prog 19 #[lv, .int .i64 root] w fun e w' => e = .returned (.int .i64 0) ∧ Below w.heap.size w w' := by
 have hmk : ∀ w : World, (Instr.makeSlice 81 (.int .i64 ((root : Int) + 1)) (.int .i64 ((root : Int) + 1))).run Tryz.prog w = .ok (.slice (some ⟨w.heap.size, 0, none⟩) (root + 1) (root + 1)) (w.alloc (.cells (madeCells #[.bool false] (root + 1)) 4)) := by
  have := run_make_row' (P := Tryz.prog) 81 4 (.bool false) 1 Tryz.underlying81 Mk rfl .i64 .i64 (root + 1) (by omega) (by omega);simpa using this
 have HL := κ hl;have HGD := κ hgood;obtain ⟨la, lcap, rfl, -⟩ := hl;have hm0 : Dt (w.alloc (.cells (madeCells #[.bool false] (root + 1)) 4)) w.heap.size (root + 1) (fun _ => false) := World.rowIs_made w (.bool false) (root + 1) 4;have hb0 := bQ (ξf _ w) (.cells (madeCells #[.bool false] (root + 1)) 4);obtain ⟨wy, hwy⟩ : ∃ wy, w.alloc (.cells (madeCells #[.bool false] (root + 1)) 4) = wy := ⟨_, rfl⟩;rw [hwy] at hm0 hb0;have g0 : wy.cell? ⟨w.heap.size, root, none⟩ = some (.bool false) := World.rowIs.cell hm0 (ξJ _);have g1 : wy.frozen? ⟨w.heap.size, root, none⟩ = false := World.rowIs.frozen hm0 root;have HM1 := κ (Dt.put (m' := fun j => if j = root then true else false) (k := root) hm0 (fun j => rfl));have HB0 := κ (hb0.setCell (p := ⟨w.heap.size, root, none⟩) (ξF _) (.bool true));have HRT := κ hroot;have q0 : (decide ((root : Int) < 0)) = false := by simp
 have q1 : (decide (l.length ≤ root)) = false := by simpa using hroot
 have q2 : (decide ((l.length : Int) ≤ root)) = false := by simp; omega
 have hr0 : (root : Int) < (l.length : Int) := by omega
 have hr1 : (root : Int) < (root : Int) + 1 := by omega
 clear hm0 hb0 hgood hroot;go_enter Tryz.func19, Tryz.ntmps19;go_wp2_with fail;clear hmk g0 g1 hwy;go_loopg [6] (root + 2) (fun g v wr => ∃ (n : Nat) (m : Nat → Bool) (z : Int) (wx : World), wx = wr ∧ v = .int .i64 z ∧ z = (n : Int) - 1 ∧ n + 1 = g ∧ n ≤ root + 1 ∧ Dt wr w.heap.size (root + 1) m ∧ Below w.heap.size w wr)
 case atStart => exact ⟨root + 1, _, _, _, rfl, rfl, by omega, rfl, ξF _, HM1, HB0⟩
 case round =>
  obtain ⟨n, m, z, wx2, rfl, rfl, hz, hg, hn, hm, hb⟩ := hrel;have HB := κ hb;have HM := κ hm;have hsz := hb.size;clear hb hm;cases n with
  | zero =>
   obtain rfl : z = -1 := by omega
   clear hz hg hn;go_wp2_with fail;go_ret;exact ⟨rfl, HB⟩
  | succ i =>
   obtain rfl : z = (i : Int) := by omega
   obtain ⟨fu, rfl⟩ : ∃ fu, gk = fu + 1 := ⟨gk - 1, by omega⟩;have hi0 : (i : Int) < (l.length : Int) := by omega
   have hi1 : (i : Int) < (root : Int) + 1 := by omega
   clear hz;have e2 := HM.cell (i := i) (by omega);cases hmi : m i with
   | false =>
    rw [hmi] at e2;clear hmi;go_wp2_with fail;go_roundg fu
    case measure => omega
    case rel => exact ⟨i, m, _, _, rfl, rfl, by omega, by omega, by omega, HM, HB⟩
   | true =>
    rw [hmi] at e2;obtain ⟨nd, hnd⟩ : ∃ nd, l[i]? = some nd := ⟨_, ξw (by omega)⟩;have HG := κ (Hv HGD hnd);clear hmi;obtain ⟨bn, offn, capn, pv, kv, hv, hpv, hkv, hc⟩ := HL.one hnd;simp only [ξR] at hv;obtain ⟨rfl, -, rfl⟩ := hv;obtain ⟨pa, pcap, rfl, -⟩ := id hpv;obtain ⟨ka, kcap, rfl, hkc, hkm, -⟩ := id hkv;unfold maxLen at hkm;have HKV := κ hkv;have HPV := κ hpv;have HC := κ hc;have e3 : wx2.cell? ⟨bn, offn + i * 6 + 3, none⟩ = some (.slice ka nd.kids.length kcap) := cell_later HB (hc 3 _ rfl _ rfl);clear hc hkv hpv hnd;go_wp2_with fail;go_loopg [39] (nd.kids.length + 1) (fun g v wr => ∃ (t : Nat) (m : Nat → Bool) (wx : World), wx = wr ∧ v = .int .i64 (t : Nat) ∧ t + g = nd.kids.length + 1 ∧ t ≤ nd.kids.length ∧ Dt wr w.heap.size (root + 1) m ∧ Below w.heap.size w wr)
    case atStart => exact ⟨0, m, _, rfl, rfl, by omega, ξM _, HM, HB⟩
    case round =>
     clear HM HB e2 e3;obtain ⟨t, m2, wx3, rfl, rfl, hg, ht, hm, hb⟩ := hrel;have HB := κ hb;have HM := κ hm;have hsz := hb.size;by_cases hlt : t < nd.kids.length
     · obtain ⟨k, hk⟩ : ∃ k, nd.kids[t]? = some k := ⟨_, ξw hlt⟩;obtain ⟨hk0, hk1⟩ := HG.out.1 k (ξB hk);obtain ⟨rb, roff, rfl, hc⟩ := ints_at HKV hk;obtain ⟨kn, rfl⟩ : ∃ kn : Nat, k = kn := ⟨k.toNat, by omega⟩;have e1 : wx3.cell? ⟨rb, roff + t, none⟩ = some (.int .i64 kn) := cell_later hb hc;have hti : (t : Int) < (nd.kids.length : Int) := by omega
       have hkr : (kn : Int) < (root : Int) + 1 := by omega
       obtain ⟨fv, rfl⟩ : ∃ fv, gk = fv + 1 := ⟨gk - 1, by omega⟩;have e2 := HM.cell (i := kn) (by omega);have f2 := World.rowIs.frozen HM kn;clear hc hb hm hk;go_wp2_with fail;go_roundg fv
       case measure => omega
       case rel => exact ⟨t + 1, _, _, rfl, rfl, by omega, by omega, HM.put (m' := fun j => if j = kn then true else m2 j) (fun j => rfl), HB.setCell (ξF _) _⟩
     · obtain rfl : t = nd.kids.length := by omega
       have e0 : wx3.cell? ⟨bn, offn + i * 6, none⟩ = some (.int .i64 nd.kind) := cell_later HB (HC 0 _ rfl _ rfl);have e1 : wx3.cell? ⟨bn, offn + i * 6 + 1, none⟩ = some (str nd.text) := cell_later HB (HC 1 _ rfl _ rfl);have e2 : wx3.cell? ⟨bn, offn + i * 6 + 2, none⟩ = some (.slice pa nd.path.length pcap) := cell_later HB (HC 2 _ rfl _ rfl);have e3 : wx3.cell? ⟨bn, offn + i * 6 + 3, none⟩ = some (.slice ka nd.kids.length kcap) := cell_later HB (HC 3 _ rfl _ rfl);have e4 : wx3.cell? ⟨bn, offn + i * 6 + 4, none⟩ = some (.int .i64 nd.line) := cell_later HB (HC 4 _ rfl _ rfl);have e5 : wx3.cell? ⟨bn, offn + i * 6 + 5, none⟩ = some (.int .i64 nd.col) := cell_later HB (HC 5 _ rfl _ rfl);have HFT := κ (Hz (HL.below HB) (HPV.below HB) (HKV.below HB) (fun k hk => ⟨(HG.out.1 k hk).1, by have := (HG.out.1 k hk).2; omega⟩) HG.out.2);clear hm hb hg;go_wp2_with fail;refine HFT.mono ?_;rintro e w4 ⟨rfl, hb4⟩;have HB4 := κ (HB.trans (hb4.mono hsz));have HM4 := κ (HM.below (hb4.block _ (World.rowIs.lt HM)));clear hb4;go_wp2_with fail;go_roundg fu
       case measure => omega
       case rel => exact ⟨i, _, _, _, rfl, rfl, by omega, by omega, by omega, HM4, HB4⟩
end Go.Proofs.YtbchkldhnjahaaaGreatDoor
namespace Kiln
def I3 : Bytes := [118, 97, 108, 32, 120, 32, 61, 32, 49, 32, 43, 32, 50, 32, 42, 32, 51]
def pX : List Tok := [⟨1, [118, 97, 108], [], 1, 1⟩, ⟨2, [120], [], 1, 5⟩, ⟨1, [61], [], 1, 7⟩, ⟨4, [49], [], 1, 9⟩, ⟨2, [43], [], 1, 11⟩, ⟨4, [50], [], 1, 13⟩, ⟨2, [42], [], 1, 15⟩, ⟨4, [51], [], 1, 17⟩]
def Iy : List Nd := [⟨31, [120], [], [], 1, 5⟩, ⟨1, [49], [], [], 1, 9⟩, ⟨1, [50], [], [], 1, 13⟩, ⟨1, [51], [], [], 1, 17⟩, ⟨10, [42], [], [], 1, 15⟩, ⟨13, [], [], [2, 3], 1, 15⟩, ⟨17, [], [], [4, 5], 1, 15⟩, ⟨10, [43], [], [], 1, 11⟩, ⟨13, [], [], [1, 6], 1, 11⟩, ⟨17, [], [], [7, 8], 1, 11⟩, ⟨53, [], [], [0, 9], 1, 5⟩, ⟨51, [], [], [10], 1, 1⟩, ⟨50, [], [], [11], 1, 1⟩]
def Nc : PS := ⟨8, Iy, [1, 1, 1, 1, 1, 2, 3, 1, 4, 5, 6, 7, 8], 0, [uV]⟩
end Kiln
namespace Go.Proofs.YtbchkldhnjahaaaGreatDoor
open Go.RowKit Kiln
open Go.Proofs
theorem KT : gJ I3 = .ok pX := by kernel_rfl
theorem KR : eY pX (iV pX 1001) ps0 = .ok (12, Nc) := by kernel_rfl
theorem FT : pX.all cL = true := by kernel_rfl
theorem KV : ∀ u ∈ pX, Fits u := by
 intro u hu;simp only [pX, List.mem_cons, List.not_mem_nil, or_false] at hu;rcases hu with rfl | rfl | rfl | rfl | rfl | rfl | rfl | rfl <;> exact ⟨by simp, by simp, by simp [Lib.join]⟩
theorem KU : Hw Iy = true := by kernel_rfl
theorem FR (w : World) (hg : Gl w) : Calls Tryz.prog 10 #[] w fun e w' => e = .returned (.bool true) ∧ Below w.heap.size w w' := by
 have HG := κ hg; clear hg;have HSC := κ (rz ⟨I3.toArray⟩ w HG);go_enter Tryz.func10, Tryz.ntmps10;go_wp2_with fail;refine HSC.mono ?_;rintro e w2 hpost;have HB2 := κ hpost.1;obtain ⟨v, xs, rfl, hown, htk⟩ := Je hpost KT;clear HSC hpost;have HT := κ (Am hown htk);clear hown htk;have HP := κ (xU v pX w2 (HG.below HB2.out) HT.out (by simp [pX]) KV);obtain ⟨a, cap, hv, -⟩ := id HT;replace hv : v = .slice a 8 cap := hv;subst hv;go_wp2_with fail;refine HP.mono ?_;rw [FT, KR];rintro e w3 ⟨hb3, nv, rfl, hn⟩;have HB3 := κ (HB2.trans (hb3.mono HB2.size));have HN := κ hn.nds;obtain ⟨na, ncap, hnv, hnx⟩ := id HN;replace hnv : nv = .slice na 13 ncap := hnv;subst hnv;obtain ⟨nb, noff, rfl, hnc⟩ := hnx (by simp [Nc, Iy]);obtain ⟨pv, kv, -, -, hc⟩ := hnc 9 _ rfl;have c9 : w3.cell? ⟨nb, noff + 54, none⟩ = some (.int .i64 17) := hc 0 _ rfl;have HC := κ (zCk w3 _ Iy 12 HN KU (by decide) (by decide));clear hb3 hn hnx hnc hc HP;go_wp2_with fail;refine HC.mono ?_;rintro e w4 ⟨rfl, hb4⟩;have HB4 := κ (HB3.trans (hb4.mono HB3.size));clear hb4;go_wp2_with fail;go_ret;exact ⟨rfl, HB4⟩
theorem QT {p : Prop} (h : p := by
 have HS3 := κ (HS1.below hbw);have HK3 := κ (HK1.below hbw);have HS4 := κ (HS2.below hbw);have HK4 := κ (HK2.below hbw);have HBW := κ (HBX.trans (hbw.mono HBX.size));rw [hW'];clear hW hW' hbw HS1 HS2 HK1 HK2;go_wp2_with fail;refine (sj _ _ _ n.path n.path HS3 HS4 (by have := HPL.out; omega)).mono ?_;rintro e w5 ⟨rfl, m5, rfl⟩;go_wp2_with fail;refine (Lr _ _ _ n.kids n.kids (HK3.below (iK (ξf _ _) _)) (HK4.below (iK (ξf _ _) _))).mono ?_;rintro e w6 ⟨rfl, m6, rfl⟩;go_wp2_with fail;go_roundg fu
 case measure => omega
 case rel => exact ⟨t + 1, _, rfl, rfl, by omega, by omega, iK HBW _⟩
 ) : p := h
theorem tq (w : World) (av bv : Value) (l : List Nd) (ha : NdT w av l) (hb : NdT w bv l) (hl : l.length ≤ 262144) (hp : ∀ n ∈ l, n.path.length ≤ 1099511627776) :
 Calls Tryz.prog 14 #[av, bv] w fun e w' => e = .returned (.bool true) ∧ Below w.heap.size w w' := by
 have HA := κ ha;have HB := κ hb;have HP := κ hp;obtain ⟨aa, acap, rfl, -⟩ := ha;obtain ⟨ba, bcap, rfl, -⟩ := hb;have hne : ((l.length : Int) != (l.length : Int)) = false := by simp
 clear hp;go_enter Tryz.func14, Tryz.ntmps14;go_wp2_with fail;go_loopg [5] (l.length + 1) (fun g v wr => ∃ (t : Nat) (wx : World), wx = wr ∧ v = .int .i64 (t : Nat) ∧ t + g = l.length + 1 ∧ t ≤ l.length ∧ Below w.heap.size w wr)
 case atStart => exact ⟨0, _, rfl, rfl, by omega, ξM _, ξf _ _⟩
 case round =>
  obtain ⟨t, wx, rfl, rfl, hg, ht, hb⟩ := hrel;have HBX := κ hb;clear hb;by_cases hlt : t < l.length
  · obtain ⟨fu, rfl⟩ : ∃ fu, gk = fu + 1 := ⟨gk - 1, by omega⟩;have hti : (t : Int) < (l.length : Int) := by omega
    obtain ⟨n, hn⟩ : ∃ n, l[t]? = some n := ⟨_, ξw hlt⟩;obtain ⟨b1, o1, cp1, pv1, kv1, hv1, hs1, hk1, hc1⟩ := HA.one hn;obtain ⟨b2, o2, cp2, pv2, kv2, hv2, hs2, hk2, hc2⟩ := HB.one hn;simp only [ξR] at hv1 hv2;obtain ⟨rfl, -, rfl⟩ := hv1;obtain ⟨rfl, -, rfl⟩ := hv2;obtain ⟨pa1, pc1, rfl, -⟩ := id hs1;obtain ⟨ka1, kc1, rfl, -⟩ := id hk1;obtain ⟨pa2, pc2, rfl, -⟩ := id hs2;obtain ⟨ka2, kc2, rfl, -⟩ := id hk2;have y0 : wx.cell? ⟨b1, o1 + t * 6, none⟩ = some (.int .i64 n.kind) := cell_later HBX (hc1 0 _ rfl _ rfl);have y1 : wx.cell? ⟨b1, o1 + t * 6 + 1, none⟩ = some (str n.text) := cell_later HBX (hc1 1 _ rfl _ rfl);have y2 : wx.cell? ⟨b1, o1 + t * 6 + 2, none⟩ = some (.slice pa1 n.path.length pc1) := cell_later HBX (hc1 2 _ rfl _ rfl);have y3 : wx.cell? ⟨b1, o1 + t * 6 + 3, none⟩ = some (.slice ka1 n.kids.length kc1) := cell_later HBX.out (hc1 3 _ (by simp [ji]) _ rfl);have y4 : wx.cell? ⟨b1, o1 + t * 6 + 4, none⟩ = some (.int .i64 n.line) := cell_later HBX (hc1 4 _ rfl _ rfl);have y5 : wx.cell? ⟨b1, o1 + t * 6 + 5, none⟩ = some (.int .i64 n.col) := cell_later HBX (hc1 5 _ rfl _ rfl);have z0 : wx.cell? ⟨b2, o2 + t * 6, none⟩ = some (.int .i64 n.kind) := cell_later HBX (hc2 0 _ rfl _ rfl);have z1 : wx.cell? ⟨b2, o2 + t * 6 + 1, none⟩ = some (str n.text) := cell_later HBX (hc2 1 _ rfl _ rfl);have z2 : wx.cell? ⟨b2, o2 + t * 6 + 2, none⟩ = some (.slice pa2 n.path.length pc2) := cell_later HBX (hc2 2 _ rfl _ rfl);have z3 : wx.cell? ⟨b2, o2 + t * 6 + 3, none⟩ = some (.slice ka2 n.kids.length kc2) := cell_later HBX.out (hc2 3 _ (by simp [ji]) _ rfl);have z4 : wx.cell? ⟨b2, o2 + t * 6 + 4, none⟩ = some (.int .i64 n.line) := cell_later HBX (hc2 4 _ rfl _ rfl);have z5 : wx.cell? ⟨b2, o2 + t * 6 + 5, none⟩ = some (.int .i64 n.col) := cell_later HBX (hc2 5 _ rfl _ rfl);have q1 : b1 < wx.heap.size := ξS wx _ y0;have q2 : b1 < wx.heap.size + 1 := by omega
    have q3 : b2 < wx.heap.size := ξS wx _ z0;have q4 : b2 < wx.heap.size + 1 := by omega
    have HS1 := κ (hs1.below HBX);have HK1 := κ (hk1.below HBX);have HS2 := κ (hs2.below HBX);have HK2 := κ (hk2.below HBX);have HPL := κ (HP n (ξB hn));clear hs1 hk1 hs2 hk2 hc1 hc2 hn;have e1 : (n.kind != n.kind) = false := by simp
    have e2 : (n.line != n.line) = false := by simp
    have e3 : (n.col != n.col) = false := by simp
    have e4 : (n.text != n.text) = false := by simp
    have e5 : (n.path == n.path) = true := by simp
    have e6 : (n.kids == n.kids) = true := by simp
    go_wp2_with fail;go_region;all_goals clear y0 y1 y2 y3 y4 y5 z0 z1 z2 z3 z4 z5 q1 q2 q3 q4
    · obtain ⟨W, hW⟩ : ∃ W, ((wx.alloc (.cells #[.int .i64 n.kind, str n.text, .slice pa1 n.path.length pc1, .slice ka1 n.kids.length kc1, .int .i64 n.line, .int .i64 n.col] 41)).alloc (.cells #[.int .i64 n.kind, str n.text, .slice pa2 n.path.length pc2, .slice ka2 n.kids.length kc2, .int .i64 n.line, .int .i64 n.col] 41)).drew = W := ⟨_, rfl⟩;have hW' : ((wx.alloc (.cells #[.int .i64 n.kind, .string ⟨n.text.toArray⟩, .slice pa1 n.path.length pc1, .slice ka1 n.kids.length kc1, .int .i64 n.line, .int .i64 n.col] 41)).alloc (.cells #[.int .i64 n.kind, .string ⟨n.text.toArray⟩, .slice pa2 n.path.length pc2, .slice ka2 n.kids.length kc2, .int .i64 n.line, .int .i64 n.col] 41)).drew = W := hW;have hbw : Below wx.heap.size wx W := by rw [← hW]; exact jZ (bQ (bQ (ξf _ _) _) _)
      have xa0 : W.cell? ⟨wx.heap.size, 0, none⟩ = some (.int .i64 n.kind) := by rw [← hW]; simp
      have xa1 : W.cell? ⟨wx.heap.size, 1, none⟩ = some (str n.text) := by rw [← hW]; simp
      have xa2 : W.cell? ⟨wx.heap.size, 2, none⟩ = some (.slice pa1 n.path.length pc1) := by rw [← hW]; simp
      have xa3 : W.cell? ⟨wx.heap.size, 3, none⟩ = some (.slice ka1 n.kids.length kc1) := by rw [← hW]; simp
      have xa4 : W.cell? ⟨wx.heap.size, 4, none⟩ = some (.int .i64 n.line) := by rw [← hW]; simp
      have xa5 : W.cell? ⟨wx.heap.size, 5, none⟩ = some (.int .i64 n.col) := by rw [← hW]; simp
      have xb0 : W.cell? ⟨wx.heap.size + 1, 0, none⟩ = some (.int .i64 n.kind) := by rw [← hW]; simp
      have xb1 : W.cell? ⟨wx.heap.size + 1, 1, none⟩ = some (str n.text) := by rw [← hW]; simp
      have xb2 : W.cell? ⟨wx.heap.size + 1, 2, none⟩ = some (.slice pa2 n.path.length pc2) := by rw [← hW]; simp
      have xb3 : W.cell? ⟨wx.heap.size + 1, 3, none⟩ = some (.slice ka2 n.kids.length kc2) := by rw [← hW]; simp
      have xb4 : W.cell? ⟨wx.heap.size + 1, 4, none⟩ = some (.int .i64 n.line) := by rw [← hW]; simp
      have xb5 : W.cell? ⟨wx.heap.size + 1, 5, none⟩ = some (.int .i64 n.col) := by rw [← hW]; simp
      exact QT
    · obtain ⟨W, hW⟩ : ∃ W, ((wx.alloc (.cells #[.int .i64 n.kind, str n.text, .slice pa2 n.path.length pc2, .slice ka2 n.kids.length kc2, .int .i64 n.line, .int .i64 n.col] 41)).alloc (.cells #[.int .i64 n.kind, str n.text, .slice pa1 n.path.length pc1, .slice ka1 n.kids.length kc1, .int .i64 n.line, .int .i64 n.col] 41)).drew = W := ⟨_, rfl⟩;have hW' : ((wx.alloc (.cells #[.int .i64 n.kind, .string ⟨n.text.toArray⟩, .slice pa2 n.path.length pc2, .slice ka2 n.kids.length kc2, .int .i64 n.line, .int .i64 n.col] 41)).alloc (.cells #[.int .i64 n.kind, .string ⟨n.text.toArray⟩, .slice pa1 n.path.length pc1, .slice ka1 n.kids.length kc1, .int .i64 n.line, .int .i64 n.col] 41)).drew = W := hW;have hbw : Below wx.heap.size wx W := by rw [← hW]; exact jZ (bQ (bQ (ξf _ _) _) _)
      have xa0 : W.cell? ⟨wx.heap.size + 1, 0, none⟩ = some (.int .i64 n.kind) := by rw [← hW]; simp
      have xa1 : W.cell? ⟨wx.heap.size + 1, 1, none⟩ = some (str n.text) := by rw [← hW]; simp
      have xa2 : W.cell? ⟨wx.heap.size + 1, 2, none⟩ = some (.slice pa1 n.path.length pc1) := by rw [← hW]; simp
      have xa3 : W.cell? ⟨wx.heap.size + 1, 3, none⟩ = some (.slice ka1 n.kids.length kc1) := by rw [← hW]; simp
      have xa4 : W.cell? ⟨wx.heap.size + 1, 4, none⟩ = some (.int .i64 n.line) := by rw [← hW]; simp
      have xa5 : W.cell? ⟨wx.heap.size + 1, 5, none⟩ = some (.int .i64 n.col) := by rw [← hW]; simp
      have xb0 : W.cell? ⟨wx.heap.size, 0, none⟩ = some (.int .i64 n.kind) := by rw [← hW]; simp
      have xb1 : W.cell? ⟨wx.heap.size, 1, none⟩ = some (str n.text) := by rw [← hW]; simp
      have xb2 : W.cell? ⟨wx.heap.size, 2, none⟩ = some (.slice pa2 n.path.length pc2) := by rw [← hW]; simp
      have xb3 : W.cell? ⟨wx.heap.size, 3, none⟩ = some (.slice ka2 n.kids.length kc2) := by rw [← hW]; simp
      have xb4 : W.cell? ⟨wx.heap.size, 4, none⟩ = some (.int .i64 n.line) := by rw [← hW]; simp
      have xb5 : W.cell? ⟨wx.heap.size, 5, none⟩ = some (.int .i64 n.col) := by rw [← hW]; simp
      exact QT
  · obtain rfl : t = l.length := by omega
    go_wp2_with fail;go_ret;exact ⟨rfl, HBX⟩
end Go.Proofs.YtbchkldhnjahaaaGreatDoor
