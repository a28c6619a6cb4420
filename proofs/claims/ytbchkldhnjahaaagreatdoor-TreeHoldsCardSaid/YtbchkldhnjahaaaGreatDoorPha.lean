/- Part of the proof. Conditions: those of each theorem. -/
import Derived.Test.YtbchkldhnjahaaaGreatDoorPaa
import Derived.Test.YtbchkldhnjahaaaGreatDoorPav
set_option maxRecDepth 100000
set_option maxHeartbeats 40000000
namespace Kiln
theorem LH {l : List Nd} {g : Nat} {fs : List (Int → Bool)} {ks : List Int} : seqB l (bw g :: fs) ks = if (ofG l g ks).1 = true then seqB l fs (ofG l g ks).2 else false := by
 cases ks with
 | nil => rfl
 | cons c r =>
  simp only [seqB, ofG];by_cases h : bw g (kindOf l c) = true <;> simp [h]
theorem LK {l : List Nd} {k : Int} {fs : List (Int → Bool)} {ks : List Int} : seqB l ((· == k) :: fs) ks = if (G8 l k ks).1 = true then seqB l fs (G8 l k ks).2 else false := by
 cases ks with
 | nil => rfl
 | cons c r =>
  simp only [seqB, G8];by_cases h : kindOf l c = k <;> simp [h]
theorem LO {l : List Nd} {g : Nat} {f : List Int → Bool} {ks : List Int} : oH l (bw g) f ks = if (ofG l g ks).1 = true then f (ofG l g ks).2 else false := by
 cases ks with
 | nil => rfl
 | cons c r =>
  simp only [oH, ofG];by_cases h : bw g (kindOf l c) = true <;> simp [h]
theorem Ll {l : List Nd} {k : Int} {f : List Int → Bool} {ks : List Int} : oH l (· == k) f ks = if (G8 l k ks).1 = true then f (G8 l k ks).2 else false := by
 cases ks with
 | nil => rfl
 | cons c r =>
  simp only [oH, G8];by_cases h : kindOf l c = k <;> simp [h]
end Kiln
namespace Go.Proofs.YtbchkldhnjahaaaGreatDoor
open Go.RowKit Kiln
open Go.Proofs
section
variable {w1 w : World} {q : Nat} {lv : Value} {l : List Nd} {ks : List Int} {V : Bool} {Q : Ending → World → Prop}
def KXx (F : FuncId) (k : Int) (w1 w : World) (q : Nat) (lv : Value) (l : List Nd) (ks : List Int) (B : Bool) : Prop :=
 NdT w1 lv l → KSt w1 w q lv ks → (∀ k ∈ ks, 0 ≤ k ∧ k < (l.length : Int)) → Calls Tryz.prog F #[.pointer (some ⟨q, 0, none⟩), .int .i64 k] w fun e w' => e = .returned (.bool B) ∧ Below w1.heap.size w1 w'
theorem KXx.of {F : FuncId} {k : Int} {B : Bool} (h : ∀ V, RowKit.Hid (B = V) → KXx F k w1 w q lv l ks V) : KXx F k w1 w q lv l ks B := h B rfl
theorem kof {g : Nat} {f : List Int → Bool} (HRR : ∀ k ∈ ks, 0 ≤ k ∧ k < (l.length : Int)) (HV : (if (ofG l g ks).1 = true then f (ofG l g ks).2 else false) = V)
 (h : ∀ B r w', RowKit.Hid (KSt w1 w' q lv r) → RowKit.Hid (∀ k ∈ r, 0 ≤ k ∧ k < (l.length : Int)) → RowKit.Hid ((if B = true then f r else false) = V) → Q (.returned (.bool B)) w') : ∀ e w', MC w1 q lv (ofG l g ks) e w' → Q e w' := by
 rintro e w' ⟨rfl, hk⟩;exact h _ _ w' hk (fun c hc => HRR c (Lh hc)) HV
theorem QK {k : Int} {f : List Int → Bool} (HRR : ∀ k ∈ ks, 0 ≤ k ∧ k < (l.length : Int)) (HV : (if (G8 l k ks).1 = true then f (G8 l k ks).2 else false) = V)
 (h : ∀ B r w', RowKit.Hid (KSt w1 w' q lv r) → RowKit.Hid (∀ k ∈ r, 0 ≤ k ∧ k < (l.length : Int)) → RowKit.Hid ((if B = true then f r else false) = V) → Q (.returned (.bool B)) w') : ∀ e w', MC w1 q lv (G8 l k ks) e w' → Q e w' := by
 rintro e w' ⟨rfl, hk⟩;exact h _ _ w' hk (fun c hc => HRR c (JD hc)) HV
theorem QN {g : Nat} {fs : List (Int → Bool)} (HRR : ∀ k ∈ ks, 0 ≤ k ∧ k < (l.length : Int)) (HV : seqB l (bw g :: fs) ks = V)
 (h : ∀ B r w', RowKit.Hid (KSt w1 w' q lv r) → RowKit.Hid (∀ k ∈ r, 0 ≤ k ∧ k < (l.length : Int)) → RowKit.Hid ((if B = true then seqB l fs r else false) = V) → Q (.returned (.bool B)) w') : ∀ e w', MC w1 q lv (ofG l g ks) e w' → Q e w' :=
 kof HRR (by rw [← LH]; exact HV) h
theorem QI {k : Int} {fs : List (Int → Bool)} (HRR : ∀ k ∈ ks, 0 ≤ k ∧ k < (l.length : Int)) (HV : seqB l ((· == k) :: fs) ks = V)
 (h : ∀ B r w', RowKit.Hid (KSt w1 w' q lv r) → RowKit.Hid (∀ k ∈ r, 0 ≤ k ∧ k < (l.length : Int)) → RowKit.Hid ((if B = true then seqB l fs r else false) = V) → Q (.returned (.bool B)) w') : ∀ e w', MC w1 q lv (G8 l k ks) e w' → Q e w' :=
 QK HRR (by rw [← LK]; exact HV) h
theorem QM {g : Nat} {f : List Int → Bool} (HRR : ∀ k ∈ ks, 0 ≤ k ∧ k < (l.length : Int)) (HV : oH l (bw g) f ks = V)
 (h : ∀ B r w', RowKit.Hid (KSt w1 w' q lv r) → RowKit.Hid (∀ k ∈ r, 0 ≤ k ∧ k < (l.length : Int)) → RowKit.Hid ((if B = true then f r else false) = V) → Q (.returned (.bool B)) w') : ∀ e w', MC w1 q lv (ofG l g ks) e w' → Q e w' :=
 kof HRR (by rw [← LO]; exact HV) h
theorem QG {k : Int} {f : List Int → Bool} (HRR : ∀ k ∈ ks, 0 ≤ k ∧ k < (l.length : Int)) (HV : oH l (· == k) f ks = V)
 (h : ∀ B r w', RowKit.Hid (KSt w1 w' q lv r) → RowKit.Hid (∀ k ∈ r, 0 ≤ k ∧ k < (l.length : Int)) → RowKit.Hid ((if B = true then f r else false) = V) → Q (.returned (.bool B)) w') : ∀ e w', MC w1 q lv (G8 l k ks) e w' → Q e w' :=
 QK HRR (by rw [← Ll]; exact HV) h
theorem kne {a b : Int} (h : ¬ a = b) : (a == b) = false := by rw [ξY]; exact h
theorem QJ {B : Bool} (h : (if (true : Bool) = true then B else false) = V) : B = V := h
theorem kno {B : Bool} (h : (if (false : Bool) = true then B else false) = V) : false = V := h
theorem kx {p : Prop} (h : p := by
 go_wp2_with fail;repeat (first
  | ((with_reducible refine Calls.mono (wo _ ?_ HN HK.out HRR.out) ?_); (· decide); (first | refine QN HRR.out HV.out ?_ | refine QM HRR.out HV.out ?_); clear HK HRR HV; intro B r wq HK HRR HV; cases B; (· replace HV := κ (kno HV.out); go_wp2_with fail; go_ret; exact ⟨by rw [← HV.out]; rfl, HK.bel⟩); replace HV := κ (QJ HV.out); go_wp2_with fail)
  | ((with_reducible refine Calls.mono (JN _ HN HK.out HRR.out ?_) ?_); (· decide); (first | refine QI HRR.out HV.out ?_ | refine QG HRR.out HV.out ?_); clear HK HRR HV; intro B r wq HK HRR HV; cases B; (· replace HV := κ (kno HV.out); go_wp2_with fail; go_ret; exact ⟨by rw [← HV.out]; rfl, HK.bel⟩); replace HV := κ (QJ HV.out); go_wp2_with fail))
 first
  | (with_reducible refine (wL HK.out).mono ?_); rintro e w4 ⟨rfl, hk4⟩; have HE := κ hk4.bel; clear hk4; go_wp2_with fail; go_ret; exact ⟨by rw [← HV.out]; rfl, HE.out⟩
  | (with_reducible refine Calls.mono (GK _ _ HN HK.out HRR.out ?_) ?_); (· decide); rintro e w3 ⟨rfl, hb3⟩; have HE := κ hb3; clear hb3; go_wp2_with fail; go_ret; exact ⟨by rw [← HV.out]; rfl, HE.out⟩
  | (with_reducible refine Calls.mono (FQ _ _ HN HK.out HRR.out ?_) ?_); (· decide); rintro e w3 ⟨rfl, hb3⟩; have HE := κ hb3; clear hb3; go_wp2_with fail; go_ret; exact ⟨by rw [← HV.out]; rfl, HE.out⟩) : p := h
end
section
variable {w1 w : World} {q : Nat} {lv : Value} {l : List Nd} {ks : List Int}
theorem IQ {p : Prop} (h : p := by
 refine KXx.of fun V HV => ?_;intro HN hk hr;have HK := κ hk;have HRR := κ hr;clear hk hr;go_enter Tryz.func68, Tryz.ntmps68;exact kx) : p := h
theorem PG : KXx 68 11 w1 w q lv l ks (eZ l 28 0 ks) := by exact IQ
theorem PF : KXx 68 13 w1 w q lv l ks (mI l 0 0 ks) := by exact IQ
theorem PD : KXx 68 14 w1 w q lv l ks (mI l 0 0 ks) := by exact IQ
theorem Pz : KXx 68 15 w1 w q lv l ks (mI l 0 2 ks) := by exact IQ
theorem Py : KXx 68 16 w1 w q lv l ks (oH l ((· == 50)) (mI l 0 1) ks) := by exact IQ
theorem Px : KXx 68 17 w1 w q lv l ks (seqB l [bw 0, bw 0] ks) := by exact IQ
theorem Pv : KXx 68 19 w1 w q lv l ks (seqB l [bw 0, bw 0] ks) := by exact IQ
theorem Pu : KXx 68 20 w1 w q lv l ks (seqB l [bw 0, bw 0] ks) := by exact IQ
theorem Po : KXx 68 24 w1 w q lv l ks (seqB l [bw 0, bw 0] ks) := by exact IQ
theorem Pw : KXx 68 18 w1 w q lv l ks (seqB l [bw 0, bw 2] ks) := by exact IQ
theorem Pt : KXx 68 21 w1 w q lv l ks (oH l (bw 0) (eZ l 27 1) ks) := by exact IQ
theorem Pn : KXx 68 25 w1 w q lv l ks (oH l (bw 0) (eZ l 27 1) ks) := by exact IQ
theorem Pq : KXx 68 22 w1 w q lv l ks (seqB l [bw 0] ks) := by exact IQ
theorem Pp : KXx 68 23 w1 w q lv l ks (seqB l [bw 0, bw 0, bw 0] ks) := by exact IQ
theorem Pm : KXx 68 26 w1 w q lv l ks (eZ l 27 1 ks) := by exact IQ
theorem Pk : KXx 68 27 w1 w q lv l ks (seqB l [bw 1, bw 0] ks) := by exact IQ
theorem Oq (HN : NdT w1 lv l) (hk : KSt w1 w q lv ks) (hr : ∀ k ∈ ks, 0 ≤ k ∧ k < (l.length : Int)) (k : Int) (h11 : k ≠ 11) (h13 : k ≠ 13) (h14 : k ≠ 14) (h15 : k ≠ 15) (h16 : k ≠ 16) (h17 : k ≠ 17) (h19 : k ≠ 19) (h20 : k ≠ 20) (h24 : k ≠ 24) (h18 : k ≠ 18) (h21 : k ≠ 21) (h25 : k ≠ 25) (h22 : k ≠ 22) (h23 : k ≠ 23) (h26 : k ≠ 26) (h27 : k ≠ 27) :
 Calls Tryz.prog 68 #[.pointer (some ⟨q, 0, none⟩), .int .i64 k] w fun e w' => e = .returned (.bool (jC l k ks)) ∧ Below w1.heap.size w1 w' := by
 obtain ⟨V, hV⟩ : ∃ V, jC l k ks = V := ⟨_, rfl⟩;rw [hV];have HV : RowKit.Hid (false = V) := κ (by rw [← hV]; unfold jC; simp [h11, h13, h14, h15, h16, h17, h19, h20, h24, h18, h21, h25, h22, h23, h26, h27]);have HK := κ hk;have HRR := κ hr;have e11 := kne h11;have e13 := kne h13;have e14 := kne h14;have e15 := kne h15;have e16 := kne h16;have e17 := kne h17;have e19 := kne h19;have e20 := kne h20;have e24 := kne h24;have e18 := kne h18;have e21 := kne h21;have e25 := kne h25;have e22 := kne h22;have e23 := kne h23;have e26 := kne h26;have e27 := kne h27;clear hV hk hr h11 h13 h14 h15 h16 h17 h19 h20 h24 h18 h21 h25 h22 h23 h26 h27;go_enter Tryz.func68, Tryz.ntmps68;go_wp2_with fail;go_ret;exact ⟨by rw [← HV.out]; rfl, HK.bel⟩
theorem Qm (HN : NdT w1 lv l) (hk : KSt w1 w q lv ks) (hr : ∀ k ∈ ks, 0 ≤ k ∧ k < (l.length : Int)) (k : Int) :
 Calls Tryz.prog 68 #[.pointer (some ⟨q, 0, none⟩), .int .i64 k] w fun e w' => e = .returned (.bool (jC l k ks)) ∧ Below w1.heap.size w1 w' := by
 by_cases h11 : k = 11
 · subst h11; exact PG HN hk hr
 by_cases h13 : k = 13
 · subst h13; exact PF HN hk hr
 by_cases h14 : k = 14
 · subst h14; exact PD HN hk hr
 by_cases h15 : k = 15
 · subst h15; exact Pz HN hk hr
 by_cases h16 : k = 16
 · subst h16; exact Py HN hk hr
 by_cases h17 : k = 17
 · subst h17; exact Px HN hk hr
 by_cases h19 : k = 19
 · subst h19; exact Pv HN hk hr
 by_cases h20 : k = 20
 · subst h20; exact Pu HN hk hr
 by_cases h24 : k = 24
 · subst h24; exact Po HN hk hr
 by_cases h18 : k = 18
 · subst h18; exact Pw HN hk hr
 by_cases h21 : k = 21
 · subst h21; exact Pt HN hk hr
 by_cases h25 : k = 25
 · subst h25; exact Pn HN hk hr
 by_cases h22 : k = 22
 · subst h22; exact Pq HN hk hr
 by_cases h23 : k = 23
 · subst h23; exact Pp HN hk hr
 by_cases h26 : k = 26
 · subst h26; exact Pm HN hk hr
 by_cases h27 : k = 27
 · subst h27; exact Pk HN hk hr
 exact Oq HN hk hr k h11 h13 h14 h15 h16 h17 h19 h20 h24 h18 h21 h25 h22 h23 h26 h27
theorem LL {p : Prop} (h : p := by
 refine KXx.of fun V HV => ?_;intro HN hk hr;have HK := κ hk;have HRR := κ hr;clear hk hr;go_enter Tryz.func70, Tryz.ntmps70;exact kx) : p := h
theorem P8 : KXx 70 41 w1 w q lv l ks (mI l 2 0 ks) := by exact LL
theorem P7 : KXx 70 42 w1 w q lv l ks (mI l 2 2 ks) := by exact LL
theorem P6 : KXx 70 43 w1 w q lv l ks (eZ l 28 0 ks) := by exact LL
theorem P5 : KXx 70 44 w1 w q lv l ks (seqB l [bw 2, bw 2] ks) := by exact LL
theorem Ou (HN : NdT w1 lv l) (hk : KSt w1 w q lv ks) (hr : ∀ k ∈ ks, 0 ≤ k ∧ k < (l.length : Int)) (k : Int) (h41 : k ≠ 41) (h42 : k ≠ 42) (h43 : k ≠ 43) (h44 : k ≠ 44) :
 Calls Tryz.prog 70 #[.pointer (some ⟨q, 0, none⟩), .int .i64 k] w fun e w' => e = .returned (.bool (F6 l k ks)) ∧ Below w1.heap.size w1 w' := by
 obtain ⟨V, hV⟩ : ∃ V, F6 l k ks = V := ⟨_, rfl⟩;rw [hV];have HV : RowKit.Hid (false = V) := κ (by rw [← hV]; unfold F6; simp [h41, h42, h43, h44]);have HK := κ hk;have HRR := κ hr;have e41 := kne h41;have e42 := kne h42;have e43 := kne h43;have e44 := kne h44;clear hV hk hr h41 h42 h43 h44;go_enter Tryz.func70, Tryz.ntmps70;go_wp2_with fail;go_ret;exact ⟨by rw [← HV.out]; rfl, HK.bel⟩
theorem QF (HN : NdT w1 lv l) (hk : KSt w1 w q lv ks) (hr : ∀ k ∈ ks, 0 ≤ k ∧ k < (l.length : Int)) (k : Int) :
 Calls Tryz.prog 70 #[.pointer (some ⟨q, 0, none⟩), .int .i64 k] w fun e w' => e = .returned (.bool (F6 l k ks)) ∧ Below w1.heap.size w1 w' := by
 by_cases h41 : k = 41
 · subst h41; exact P8 HN hk hr
 by_cases h42 : k = 42
 · subst h42; exact P7 HN hk hr
 by_cases h43 : k = 43
 · subst h43; exact P6 HN hk hr
 by_cases h44 : k = 44
 · subst h44; exact P5 HN hk hr
 exact Ou HN hk hr k h41 h42 h43 h44
end
section
variable {w1 w : World} {q : Nat} {lv : Value} {l : List Nd} {ks : List Int}
theorem Oy (HN : NdT w1 lv l) (hk : KSt w1 w q lv ks) (hr : ∀ k ∈ ks, 0 ≤ k ∧ k < (l.length : Int)) :
 Calls Tryz.prog 116 #[.pointer (some ⟨q, 0, none⟩)] w (MC w1 q lv (true, Aj l ks)) := by
 have HK := κ hk;have HRR := κ hr;clear hk hr;go_enter Tryz.func116, Tryz.ntmps116;go_wp2_with fail;go_loopg [12] (ks.length + 1) (fun g v wr => ∃ (r : List Int) (wx : World), wx = wr ∧ r.length + 1 = g ∧ (∀ c ∈ r, c ∈ ks) ∧ KSt w1 wr q lv r ∧ Aj l ks = Aj l r)
 case atStart => exact ⟨ks, _, rfl, rfl, fun _ h => h, HK, rfl⟩
 case round =>
  obtain ⟨r, wx, rfl, rfl, hsub, hkk, hm⟩ := hrel;have HSUB := κ hsub;have HM := κ hm;have HK := κ hkk;obtain ⟨a, cap, hi, c0, c1, hf⟩ := hkk.reads;clear hm c0 hi hf;cases r with
  | nil =>
   clear hsub hkk;go_wp2_with fail;go_ret;exact ⟨rfl, by rw [HM.out]; exact HK.out⟩
  | cons c t =>
   cases t with
   | nil =>
    clear hsub hkk;go_wp2_with fail;go_ret;exact ⟨rfl, by rw [HM.out]; exact HK.out⟩
   | cons d r =>
    have hon := κ (JN 40 HN hkk (fun c hc => HRR c (hsub c hc)) (by decide));have hl2 : (1 : Int) < (((c :: d :: r).length : Nat) : Int) := by simp only [ξ2]; omega
    clear hsub hkk;go_wp2_with fail;clear hl2;refine hon.out.mono ?_;rintro e w2 ⟨rfl, hk2⟩;clear hon c1 HK;by_cases h40 : kindOf l c = 40
    · have ho : G8 l 40 (c :: d :: r) = (true, d :: r) := by simp [G8, h40]
      have hs : Aj l (c :: d :: r) = Aj l (d :: r) := by show (if kindOf l c = 40 then _ else _) = _; rw [ψi h40]
      rw [ho] at hk2 ⊢;have HS := κ hs;have HK2 := κ hk2;clear hs hk2 ho h40;go_wp2_with fail;go_roundg ((d :: r).length + 1)
      case measure => simp
      case rel => exact ⟨d :: r, _, rfl, rfl, fun c hc => HSUB c (ξA _ hc), HK2, HM.trans HS⟩
    · have ho : G8 l 40 (c :: d :: r) = (false, c :: d :: r) := by simp [G8, h40]
      have hs : Aj l (c :: d :: r) = c :: d :: r := by show (if kindOf l c = 40 then _ else _) = _; rw [ψh h40]
      rw [ho] at hk2 ⊢;have HS := κ hs;have HK2 := κ hk2;clear hs hk2 ho h40;go_wp2_with fail;go_ret;exact ⟨rfl, by rw [HM.out, HS.out]; exact HK2.out⟩
theorem O0 (HN : NdT w1 lv l) (hk : KSt w1 w q lv ks) (hr : ∀ k ∈ ks, 0 ≤ k ∧ k < (l.length : Int)) :
 Calls Tryz.prog 117 #[.pointer (some ⟨q, 0, none⟩), .int .i64 61] w fun e w' => e = .returned (.bool (lH l 61 ks)) ∧ Below w1.heap.size w1 w' := by
 obtain ⟨V, hV⟩ : ∃ V, lH l 61 ks = V := ⟨_, rfl⟩;rw [hV];have HV : RowKit.Hid (eZ l 62 1 (cH (fun c => kindOf l c == 40) ks).2 = V) := κ hV;have HK := κ hk;have HRR := κ hr;clear hV hk hr;go_enter Tryz.func117, Tryz.ntmps117;go_wp2_with fail;go_loopg [9] (ks.length + 1) (fun g v wr => ∃ (r : List Int) (wx : World), wx = wr ∧ r.length + 1 = g ∧ (∀ c ∈ r, c ∈ ks) ∧ KSt w1 wr q lv r ∧ (cH (fun c => kindOf l c == 40) ks).2 = (cH (fun c => kindOf l c == 40) r).2)
 case atStart => exact ⟨ks, _, rfl, rfl, fun _ h => h, HK, rfl⟩
 case round =>
  obtain ⟨r, wx, rfl, rfl, hsub, hkk, hm⟩ := hrel;have HSUB := κ hsub;have hon := κ (JN 40 HN hkk (fun c hc => HRR c (hsub c hc)) (by decide));clear hsub hkk;have HM0 := κ hm;clear hm;go_wp2_with fail;refine hon.out.mono ?_;rintro e w2 ⟨rfl, hk2⟩;clear hon;have hm := HM0.out;rcases EH l 40 r with ⟨c, r', rfl, ho, hs⟩ | ⟨ho, hs⟩
  · rw [ho] at hk2 ⊢;rw [hs] at hm;have HM := κ hm;have HK2 := κ hk2;clear hm hk2 hs ho HM0;go_wp2_with fail;go_roundg (r'.length + 1)
    case measure => simp
    case rel => exact ⟨r', _, rfl, rfl, fun c hc => HSUB c (ξA _ hc), HK2, HM⟩
  · rw [ho] at hk2 ⊢;rw [hs] at hm;have hv_ := HV.out;rw [hm] at hv_;dsimp only at hv_;have hrr := fun c (hc : c ∈ r) => HRR c (HSUB c hc);clear HV HRR hm hs ho HM0 HSUB;have HV := κ hv_;have HK := κ hk2;have HRR := κ hrr;clear hk2 hv_ hrr;go_wp2_with fail;refine (GK 62 1 HN HK HRR (by decide)).mono ?_;rintro e w3 ⟨rfl, hb3⟩;have HE := κ hb3;clear hb3;go_wp2_with fail;go_ret;exact ⟨by rw [← HV.out]; rfl, HE.out⟩
theorem IV {p : Prop} (h : p := by
 refine KXx.of fun V HV => ?_;intro HN hk hr;have HK := κ hk;have HRR := κ hr;clear hk hr;go_enter Tryz.func117, Tryz.ntmps117;exact kx) : p := h
theorem OZ : KXx 117 62 w1 w q lv l ks (mI l 2 0 ks) := by exact IV
theorem OY : KXx 117 63 w1 w q lv l ks (seqB l [(· == 41)] ks) := by exact IV
theorem OX : KXx 117 64 w1 w q lv l ks (mI l 7 1 ks) := by exact IV
theorem OW : KXx 117 65 w1 w q lv l ks (seqB l [(· == 10)] ks) := by exact IV
theorem OV : KXx 117 66 w1 w q lv l ks (seqB l [(· == 50), (· == 50)] ks) := by exact IV
theorem OU : KXx 117 67 w1 w q lv l ks (eZ l 81 1 ks) := by exact IV
theorem OT : KXx 117 68 w1 w q lv l ks (eZ l 31 1 ks) := by exact IV
theorem OQ : KXx 117 69 w1 w q lv l ks (eZ l 70 1 ks) := by exact IV
theorem OP : KXx 117 70 w1 w q lv l ks (seqB l [bw 4] ks) := by exact IV
theorem OO : KXx 117 71 w1 w q lv l ks (eZ l 72 1 ks) := by exact IV
theorem OM : KXx 117 72 w1 w q lv l ks (seqB l [bw 5] ks) := by exact IV
theorem OL : KXx 117 73 w1 w q lv l ks (eZ l 74 1 ks) := by exact IV
theorem OJ : KXx 117 74 w1 w q lv l ks (seqB l [(· == 72), bw 4] ks) := by exact IV
theorem Om (HN : NdT w1 lv l) (hk : KSt w1 w q lv ks) (hr : ∀ k ∈ ks, 0 ≤ k ∧ k < (l.length : Int)) (k : Int) (h61 : k ≠ 61) (h62 : k ≠ 62) (h63 : k ≠ 63) (h64 : k ≠ 64) (h65 : k ≠ 65) (h66 : k ≠ 66) (h67 : k ≠ 67) (h68 : k ≠ 68) (h69 : k ≠ 69) (h70 : k ≠ 70) (h71 : k ≠ 71) (h72 : k ≠ 72) (h73 : k ≠ 73) (h74 : k ≠ 74) :
 Calls Tryz.prog 117 #[.pointer (some ⟨q, 0, none⟩), .int .i64 k] w fun e w' => e = .returned (.bool (lH l k ks)) ∧ Below w1.heap.size w1 w' := by
 obtain ⟨V, hV⟩ : ∃ V, lH l k ks = V := ⟨_, rfl⟩;rw [hV];have HV : RowKit.Hid (false = V) := κ (by rw [← hV]; unfold lH; simp [h61, h62, h63, h64, h65, h66, h67, h68, h69, h70, h71, h72, h73, h74]);have HK := κ hk;have HRR := κ hr;have e61 := kne h61;have e62 := kne h62;have e63 := kne h63;have e64 := kne h64;have e65 := kne h65;have e66 := kne h66;have e67 := kne h67;have e68 := kne h68;have e69 := kne h69;have e70 := kne h70;have e71 := kne h71;have e72 := kne h72;have e73 := kne h73;have e74 := kne h74;clear hV hk hr h61 h62 h63 h64 h65 h66 h67 h68 h69 h70 h71 h72 h73 h74;go_enter Tryz.func117, Tryz.ntmps117;go_wp2_with fail;go_ret;exact ⟨by rw [← HV.out]; rfl, HK.bel⟩
theorem Qk (HN : NdT w1 lv l) (hk : KSt w1 w q lv ks) (hr : ∀ k ∈ ks, 0 ≤ k ∧ k < (l.length : Int)) (k : Int) :
 Calls Tryz.prog 117 #[.pointer (some ⟨q, 0, none⟩), .int .i64 k] w fun e w' => e = .returned (.bool (lH l k ks)) ∧ Below w1.heap.size w1 w' := by
 by_cases h61 : k = 61
 · subst h61; exact O0 HN hk hr
 by_cases h62 : k = 62
 · subst h62; exact OZ HN hk hr
 by_cases h63 : k = 63
 · subst h63; exact OY HN hk hr
 by_cases h64 : k = 64
 · subst h64; exact OX HN hk hr
 by_cases h65 : k = 65
 · subst h65; exact OW HN hk hr
 by_cases h66 : k = 66
 · subst h66; exact OV HN hk hr
 by_cases h67 : k = 67
 · subst h67; exact OU HN hk hr
 by_cases h68 : k = 68
 · subst h68; exact OT HN hk hr
 by_cases h69 : k = 69
 · subst h69; exact OQ HN hk hr
 by_cases h70 : k = 70
 · subst h70; exact OP HN hk hr
 by_cases h71 : k = 71
 · subst h71; exact OO HN hk hr
 by_cases h72 : k = 72
 · subst h72; exact OM HN hk hr
 by_cases h73 : k = 73
 · subst h73; exact OL HN hk hr
 by_cases h74 : k = 74
 · subst h74; exact OJ HN hk hr
 exact Om HN hk hr k h61 h62 h63 h64 h65 h66 h67 h68 h69 h70 h71 h72 h73 h74
theorem IX {p : Prop} (h : p := by
 refine KXx.of fun V HV => ?_;intro HN hk hr;have HK := κ hk;have HRR := κ hr;clear hk hr;go_enter Tryz.func71, Tryz.ntmps71;exact kx) : p := h
theorem PZ : KXx 71 50 w1 w q lv l ks (mI l 3 0 ks) := by exact IX
theorem PY : KXx 71 51 w1 w q lv l ks (eZ l 53 1 ks) := by exact IX
theorem PX : KXx 71 52 w1 w q lv l ks (eZ l 53 1 ks) := by exact IX
theorem PW : KXx 71 53 w1 w q lv l ks (seqB l [bw 1, bw 0] ks) := by exact IX
theorem PV : KXx 71 54 w1 w q lv l ks (eZ l 55 1 ks) := by exact IX
theorem PU : KXx 71 55 w1 w q lv l ks (eZ l 56 1 ks) := by exact IX
theorem PO (HN : NdT w1 lv l) (hk : KSt w1 w q lv ks) (hr : ∀ k ∈ ks, 0 ≤ k ∧ k < (l.length : Int)) :
 Calls Tryz.prog 71 #[.pointer (some ⟨q, 0, none⟩), .int .i64 56] w fun e w' => e = .returned (.bool (iR l 56 ks)) ∧ Below w1.heap.size w1 w' := by
 obtain ⟨V, hV⟩ : ∃ V, iR l 56 ks = V := ⟨_, rfl⟩;rw [hV];have HV : RowKit.Hid (oH l (· == 57) (oH l (bw 0) fun r => r.isEmpty || seqB l [bw 2] r) ks = V) := κ hV;have HK := κ hk;have HRR := κ hr;clear hV hk hr;go_enter Tryz.func71, Tryz.ntmps71;go_wp2_with fail;refine (JN 57 HN HK HRR (by decide)).mono ?_;rintro e w2 ⟨rfl, hk2⟩;obtain ⟨B, r2, hB⟩ : ∃ B r, G8 l 57 ks = (B, r) := ⟨_, _, rfl⟩;have hrr := fun c (hc : c ∈ r2) => HRR.out c (JD (k := 57) (l := l) (by rw [hB]; exact hc));rw [hB] at hk2 ⊢;have hv_ : (if B = true then (oH l (bw 0) fun r => r.isEmpty || seqB l [bw 2] r) r2 else false) = V := by rw [← HV.out, Ll (ks := ks), hB]
 clear HV HK HRR hB;have HK := κ hk2;have HRR := κ hrr;clear hk2 hrr;cases B
 · have HV := κ hv_;clear hv_;have HE := κ HK.bel;go_wp2_with fail;go_ret;exact ⟨by rw [← HV.out]; rfl, HE.out⟩
 have HV : RowKit.Hid ((oH l (bw 0) fun r => r.isEmpty || seqB l [bw 2] r) r2 = V) := κ hv_;clear hv_;go_wp2_with fail;refine (wo 0 (by decide) HN HK HRR).mono ?_;rintro e w3 ⟨rfl, hk3⟩;obtain ⟨B, r3, hB⟩ : ∃ B r, ofG l 0 r2 = (B, r) := ⟨_, _, rfl⟩;have hrr := fun c (hc : c ∈ r3) => HRR.out c (Lh (g := 0) (l := l) (by rw [hB]; exact hc));rw [hB] at hk3 ⊢;have hv_ : (if B = true then (fun r => r.isEmpty || seqB l [bw 2] r) r3 else false) = V := by rw [← HV.out, LO (ks := r2), hB]
 clear HV HK HRR hB;have HK := κ hk3;have HRR := κ hrr;clear hk3 hrr;cases B
 · have HV := κ hv_;clear hv_;have HE := κ HK.bel;go_wp2_with fail;go_ret;exact ⟨by rw [← HV.out]; rfl, HE.out⟩
 have HV : RowKit.Hid ((fun r => r.isEmpty || seqB l [bw 2] r) r3 = V) := κ hv_;clear hv_;go_wp2_with fail;refine (wL HK).mono ?_;rintro e w4 ⟨rfl, hk4⟩;have HK := κ hk4;clear hk4;cases r3 with
 | nil =>
  have HE := κ HK.bel;go_wp2_with fail;go_ret;exact ⟨by rw [← HV.out]; rfl, HE.out⟩
 | cons c0 t0 =>
  have hv_ : seqB l [bw 2] (c0 :: t0) = V := HV.out;have HV := κ hv_;clear hv_;go_wp2_with fail;refine (wo 2 (by decide) HN HK HRR).mono ?_;rintro e w5 ⟨rfl, hk5⟩;obtain ⟨B, r5, hB⟩ : ∃ B r, ofG l 2 (c0 :: t0) = (B, r) := ⟨_, _, rfl⟩;have hrr := fun c (hc : c ∈ r5) => HRR.out c (Lh (g := 2) (l := l) (by rw [hB]; exact hc));rw [hB] at hk5 ⊢;have hv_ : (if B = true then seqB l [] r5 else false) = V := by rw [← HV.out, LH (ks := (c0 :: t0)), hB]
  clear HV HK HRR hB;have HK := κ hk5;have HRR := κ hrr;clear hk5 hrr;cases B
  · have HV := κ hv_;clear hv_;have HE := κ HK.bel;go_wp2_with fail;go_ret;exact ⟨by rw [← HV.out]; rfl, HE.out⟩
  have HV : RowKit.Hid (seqB l [] r5 = V) := κ hv_;clear hv_;go_wp2_with fail;refine (wL HK).mono ?_;rintro e w6 ⟨rfl, hk6⟩;have HE := κ hk6.bel;clear hk6;go_wp2_with fail;go_ret;exact ⟨by rw [← HV.out]; rfl, HE.out⟩
theorem PN : KXx 71 57 w1 w q lv l ks (mI l 1 1 ks) := by exact IX
theorem PL : KXx 71 58 w1 w q lv l ks (eZ l 59 1 ks) := by exact IX
theorem OA {p : Prop} (h : p := by
 go_wp2_with fail;refine (Oy HN HK HRR).mono ?_;rintro e w2 ⟨rfl, hk2⟩;have hrr := fun c (hc : c ∈ Aj l ks) => HRR c (vD hc);have HK := κ hk2;have HRR := κ hrr;clear hk2 hrr;go_wp2_with fail;refine (wo 2 (by decide) HN HK HRR).mono ?_;rintro e w3 ⟨rfl, hk3⟩;obtain ⟨B, r3, hB⟩ : ∃ B r, ofG l 2 (Aj l ks) = (B, r) := ⟨_, _, rfl⟩;have hrr := fun c (hc : c ∈ r3) => HRR.out c (Lh (g := 2) (l := l) (by rw [hB]; exact hc));rw [hB] at hk3 ⊢;have hv_ : (if B = true then seqB l [] r3 else false) = V := by rw [← HV.out, LH (ks := (Aj l ks)), hB]
 clear HV HK HRR hB;have HK := κ hk3;have HRR := κ hrr;clear hk3 hrr;cases B
 · have HV := κ hv_;clear hv_;have HE := κ HK.bel;go_wp2_with fail;go_ret;exact ⟨by rw [← HV.out]; rfl, HE.out⟩
 have HV : RowKit.Hid (seqB l [] r3 = V) := κ hv_;clear hv_;go_wp2_with fail;refine (wL HK).mono ?_;rintro e w4 ⟨rfl, hk4⟩;have HE := κ hk4.bel;clear hk4;go_wp2_with fail;go_ret;exact ⟨by rw [← HV.out]; rfl, HE.out⟩
 ) : p := h
theorem PK (HN : NdT w1 lv l) (hk : KSt w1 w q lv ks) (hr : ∀ k ∈ ks, 0 ≤ k ∧ k < (l.length : Int)) :
 Calls Tryz.prog 71 #[.pointer (some ⟨q, 0, none⟩), .int .i64 59] w fun e w' => e = .returned (.bool (iR l 59 ks)) ∧ Below w1.heap.size w1 w' := by
 obtain ⟨V, hV⟩ : ∃ V, iR l 59 ks = V := ⟨_, rfl⟩;rw [hV];have HV : RowKit.Hid (seqB l [bw 2] (Aj l ks) = V) := κ hV;have HK := κ hk;have HRR := κ hr;clear hV hk hr;go_enter Tryz.func71, Tryz.ntmps71;exact OA
theorem PI : KXx 71 60 w1 w q lv l ks (eZ l 61 1 ks) := by exact IX
theorem Ot (HN : NdT w1 lv l) (hk : KSt w1 w q lv ks) (hr : ∀ k ∈ ks, 0 ≤ k ∧ k < (l.length : Int)) (k : Int) (h50 : k ≠ 50) (h51 : k ≠ 51) (h52 : k ≠ 52) (h53 : k ≠ 53) (h54 : k ≠ 54) (h55 : k ≠ 55) (h56 : k ≠ 56) (h57 : k ≠ 57) (h58 : k ≠ 58) (h59 : k ≠ 59) (h60 : k ≠ 60) :
 Calls Tryz.prog 71 #[.pointer (some ⟨q, 0, none⟩), .int .i64 k] w fun e w' => e = .returned (.bool (iR l k ks)) ∧ Below w1.heap.size w1 w' := by
 obtain ⟨V, hV⟩ : ∃ V, iR l k ks = V := ⟨_, rfl⟩;rw [hV];have HV : RowKit.Hid (lH l k ks = V) := κ (by rw [← hV]; unfold iR; simp [h50, h51, h52, h53, h54, h55, h56, h57, h58, h59, h60]);have HK := κ hk;have HRR := κ hr;have e50 := kne h50;have e51 := kne h51;have e52 := kne h52;have e53 := kne h53;have e54 := kne h54;have e55 := kne h55;have e56 := kne h56;have e57 := kne h57;have e58 := kne h58;have e59 := kne h59;have e60 := kne h60;clear hV hk hr h50 h51 h52 h53 h54 h55 h56 h57 h58 h59 h60;go_enter Tryz.func71, Tryz.ntmps71;go_wp2_with fail;refine (Qk HN HK HRR k).mono ?_;rintro e w2 ⟨rfl, hb2⟩;have HE := κ hb2;clear hb2;go_wp2_with fail;go_ret;exact ⟨by rw [← HV.out]; rfl, HE.out⟩
theorem Qn (HN : NdT w1 lv l) (hk : KSt w1 w q lv ks) (hr : ∀ k ∈ ks, 0 ≤ k ∧ k < (l.length : Int)) (k : Int) :
 Calls Tryz.prog 71 #[.pointer (some ⟨q, 0, none⟩), .int .i64 k] w fun e w' => e = .returned (.bool (iR l k ks)) ∧ Below w1.heap.size w1 w' := by
 by_cases h50 : k = 50
 · subst h50; exact PZ HN hk hr
 by_cases h51 : k = 51
 · subst h51; exact PY HN hk hr
 by_cases h52 : k = 52
 · subst h52; exact PX HN hk hr
 by_cases h53 : k = 53
 · subst h53; exact PW HN hk hr
 by_cases h54 : k = 54
 · subst h54; exact PV HN hk hr
 by_cases h55 : k = 55
 · subst h55; exact PU HN hk hr
 by_cases h56 : k = 56
 · subst h56; exact PO HN hk hr
 by_cases h57 : k = 57
 · subst h57; exact PN HN hk hr
 by_cases h58 : k = 58
 · subst h58; exact PL HN hk hr
 by_cases h59 : k = 59
 · subst h59; exact PK HN hk hr
 by_cases h60 : k = 60
 · subst h60; exact PI HN hk hr
 exact Ot HN hk hr k h50 h51 h52 h53 h54 h55 h56 h57 h58 h59 h60
theorem JA {p : Prop} (h : p := by
 refine KXx.of fun V HV => ?_;intro HN hk hr;have HK := κ hk;have HRR := κ hr;clear hk hr;go_enter Tryz.func69, Tryz.ntmps69;exact kx) : p := h
theorem OI : KXx 69 32 w1 w q lv l ks (seqB l [(· == 31), bw 1] ks) := by exact JA
theorem OH : KXx 69 33 w1 w q lv l ks (mI l 1 0 ks) := by exact JA
theorem OE : KXx 69 36 w1 w q lv l ks (mI l 1 0 ks) := by exact JA
theorem OG (HN : NdT w1 lv l) (hk : KSt w1 w q lv ks) (hr : ∀ k ∈ ks, 0 ≤ k ∧ k < (l.length : Int)) :
 Calls Tryz.prog 69 #[.pointer (some ⟨q, 0, none⟩), .int .i64 34] w fun e w' => e = .returned (.bool (je l 34 ks)) ∧ Below w1.heap.size w1 w' := by
 obtain ⟨V, hV⟩ : ∃ V, je l 34 ks = V := ⟨_, rfl⟩;rw [hV];have HV : RowKit.Hid (((cH (fun c => kindOf l c == 28) ks).2.isEmpty || seqB l [(· == 35)] (cH (fun c => kindOf l c == 28) ks).2) = V) := κ hV;have HK := κ hk;have HRR := κ hr;clear hV hk hr;go_enter Tryz.func69, Tryz.ntmps69;go_wp2_with fail;go_loopg [26] (ks.length + 1) (fun g v wr => ∃ (r : List Int) (wx : World), wx = wr ∧ r.length + 1 = g ∧ (∀ c ∈ r, c ∈ ks) ∧ KSt w1 wr q lv r ∧ (cH (fun c => kindOf l c == 28) ks).2 = (cH (fun c => kindOf l c == 28) r).2)
 case atStart => exact ⟨ks, _, rfl, rfl, fun _ h => h, HK, rfl⟩
 case round =>
  obtain ⟨r, wx, rfl, rfl, hsub, hkk, hm⟩ := hrel;have HSUB := κ hsub;have hon := κ (JN 28 HN hkk (fun c hc => HRR c (hsub c hc)) (by decide));clear hsub hkk;have HM0 := κ hm;clear hm;go_wp2_with fail;refine hon.out.mono ?_;rintro e w2 ⟨rfl, hk2⟩;clear hon;have hm := HM0.out;rcases EH l 28 r with ⟨c, r', rfl, ho, hs⟩ | ⟨ho, hs⟩
  · rw [ho] at hk2 ⊢;rw [hs] at hm;have HM := κ hm;have HK2 := κ hk2;clear hm hk2 hs ho HM0;go_wp2_with fail;go_roundg (r'.length + 1)
    case measure => simp
    case rel => exact ⟨r', _, rfl, rfl, fun c hc => HSUB c (ξA _ hc), HK2, HM⟩
  · rw [ho] at hk2 ⊢;rw [hs] at hm;have hv_ := HV.out;rw [hm] at hv_;dsimp only at hv_;have hrr := fun c (hc : c ∈ r) => HRR c (HSUB c hc);clear HV HRR hm hs ho HM0 HSUB;have HV := κ hv_;have HK := κ hk2;have HRR := κ hrr;clear hk2 hv_ hrr;go_wp2_with fail;refine (wL HK).mono ?_;rintro e w3 ⟨rfl, hk3⟩;have HK := κ hk3;clear hk3;cases r with
    | nil =>
     have HE := κ HK.bel;go_wp2_with fail;go_ret;exact ⟨by rw [← HV.out]; rfl, HE.out⟩
    | cons c0 t0 =>
     have hv_ : seqB l [(· == 35)] (c0 :: t0) = V := HV.out;have HV := κ hv_;clear hv_;go_wp2_with fail;refine (JN 35 HN HK HRR (by decide)).mono ?_;rintro e w4 ⟨rfl, hk4⟩;obtain ⟨B, r4, hB⟩ : ∃ B r, G8 l 35 (c0 :: t0) = (B, r) := ⟨_, _, rfl⟩;have hrr := fun c (hc : c ∈ r4) => HRR.out c (JD (k := 35) (l := l) (by rw [hB]; exact hc));rw [hB] at hk4 ⊢;have hv_ : (if B = true then seqB l [] r4 else false) = V := by rw [← HV.out, LK (ks := (c0 :: t0)), hB]
     clear HV HK HRR hB;have HK := κ hk4;have HRR := κ hrr;clear hk4 hrr;cases B
     · have HV := κ hv_;clear hv_;have HE := κ HK.bel;go_wp2_with fail;go_ret;exact ⟨by rw [← HV.out]; rfl, HE.out⟩
     have HV : RowKit.Hid (seqB l [] r4 = V) := κ hv_;clear hv_;go_wp2_with fail;refine (wL HK).mono ?_;rintro e w5 ⟨rfl, hk5⟩;have HE := κ hk5.bel;clear hk5;go_wp2_with fail;go_ret;exact ⟨by rw [← HV.out]; rfl, HE.out⟩
theorem OD : KXx 69 37 w1 w q lv l ks (seqB l [bw 1, bw 2] ks) := by exact JA
theorem OC : KXx 69 38 w1 w q lv l ks (seqB l [bw 1] ks) := by exact JA
theorem Ol (HN : NdT w1 lv l) (hk : KSt w1 w q lv ks) (hr : ∀ k ∈ ks, 0 ≤ k ∧ k < (l.length : Int)) (k : Int) (h32 : k ≠ 32) (h33 : k ≠ 33) (h36 : k ≠ 36) (h34 : k ≠ 34) (h37 : k ≠ 37) (h38 : k ≠ 38) :
 Calls Tryz.prog 69 #[.pointer (some ⟨q, 0, none⟩), .int .i64 k] w fun e w' => e = .returned (.bool (je l k ks)) ∧ Below w1.heap.size w1 w' := by
 obtain ⟨V, hV⟩ : ∃ V, je l k ks = V := ⟨_, rfl⟩;rw [hV];have HV : RowKit.Hid (false = V) := κ (by rw [← hV]; unfold je; simp [h32, h33, h36, h34, h37, h38]);have HK := κ hk;have HRR := κ hr;have e32 := kne h32;have e33 := kne h33;have e36 := kne h36;have e34 := kne h34;have e37 := kne h37;have e38 := kne h38;clear hV hk hr h32 h33 h36 h34 h37 h38;go_enter Tryz.func69, Tryz.ntmps69;go_wp2_with fail;go_ret;exact ⟨by rw [← HV.out]; rfl, HK.bel⟩
theorem Qj (HN : NdT w1 lv l) (hk : KSt w1 w q lv ks) (hr : ∀ k ∈ ks, 0 ≤ k ∧ k < (l.length : Int)) (k : Int) :
 Calls Tryz.prog 69 #[.pointer (some ⟨q, 0, none⟩), .int .i64 k] w fun e w' => e = .returned (.bool (je l k ks)) ∧ Below w1.heap.size w1 w' := by
 by_cases h32 : k = 32
 · subst h32; exact OI HN hk hr
 by_cases h33 : k = 33
 · subst h33; exact OH HN hk hr
 by_cases h36 : k = 36
 · subst h36; exact OE HN hk hr
 by_cases h34 : k = 34
 · subst h34; exact OG HN hk hr
 by_cases h37 : k = 37
 · subst h37; exact OD HN hk hr
 by_cases h38 : k = 38
 · subst h38; exact OC HN hk hr
 exact Ol HN hk hr k h32 h33 h36 h34 h37 h38
theorem IU {p : Prop} (h : p := by
 refine KXx.of fun V HV => ?_;intro HN hk hr;have HK := κ hk;have HRR := κ hr;clear hk hr;go_enter Tryz.func72, Tryz.ntmps72;exact kx) : p := h
theorem Pg : KXx 72 80 w1 w q lv l ks (seqB l [(· == 50)] ks) := by exact IU
theorem Pf : KXx 72 82 w1 w q lv l ks (seqB l [bw 4] ks) := by exact IU
theorem Pe : KXx 72 83 w1 w q lv l ks (seqB l [bw 4, bw 5] ks) := by exact IU
theorem Pd : KXx 72 84 w1 w q lv l ks (seqB l [bw 4, bw 5] ks) := by exact IU
theorem Pb : KXx 72 85 w1 w q lv l ks (seqB l [(· == 50), bw 4] ks) := by exact IU
theorem O9 : KXx 72 90 w1 w q lv l ks (mI l 6 0 ks) := by exact IU
theorem O8 : KXx 72 92 w1 w q lv l ks (seqB l [bw 5, (· == 93)] ks) := by exact IU
theorem O7 (HN : NdT w1 lv l) (hk : KSt w1 w q lv ks) (hr : ∀ k ∈ ks, 0 ≤ k ∧ k < (l.length : Int)) :
 Calls Tryz.prog 72 #[.pointer (some ⟨q, 0, none⟩), .int .i64 93] w fun e w' => e = .returned (.bool (mK l 93 ks)) ∧ Below w1.heap.size w1 w' := by
 obtain ⟨V, hV⟩ : ∃ V, mK l 93 ks = V := ⟨_, rfl⟩;rw [hV];have HV : RowKit.Hid (seqB l [bw 2] (Aj l ks) = V) := κ hV;have HK := κ hk;have HRR := κ hr;clear hV hk hr;go_enter Tryz.func72, Tryz.ntmps72;exact OA
theorem O6 : KXx 72 94 w1 w q lv l ks (eZ l 62 1 ks) := by exact IU
theorem O5 : KXx 72 95 w1 w q lv l ks (eZ l 62 1 ks) := by exact IU
theorem O4 : KXx 72 96 w1 w q lv l ks (eZ l 62 1 ks) := by exact IU
theorem O1 : KXx 72 99 w1 w q lv l ks (eZ l 62 1 ks) := by exact IU
theorem O3 : KXx 72 97 w1 w q lv l ks (eZ l 59 1 ks) := by exact IU
theorem O2 : KXx 72 98 w1 w q lv l ks (eZ l 61 1 ks) := by exact IU
theorem Ov : KXx 72 100 w1 w q lv l ks (eZ l 72 1 ks) := by exact IU
theorem Oo (HN : NdT w1 lv l) (hk : KSt w1 w q lv ks) (hr : ∀ k ∈ ks, 0 ≤ k ∧ k < (l.length : Int)) (k : Int) (h80 : k ≠ 80) (h82 : k ≠ 82) (h83 : k ≠ 83) (h84 : k ≠ 84) (h85 : k ≠ 85) (h90 : k ≠ 90) (h92 : k ≠ 92) (h93 : k ≠ 93) (h94 : k ≠ 94) (h95 : k ≠ 95) (h96 : k ≠ 96) (h99 : k ≠ 99) (h97 : k ≠ 97) (h98 : k ≠ 98) (h100 : k ≠ 100) :
 Calls Tryz.prog 72 #[.pointer (some ⟨q, 0, none⟩), .int .i64 k] w fun e w' => e = .returned (.bool (mK l k ks)) ∧ Below w1.heap.size w1 w' := by
 obtain ⟨V, hV⟩ : ∃ V, mK l k ks = V := ⟨_, rfl⟩;rw [hV];have HV : RowKit.Hid (false = V) := κ (by rw [← hV]; unfold mK; simp [h80, h82, h83, h84, h85, h90, h92, h93, h94, h95, h96, h99, h97, h98, h100]);have HK := κ hk;have HRR := κ hr;have e80 := kne h80;have e82 := kne h82;have e83 := kne h83;have e84 := kne h84;have e85 := kne h85;have e90 := kne h90;have e92 := kne h92;have e93 := kne h93;have e94 := kne h94;have e95 := kne h95;have e96 := kne h96;have e99 := kne h99;have e97 := kne h97;have e98 := kne h98;have e100 := kne h100;clear hV hk hr h80 h82 h83 h84 h85 h90 h92 h93 h94 h95 h96 h99 h97 h98 h100;go_enter Tryz.func72, Tryz.ntmps72;go_wp2_with fail;go_ret;exact ⟨by rw [← HV.out]; rfl, HK.bel⟩
theorem Ql (HN : NdT w1 lv l) (hk : KSt w1 w q lv ks) (hr : ∀ k ∈ ks, 0 ≤ k ∧ k < (l.length : Int)) (k : Int) :
 Calls Tryz.prog 72 #[.pointer (some ⟨q, 0, none⟩), .int .i64 k] w fun e w' => e = .returned (.bool (mK l k ks)) ∧ Below w1.heap.size w1 w' := by
 by_cases h80 : k = 80
 · subst h80; exact Pg HN hk hr
 by_cases h82 : k = 82
 · subst h82; exact Pf HN hk hr
 by_cases h83 : k = 83
 · subst h83; exact Pe HN hk hr
 by_cases h84 : k = 84
 · subst h84; exact Pd HN hk hr
 by_cases h85 : k = 85
 · subst h85; exact Pb HN hk hr
 by_cases h90 : k = 90
 · subst h90; exact O9 HN hk hr
 by_cases h92 : k = 92
 · subst h92; exact O8 HN hk hr
 by_cases h93 : k = 93
 · subst h93; exact O7 HN hk hr
 by_cases h94 : k = 94
 · subst h94; exact O6 HN hk hr
 by_cases h95 : k = 95
 · subst h95; exact O5 HN hk hr
 by_cases h96 : k = 96
 · subst h96; exact O4 HN hk hr
 by_cases h99 : k = 99
 · subst h99; exact O1 HN hk hr
 by_cases h97 : k = 97
 · subst h97; exact O3 HN hk hr
 by_cases h98 : k = 98
 · subst h98; exact O2 HN hk hr
 by_cases h100 : k = 100
 · subst h100; exact Ov HN hk hr
 exact Oo HN hk hr k h80 h82 h83 h84 h85 h90 h92 h93 h94 h95 h96 h99 h97 h98 h100
end
end Go.Proofs.YtbchkldhnjahaaaGreatDoor
namespace Kiln
theorem JE {l : List Nd} {g : Nat} {c : Int} {r r' : List Int} (h : ofG l g (c :: r) = (true, r')) : bw g (kindOf l c) = true := by
 simp only [ofG] at h;split at h
 · assumption
 · simp at h
theorem Jz {l : List Nd} {g : Nat} {c : Int} {r r' : List Int} (h : ofG l g (c :: r) = (false, r')) : bw g (kindOf l c) = false := by
 simp only [ofG] at h;split at h
 · simp at h
 · rename_i h1; simpa using h1
def Jr (l : List Nd) (ks : List Int) : Bool := seqB l [fun k => bw 0 k || bw 1 k || bw 2 k] ks
theorem IY {l : List Nd} {c : Int} {r : List Int} (h : (bw 0 (kindOf l c) || bw 1 (kindOf l c) || bw 2 (kindOf l c)) = true) : Jr l (c :: r) = r.isEmpty := by
 unfold Jr;simp only [seqB, h, Bool.true_and]
theorem LI {l : List Nd} {ks : List Int} (h0 : ofG l 0 ks = (false, ks)) (h1 : ofG l 1 ks = (false, ks)) (h2 : ofG l 2 ks = (false, ks)) : Jr l ks = false := by
 cases ks with
 | nil => rfl
 | cons c r =>
  unfold Jr;simp only [seqB, Jz h0, Jz h1, Jz h2, Bool.or_self, Bool.false_and]
end Kiln
namespace Go.Proofs.YtbchkldhnjahaaaGreatDoor
open Go.RowKit Kiln
open Go.Proofs
section
variable {w1 w : World} {q : Nat} {lv : Value} {l : List Nd} {ks : List Int}
theorem Ox (HN : NdT w1 lv l) (hk : KSt w1 w q lv ks) (hr : ∀ k ∈ ks, 0 ≤ k ∧ k < (l.length : Int)) :
 Calls Tryz.prog 67 #[.pointer (some ⟨q, 0, none⟩)] w fun e w' => e = .returned (.bool (Jr l ks)) ∧ Below w1.heap.size w1 w' := by
 obtain ⟨V, hV⟩ : ∃ V, Jr l ks = V := ⟨_, rfl⟩;rw [hV];have HV := κ hV;have HK := κ hk;have HRR := κ hr;clear hV hk hr;go_enter Tryz.func67, Tryz.ntmps67;go_wp2_with fail;refine (wo 0 (by decide) HN HK HRR).mono ?_;rintro e w2 ⟨rfl, hk2⟩;rcases G9 l 0 ks with ⟨c, r', rfl, ho, -⟩ | ⟨ho0, -⟩
 · have hv_ := (IY (l := l) (r := r') (by rw [JE ho]; rfl)).symm.trans HV.out;rw [ho] at hk2 ⊢;clear HV HK HRR ho;have HV := κ hv_;have HK := κ hk2;clear hv_ hk2;go_wp2_with fail;refine (wL HK).mono ?_;rintro e w3 ⟨rfl, hk3⟩;have HE := κ hk3.bel;clear hk3;go_wp2_with fail;go_ret;exact ⟨by rw [← HV.out]; rfl, HE.out⟩
 have H0 := κ ho0;rw [ho0] at hk2 ⊢;clear ho0 HK;have HK := κ hk2;clear hk2;go_wp2_with fail;refine (wo 1 (by decide) HN HK HRR).mono ?_;rintro e w3 ⟨rfl, hk2⟩;rcases G9 l 1 ks with ⟨c, r', rfl, ho, -⟩ | ⟨ho1, -⟩
 · have hv_ := (IY (l := l) (r := r') (by rw [JE ho]; simp)).symm.trans HV.out;rw [ho] at hk2 ⊢;clear HV HK HRR ho;have HV := κ hv_;have HK := κ hk2;clear hv_ hk2;go_wp2_with fail;refine (wL HK).mono ?_;rintro e w4 ⟨rfl, hk3⟩;have HE := κ hk3.bel;clear hk3;go_wp2_with fail;go_ret;exact ⟨by rw [← HV.out]; rfl, HE.out⟩
 have H1 := κ ho1;rw [ho1] at hk2 ⊢;clear ho1 HK;have HK := κ hk2;clear hk2;go_wp2_with fail;refine (wo 2 (by decide) HN HK HRR).mono ?_;rintro e w4 ⟨rfl, hk2⟩;rcases G9 l 2 ks with ⟨c, r', rfl, ho, -⟩ | ⟨ho2, -⟩
 · have hv_ := (IY (l := l) (r := r') (by rw [JE ho]; simp)).symm.trans HV.out;rw [ho] at hk2 ⊢;clear HV HK HRR ho;have HV := κ hv_;have HK := κ hk2;clear hv_ hk2;go_wp2_with fail;refine (wL HK).mono ?_;rintro e w5 ⟨rfl, hk3⟩;have HE := κ hk3.bel;clear hk3;go_wp2_with fail;go_ret;exact ⟨by rw [← HV.out]; rfl, HE.out⟩
 have hv_ := (LI H0 H1 ho2).symm.trans HV;rw [ho2] at hk2 ⊢;clear HV ho2;have HV := κ hv_;have HE := κ hk2.bel;clear hv_ hk2;go_wp2_with fail;go_ret;exact ⟨by rw [← HV.out]; rfl, HE.out⟩
end
end Go.Proofs.YtbchkldhnjahaaaGreatDoor
namespace Kiln
theorem LN {l : List Nd} {k : Int} {lo hi : Nat} {g : Int → Bool} {c : Int} {r : List Int} {n : Nd} (hn : l[c.toNat]? = some n) :
 inB l k lo hi g (c :: r) = ((!(n.kind == k) || (decide (lo ≤ n.kids.length) && decide (n.kids.length ≤ hi) && n.kids.all fun j => decide (0 ≤ j) && decide (j < c) && g (kindOf l j))) && inB l k lo hi g r) := by
 unfold inB;rw [List.all_cons, hn]
theorem drop_at {α : Type} {l : List α} {t : Nat} {x : α} (h : l[t]? = some x) : l.drop t = x :: l.drop (t + 1) := by
 obtain ⟨hlt, rfl⟩ := ξz.1 h;exact ξp hlt
end Kiln
namespace Go.Proofs.YtbchkldhnjahaaaGreatDoor
open Go.RowKit Kiln
open Go.Proofs
section
variable {w1 w : World} {q : Nat} {lv : Value} {l : List Nd} {ks : List Int}
theorem Qo (G gb : Nat) (hG : G ≤ 7) (k : Int) (W : World) (h : W.cell? ⟨gb, 0, none⟩ = some (.int .i64 G)) :
 Calls Tryz.prog 148 #[.int .i64 k, .pointer (some ⟨gb, 0, none⟩)] W fun e w' => e = .returned (.bool (bw G k)) ∧ w' = W := by
 go_enter Tryz.func148, Tryz.ntmps148;go_wp2_with fail;refine (CC G k W hG).mono ?_;rintro e w2 ⟨rfl, rfl⟩;go_wp2_with fail;go_ret;exact ⟨rfl, rfl⟩
theorem Lm (k : Int) (W : World) :
 Calls Tryz.prog 111 #[.int .i64 k] W fun e w' => e = .returned (.bool (k == 40)) ∧ w' = W := by
 go_enter Tryz.func111, Tryz.ntmps111;go_wp2_with fail;go_ret;exact ⟨rfl, rfl⟩
theorem Qq {p : Prop} (h : p := by
 go_wp2_with fail;go_ret;exact ⟨by rw [← HV.out]; rfl, by (repeat (first | with_reducible exact ξf _ _ | with_reducible refine bQ ?_ _ | with_reducible refine iK ?_ _ | with_reducible refine jZ ?_ | (with_reducible refine jJ ?_ (by first | exact ξF _ | omega | (simp; done) | (simp; omega)) _) | assumption))⟩
 ) : p := h
theorem IW (G gb : Nat) (hG : G ≤ 7) (hgl : gb < w.heap.size) (hgc : w.cell? ⟨gb, 0, none⟩ = some (.int .i64 G)) (k : Int) (lo hi : Nat) (HN : NdT w1 lv l) (hk : KSt w1 w q lv ks) (hr : ∀ k ∈ ks, 0 ≤ k ∧ k < (l.length : Int)) (hll : l.length ≤ 4398046511104) :
 Calls Tryz.prog 109 #[.pointer (some ⟨q, 0, none⟩), .int .i64 k, .int .i64 lo, .int .i64 hi, .func (.func 148) #[] #[.pointer (some ⟨gb, 0, none⟩)]] w fun e w' => e = .returned (.bool (inB l k lo hi (bw G) ks)) ∧ Below w.heap.size w w' := by
 have HGC := κ hgc;clear hgc;obtain ⟨V, hV⟩ : ∃ V, inB l k lo hi (bw G) ks = V := ⟨_, rfl⟩;rw [hV];have HV := κ hV;have HK := κ hk;have HRR := κ hr;have hln := hk.form;obtain ⟨la, lc, rfl, -⟩ := id HN;obtain ⟨ka, kc, hi_, c0, c1, -⟩ := hk.reads;have HI := κ hi_;clear hV hk hr hi_;go_enter Tryz.func109, Tryz.ntmps109;go_wp2_with fail;clear c0 c1;go_loopg [21] (ks.length + 1) (fun g v wr => ∃ (t : Nat) (wx : World), wx = wr ∧ v = .int .i64 (t : Nat) ∧ t + g = ks.length + 1 ∧ t ≤ ks.length ∧ Below w.heap.size w wr ∧ inB l k lo hi (bw G) (ks.drop t) = V)
 case atStart => exact ⟨0, _, rfl, rfl, by omega, ξM _, ξf _ _, HV⟩
 case round =>
  obtain ⟨t, wx1, rfl, rfl, hg, ht, hb, hv⟩ := hrel;have HB := κ hb;have HV := κ hv;have hsz := hb.size;clear hb hv;by_cases hlt : t < ks.length
  · obtain ⟨c, hc⟩ : ∃ c, ks[t]? = some c := ⟨_, ξw hlt⟩;obtain ⟨hc0, hc1⟩ := HRR.out c (ξB hc);obtain ⟨cn, rfl⟩ : ∃ cn : Nat, c = cn := ⟨c.toNat, by omega⟩;obtain ⟨nd, hnd⟩ : ∃ nd, l[cn]? = some nd := ⟨_, ξw (by omega)⟩;obtain ⟨rb, roff, rfl, hcell⟩ := ints_at HI hc;have hk1 := HK.below HB;have e1 : wx1.cell? ⟨rb, roff + t, none⟩ = some (.int .i64 cn) := cell_later hk1.bel hcell;obtain ⟨ka1, kc1, -, c0, -, -⟩ := hk1.reads;obtain ⟨bn, offn, capn, pv, kv, hlv, hpv, hkv, hnc⟩ := HN.one hnd;simp only [ξR] at hlv;obtain ⟨rfl, -, rfl⟩ := hlv;obtain ⟨pa, pcap, rfl, -⟩ := id hpv;obtain ⟨na, ncap, rfl, hkc, hkm, -⟩ := id hkv;unfold maxLen at hkm;have HKV := κ hkv;have n0 : wx1.cell? ⟨bn, offn + cn * 6, none⟩ = some (.int .i64 nd.kind) := cell_later hk1.bel (hnc 0 _ rfl _ rfl);have n1 : wx1.cell? ⟨bn, offn + cn * 6 + 1, none⟩ = some (str nd.text) := cell_later hk1.bel (hnc 1 _ rfl _ rfl);have n2 : wx1.cell? ⟨bn, offn + cn * 6 + 2, none⟩ = some (.slice pa nd.path.length pcap) := cell_later hk1.bel (hnc 2 _ rfl _ rfl);have n3 : wx1.cell? ⟨bn, offn + cn * 6 + 3, none⟩ = some (.slice na nd.kids.length ncap) := cell_later hk1.bel (hnc 3 _ rfl _ rfl);have n4 : wx1.cell? ⟨bn, offn + cn * 6 + 4, none⟩ = some (.int .i64 nd.line) := cell_later hk1.bel (hnc 4 _ rfl _ rfl);have n5 : wx1.cell? ⟨bn, offn + cn * 6 + 5, none⟩ = some (.int .i64 nd.col) := cell_later hk1.bel (hnc 5 _ rfl _ rfl);have hti : (t : Int) < (ks.length : Int) := by omega
    obtain ⟨fv, rfl⟩ : ∃ fv, gk = fv + 1 := ⟨gk - 1, by omega⟩;have hv_ := HV.out;rw [drop_at hc, LN (by simpa using hnd)] at hv_;clear HV hc hnc hpv hkv hcell hnd;have HV := κ hv_;have HK1 := κ hk1;clear hv_ hk1;by_cases hkd : nd.kind = k
    · subst hkd;have hv_ := HV.out;rw [beq_self_eq_true, Bool.not_true, Bool.false_or] at hv_;have HV := κ hv_;clear hv_;by_cases hlo : lo ≤ nd.kids.length
      · by_cases hhi : nd.kids.length ≤ hi
        · have hv_ : ((nd.kids.all (fun j => decide (0 ≤ j) && decide (j < (cn : Int)) && (bw G) (kindOf l j))) && inB l nd.kind lo hi (bw G) (ks.drop (t + 1))) = V := by rw [← HV.out]; simp [hlo, hhi]
          have HV := κ hv_;clear hv_;have hlo2 : ¬ ((nd.kids.length : Int) < (lo : Int)) := by omega
          have hhi2 : ¬ ((hi : Int) < (nd.kids.length : Int)) := by omega
          go_wp2_with fail;clear e1 n0 n1 n2 n3 n4 n5 c0 hlo2 hhi2;go_loopg [51] (nd.kids.length + 1) (fun g v wr => ∃ (t2 : Nat) (wx : World), wx = wr ∧ v = .int .i64 (t2 : Nat) ∧ t2 + g = nd.kids.length + 1 ∧ t2 ≤ nd.kids.length ∧ Below w.heap.size w wr ∧ (((nd.kids.drop t2).all (fun j => decide (0 ≤ j) && decide (j < (cn : Int)) && (bw G) (kindOf l j))) && inB l nd.kind lo hi (bw G) (ks.drop (t + 1))) = V)
          case atStart => exact ⟨0, _, rfl, rfl, by omega, ξM _, HB.alloc hsz _, HV⟩
          case round =>
           clear HV HB HK1 hsz;obtain ⟨t2, wx2, rfl, rfl, hg2, ht2, hb, hv⟩ := hrel;have HB := κ hb;have HV := κ hv;have hsz := hb.size;have hk2 := HK.below hb;have HK2 := κ hk2;clear hv;by_cases hlt2 : t2 < nd.kids.length
           · obtain ⟨j, hj⟩ : ∃ j, nd.kids[t2]? = some j := ⟨_, ξw hlt2⟩;obtain ⟨rb2, roff2, rfl, hcell2⟩ := ints_at HKV hj;have e2 : wx2.cell? ⟨rb2, roff2 + t2, none⟩ = some (.int .i64 j) := cell_later hk2.bel hcell2;have hti2 : (t2 : Int) < (nd.kids.length : Int) := by omega
             obtain ⟨fu, rfl⟩ : ∃ fu, gk = fu + 1 := ⟨gk - 1, by omega⟩;have hv_ := HV.out;rw [drop_at hj, List.all_cons] at hv_;clear HV hj hcell2 hb hk2;have HV := κ hv_;clear hv_;by_cases hj0 : j < 0
             · have hv_ : false = V := by rw [← HV.out]; simp [show ¬ 0 ≤ j by omega]
               have HV := κ hv_;clear hv_;go_wp2_with fail;go_ret;exact ⟨by rw [← HV.out]; rfl, HB.out⟩
             by_cases hj1 : j < (cn : Int)
             rotate_left
             · have hv_ : false = V := by rw [← HV.out]; simp [hj1]
               have HV := κ hv_;have hj2 : (cn : Int) ≤ j := by omega
               clear hv_;go_wp2_with fail;go_ret;exact ⟨by rw [← HV.out]; rfl, HB.out⟩
             have hj2 : ¬ (cn : Int) ≤ j := by omega
             obtain ⟨jn, rfl⟩ : ∃ jn : Nat, j = jn := ⟨j.toNat, by omega⟩;obtain ⟨nd2, hnd2⟩ : ∃ nd2, l[jn]? = some nd2 := ⟨_, ξw (by omega)⟩;have hkn : kindOf l (jn : Int) = nd2.kind := by simp [kindOf, hnd2]
             have hv_ : (((bw G) nd2.kind && (nd.kids.drop (t2 + 1)).all (fun j => decide (0 ≤ j) && decide (j < (cn : Int)) && (bw G) (kindOf l j))) && inB l nd.kind lo hi (bw G) (ks.drop (t + 1))) = V := by rw [← HV.out, hkn]; simp [hj1]
             clear HV hkn;obtain ⟨bn2, offn2, capn2, pv2, kv2, hlv2, -, -, hnc2⟩ := HN.one hnd2;simp only [ξR, ξO, Addr.mk.injEq, and_true] at hlv2;obtain ⟨⟨rfl, rfl⟩, -, rfl⟩ := hlv2;have m0 : wx2.cell? ⟨bn, offn + jn * 6, none⟩ = some (.int .i64 nd2.kind) := cell_later HK2.bel (hnc2 0 _ rfl _ rfl);obtain ⟨ka2, kc2, -, c0, -, -⟩ := HK2.reads;have hjl : (jn : Int) < (l.length : Int) := by have := (ξz.1 hnd2).1; omega
             obtain ⟨B, hB⟩ : ∃ B, (bw G) nd2.kind = B := ⟨_, rfl⟩;rw [hB] at hv_;have HV := κ hv_;have HBB := κ hB;clear hv_ hB hnc2 hnd2;go_wp2_with fail;refine (Qo G gb hG nd2.kind wx2 (cell_later HB HGC)).mono ?_;rintro e w7 ⟨rfl, rfl⟩;rw [HBB.out];clear m0 c0 e2;cases B
             · have hv_ : false = V := HV.out;have HV := κ hv_;clear hv_;go_wp2_with fail;go_ret;exact ⟨by rw [← HV.out]; rfl, HB.out⟩
             · have hv_ : (((nd.kids.drop (t2 + 1)).all (fun j => decide (0 ≤ j) && decide (j < (cn : Int)) && (bw G) (kindOf l j))) && inB l nd.kind lo hi (bw G) (ks.drop (t + 1))) = V := by rw [← HV.out, Bool.true_and]
               have HV := κ hv_;clear hv_;go_wp2_with fail;go_roundg fu
               case measure => omega
               case rel => exact ⟨t2 + 1, _, rfl, rfl, by omega, by omega, HB, HV⟩
           · obtain rfl : t2 = nd.kids.length := by omega
             have hv_ : inB l nd.kind lo hi (bw G) (ks.drop (t + 1)) = V := by rw [← HV.out, List.drop_length]; simp
             clear HV hb hk2;have HV := κ hv_;clear hv_;go_wp2_with fail;go_roundg fv
             case measure => omega
             case rel => exact ⟨t + 1, _, rfl, rfl, by omega, by omega, HB, HV⟩
        · have hv_ : false = V := by rw [← HV.out]; simp [hhi]
          have HV := κ hv_;clear hv_;have hlo2 : ¬ ((nd.kids.length : Int) < (lo : Int)) := by omega
          have hhi2 : (hi : Int) < (nd.kids.length : Int) := by omega
          exact Qq
      · have hv_ : false = V := by rw [← HV.out]; simp [hlo]
        have HV := κ hv_;clear hv_;have hlo2 : (nd.kids.length : Int) < (lo : Int) := by omega
        exact Qq
    · have hkb : (nd.kind == k) = false := by rw [ξY]; exact hkd
      have hv_ : inB l k lo hi (bw G) (ks.drop (t + 1)) = V := by rw [← HV.out, hkb]; simp
      clear HV hkd;have HV := κ hv_;clear hv_;go_wp2_with fail;go_roundg fv
      case measure => omega
      case rel => exact ⟨t + 1, _, rfl, rfl, by omega, by omega, HB.alloc hsz _, HV⟩
  · obtain rfl : t = ks.length := by omega
    have hv_ : true = V := by rw [← HV.out, List.drop_length]; rfl
    have HV := κ hv_;clear hv_;go_wp2_with fail;go_ret;exact ⟨by rw [← HV.out]; rfl, HB.out⟩
theorem LM (k : Int) (lo hi : Nat) (HN : NdT w1 lv l) (hk : KSt w1 w q lv ks) (hr : ∀ k ∈ ks, 0 ≤ k ∧ k < (l.length : Int)) (hll : l.length ≤ 4398046511104) :
 Calls Tryz.prog 109 #[.pointer (some ⟨q, 0, none⟩), .int .i64 k, .int .i64 lo, .int .i64 hi, .func (.func 111) #[] #[]] w fun e w' => e = .returned (.bool (inB l k lo hi (fun k => k == 40) ks)) ∧ Below w.heap.size w w' := by
 obtain ⟨V, hV⟩ : ∃ V, inB l k lo hi (fun k => k == 40) ks = V := ⟨_, rfl⟩;rw [hV];have HV := κ hV;have HK := κ hk;have HRR := κ hr;have hln := hk.form;obtain ⟨la, lc, rfl, -⟩ := id HN;obtain ⟨ka, kc, hi_, c0, c1, -⟩ := hk.reads;have HI := κ hi_;clear hV hk hr hi_;go_enter Tryz.func109, Tryz.ntmps109;go_wp2_with fail;clear c0 c1;go_loopg [21] (ks.length + 1) (fun g v wr => ∃ (t : Nat) (wx : World), wx = wr ∧ v = .int .i64 (t : Nat) ∧ t + g = ks.length + 1 ∧ t ≤ ks.length ∧ Below w.heap.size w wr ∧ inB l k lo hi (fun k => k == 40) (ks.drop t) = V)
 case atStart => exact ⟨0, _, rfl, rfl, by omega, ξM _, ξf _ _, HV⟩
 case round =>
  obtain ⟨t, wx1, rfl, rfl, hg, ht, hb, hv⟩ := hrel;have HB := κ hb;have HV := κ hv;have hsz := hb.size;clear hb hv;by_cases hlt : t < ks.length
  · obtain ⟨c, hc⟩ : ∃ c, ks[t]? = some c := ⟨_, ξw hlt⟩;obtain ⟨hc0, hc1⟩ := HRR.out c (ξB hc);obtain ⟨cn, rfl⟩ : ∃ cn : Nat, c = cn := ⟨c.toNat, by omega⟩;obtain ⟨nd, hnd⟩ : ∃ nd, l[cn]? = some nd := ⟨_, ξw (by omega)⟩;obtain ⟨rb, roff, rfl, hcell⟩ := ints_at HI hc;have hk1 := HK.below HB;have e1 : wx1.cell? ⟨rb, roff + t, none⟩ = some (.int .i64 cn) := cell_later hk1.bel hcell;obtain ⟨ka1, kc1, -, c0, -, -⟩ := hk1.reads;obtain ⟨bn, offn, capn, pv, kv, hlv, hpv, hkv, hnc⟩ := HN.one hnd;simp only [ξR] at hlv;obtain ⟨rfl, -, rfl⟩ := hlv;obtain ⟨pa, pcap, rfl, -⟩ := id hpv;obtain ⟨na, ncap, rfl, hkc, hkm, -⟩ := id hkv;unfold maxLen at hkm;have HKV := κ hkv;have n0 : wx1.cell? ⟨bn, offn + cn * 6, none⟩ = some (.int .i64 nd.kind) := cell_later hk1.bel (hnc 0 _ rfl _ rfl);have n1 : wx1.cell? ⟨bn, offn + cn * 6 + 1, none⟩ = some (str nd.text) := cell_later hk1.bel (hnc 1 _ rfl _ rfl);have n2 : wx1.cell? ⟨bn, offn + cn * 6 + 2, none⟩ = some (.slice pa nd.path.length pcap) := cell_later hk1.bel (hnc 2 _ rfl _ rfl);have n3 : wx1.cell? ⟨bn, offn + cn * 6 + 3, none⟩ = some (.slice na nd.kids.length ncap) := cell_later hk1.bel (hnc 3 _ rfl _ rfl);have n4 : wx1.cell? ⟨bn, offn + cn * 6 + 4, none⟩ = some (.int .i64 nd.line) := cell_later hk1.bel (hnc 4 _ rfl _ rfl);have n5 : wx1.cell? ⟨bn, offn + cn * 6 + 5, none⟩ = some (.int .i64 nd.col) := cell_later hk1.bel (hnc 5 _ rfl _ rfl);have hti : (t : Int) < (ks.length : Int) := by omega
    obtain ⟨fv, rfl⟩ : ∃ fv, gk = fv + 1 := ⟨gk - 1, by omega⟩;have hv_ := HV.out;rw [drop_at hc, LN (by simpa using hnd)] at hv_;clear HV hc hnc hpv hkv hcell hnd;have HV := κ hv_;have HK1 := κ hk1;clear hv_ hk1;by_cases hkd : nd.kind = k
    · subst hkd;have hv_ := HV.out;rw [beq_self_eq_true, Bool.not_true, Bool.false_or] at hv_;have HV := κ hv_;clear hv_;by_cases hlo : lo ≤ nd.kids.length
      · by_cases hhi : nd.kids.length ≤ hi
        · have hv_ : ((nd.kids.all (fun j => decide (0 ≤ j) && decide (j < (cn : Int)) && (fun k => k == 40) (kindOf l j))) && inB l nd.kind lo hi (fun k => k == 40) (ks.drop (t + 1))) = V := by rw [← HV.out]; simp [hlo, hhi]
          have HV := κ hv_;clear hv_;have hlo2 : ¬ ((nd.kids.length : Int) < (lo : Int)) := by omega
          have hhi2 : ¬ ((hi : Int) < (nd.kids.length : Int)) := by omega
          go_wp2_with fail;clear e1 n0 n1 n2 n3 n4 n5 c0 hlo2 hhi2;go_loopg [51] (nd.kids.length + 1) (fun g v wr => ∃ (t2 : Nat) (wx : World), wx = wr ∧ v = .int .i64 (t2 : Nat) ∧ t2 + g = nd.kids.length + 1 ∧ t2 ≤ nd.kids.length ∧ Below w.heap.size w wr ∧ (((nd.kids.drop t2).all (fun j => decide (0 ≤ j) && decide (j < (cn : Int)) && (fun k => k == 40) (kindOf l j))) && inB l nd.kind lo hi (fun k => k == 40) (ks.drop (t + 1))) = V)
          case atStart => exact ⟨0, _, rfl, rfl, by omega, ξM _, HB.alloc hsz _, HV⟩
          case round =>
           clear HV HB HK1 hsz;obtain ⟨t2, wx2, rfl, rfl, hg2, ht2, hb, hv⟩ := hrel;have HB := κ hb;have HV := κ hv;have hsz := hb.size;have hk2 := HK.below hb;have HK2 := κ hk2;clear hv;by_cases hlt2 : t2 < nd.kids.length
           · obtain ⟨j, hj⟩ : ∃ j, nd.kids[t2]? = some j := ⟨_, ξw hlt2⟩;obtain ⟨rb2, roff2, rfl, hcell2⟩ := ints_at HKV hj;have e2 : wx2.cell? ⟨rb2, roff2 + t2, none⟩ = some (.int .i64 j) := cell_later hk2.bel hcell2;have hti2 : (t2 : Int) < (nd.kids.length : Int) := by omega
             obtain ⟨fu, rfl⟩ : ∃ fu, gk = fu + 1 := ⟨gk - 1, by omega⟩;have hv_ := HV.out;rw [drop_at hj, List.all_cons] at hv_;clear HV hj hcell2 hb hk2;have HV := κ hv_;clear hv_;by_cases hj0 : j < 0
             · have hv_ : false = V := by rw [← HV.out]; simp [show ¬ 0 ≤ j by omega]
               have HV := κ hv_;clear hv_;go_wp2_with fail;go_ret;exact ⟨by rw [← HV.out]; rfl, HB.out⟩
             by_cases hj1 : j < (cn : Int)
             rotate_left
             · have hv_ : false = V := by rw [← HV.out]; simp [hj1]
               have HV := κ hv_;have hj2 : (cn : Int) ≤ j := by omega
               clear hv_;go_wp2_with fail;go_ret;exact ⟨by rw [← HV.out]; rfl, HB.out⟩
             have hj2 : ¬ (cn : Int) ≤ j := by omega
             obtain ⟨jn, rfl⟩ : ∃ jn : Nat, j = jn := ⟨j.toNat, by omega⟩;obtain ⟨nd2, hnd2⟩ : ∃ nd2, l[jn]? = some nd2 := ⟨_, ξw (by omega)⟩;have hkn : kindOf l (jn : Int) = nd2.kind := by simp [kindOf, hnd2]
             have hv_ : (((fun k => k == 40) nd2.kind && (nd.kids.drop (t2 + 1)).all (fun j => decide (0 ≤ j) && decide (j < (cn : Int)) && (fun k => k == 40) (kindOf l j))) && inB l nd.kind lo hi (fun k => k == 40) (ks.drop (t + 1))) = V := by rw [← HV.out, hkn]; simp [hj1]
             clear HV hkn;obtain ⟨bn2, offn2, capn2, pv2, kv2, hlv2, -, -, hnc2⟩ := HN.one hnd2;simp only [ξR, ξO, Addr.mk.injEq, and_true] at hlv2;obtain ⟨⟨rfl, rfl⟩, -, rfl⟩ := hlv2;have m0 : wx2.cell? ⟨bn, offn + jn * 6, none⟩ = some (.int .i64 nd2.kind) := cell_later HK2.bel (hnc2 0 _ rfl _ rfl);obtain ⟨ka2, kc2, -, c0, -, -⟩ := HK2.reads;have hjl : (jn : Int) < (l.length : Int) := by have := (ξz.1 hnd2).1; omega
             obtain ⟨B, hB⟩ : ∃ B, (fun k => k == 40) nd2.kind = B := ⟨_, rfl⟩;rw [hB] at hv_;have HV := κ hv_;have HBB := κ hB;clear hv_ hB hnc2 hnd2;go_wp2_with fail;refine (Lm nd2.kind wx2).mono ?_;rintro e w7 ⟨rfl, rfl⟩;rw [HBB.out];clear m0 c0 e2;cases B
             · have hv_ : false = V := HV.out;have HV := κ hv_;clear hv_;go_wp2_with fail;go_ret;exact ⟨by rw [← HV.out]; rfl, HB.out⟩
             · have hv_ : (((nd.kids.drop (t2 + 1)).all (fun j => decide (0 ≤ j) && decide (j < (cn : Int)) && (fun k => k == 40) (kindOf l j))) && inB l nd.kind lo hi (fun k => k == 40) (ks.drop (t + 1))) = V := by rw [← HV.out, Bool.true_and]
               have HV := κ hv_;clear hv_;go_wp2_with fail;go_roundg fu
               case measure => omega
               case rel => exact ⟨t2 + 1, _, rfl, rfl, by omega, by omega, HB, HV⟩
           · obtain rfl : t2 = nd.kids.length := by omega
             have hv_ : inB l nd.kind lo hi (fun k => k == 40) (ks.drop (t + 1)) = V := by rw [← HV.out, List.drop_length]; simp
             clear HV hb hk2;have HV := κ hv_;clear hv_;go_wp2_with fail;go_roundg fv
             case measure => omega
             case rel => exact ⟨t + 1, _, rfl, rfl, by omega, by omega, HB, HV⟩
        · have hv_ : false = V := by rw [← HV.out]; simp [hhi]
          have HV := κ hv_;clear hv_;have hlo2 : ¬ ((nd.kids.length : Int) < (lo : Int)) := by omega
          have hhi2 : (hi : Int) < (nd.kids.length : Int) := by omega
          exact Qq
      · have hv_ : false = V := by rw [← HV.out]; simp [hlo]
        have HV := κ hv_;clear hv_;have hlo2 : (nd.kids.length : Int) < (lo : Int) := by omega
        exact Qq
    · have hkb : (nd.kind == k) = false := by rw [ξY]; exact hkd
      have hv_ : inB l k lo hi (fun k => k == 40) (ks.drop (t + 1)) = V := by rw [← HV.out, hkb]; simp
      clear HV hkd;have HV := κ hv_;clear hv_;go_wp2_with fail;go_roundg fv
      case measure => omega
      case rel => exact ⟨t + 1, _, rfl, rfl, by omega, by omega, HB.alloc hsz _, HV⟩
  · obtain rfl : t = ks.length := by omega
    have hv_ : true = V := by rw [← HV.out, List.drop_length]; rfl
    have HV := κ hv_;clear hv_;go_wp2_with fail;go_ret;exact ⟨by rw [← HV.out]; rfl, HB.out⟩
end
end Go.Proofs.YtbchkldhnjahaaaGreatDoor
namespace Kiln
def Cu (l : List Nd) (k : Int) (ks : List Int) : Bool := aJ l ⟨k, [], [], ks, 0, 0⟩
end Kiln
namespace Go.Proofs.YtbchkldhnjahaaaGreatDoor
open Go.RowKit Kiln
open Go.Proofs
theorem GV {w : World} {o : Obj} {n : Nat} (hn : n = w.heap.size) : (w.alloc o).heap[n]? = some o := by subst hn; exact ψe w o
section
variable {w1 w : World} {q : Nat} {lv : Value} {l : List Nd} {ks : List Int}
theorem Ji (G : Nat) (w : World) :
 Calls Tryz.prog 110 #[.int .i64 G] w fun e w' => e = .returned (.func (.func 148) #[] #[.pointer (some ⟨w.heap.size, 0, none⟩)]) ∧ w' = w.alloc (.cells #[.int .i64 G] 146) := by
 go_enter Tryz.func110, Tryz.ntmps110;go_wp2_with fail;go_ret;exact ⟨rfl, rfl⟩
theorem Lr {p : Prop} (h : p := by
 rw [hV];have HV : RowKit.Hid ((!(ks.length == 1)) = V) := κ hV;have HK := κ hk;have HRR := κ hr;clear hV hk hr;go_enter Tryz.func65, Tryz.ntmps65;by_cases h1 : ks.length = 1
 · have h2 : ((ks.length : Int) != 1) = false := by rw [h1]; rfl
   have hv_ : false = V := by rw [← HV.out, h1]; rfl
   clear HV h1;have HV := κ hv_;clear hv_;go_wp2_with fail;go_ret;exact ⟨by rw [← HV.out]; rfl, bQ (ξf _ _) _⟩
 · have h2 : ((ks.length : Int) != 1) = true := by rw [ψa]; omega
   have hv_ : true = V := by rw [← HV.out, show (ks.length == 1) = false from by rw [ξY]; exact h1]; rfl
   clear HV h1;have HV := κ hv_;clear hv_;go_wp2_with fail;go_ret;exact ⟨by rw [← HV.out]; rfl, bQ (ξf _ _) _⟩
 ) : p := h
theorem NW (HN : NdT w1 lv l) (hk : KSt w1 w q lv ks) (hr : ∀ k ∈ ks, 0 ≤ k ∧ k < (l.length : Int)) (hll : l.length ≤ 4398046511104) (t : ByteArray) (pa ka : Option Addr) (pn pc kc : Nat) (ln col : Int) :
 Calls Tryz.prog 65 #[.pointer (some ⟨q, 0, none⟩), .agg #[.int .i64 13, Value.string t, .slice pa pn pc, .slice ka ks.length kc, .int .i64 ln, .int .i64 col]] w fun e w' => e = .returned (.bool (Cu l 13 ks)) ∧ Below w.heap.size w w' := by
 obtain ⟨V, hV⟩ : ∃ V, Cu l 13 ks = V := ⟨_, rfl⟩;exact Lr
theorem L8 (HN : NdT w1 lv l) (hk : KSt w1 w q lv ks) (hr : ∀ k ∈ ks, 0 ≤ k ∧ k < (l.length : Int)) (hll : l.length ≤ 4398046511104) (t : ByteArray) (pa ka : Option Addr) (pn pc kc : Nat) (ln col : Int) :
 Calls Tryz.prog 65 #[.pointer (some ⟨q, 0, none⟩), .agg #[.int .i64 33, Value.string t, .slice pa pn pc, .slice ka ks.length kc, .int .i64 ln, .int .i64 col]] w fun e w' => e = .returned (.bool (Cu l 33 ks)) ∧ Below w.heap.size w w' := by
 obtain ⟨V, hV⟩ : ∃ V, Cu l 33 ks = V := ⟨_, rfl⟩;exact Lr
theorem Qr {p : Prop} (h : p := by
 rintro e w3 ⟨rfl, hb3⟩;have HE : RowKit.Hid (Below w.heap.size w w3) := κ ((bQ (bQ (ξf _ w) _) _).trans (hb3.mono (by simp; omega)));clear hb3;go_wp2_with fail;go_ret;exact ⟨by rw [← HV.out]; rfl, HE.out⟩
 ) : p := h
theorem Og (HN : NdT w1 lv l) (hk : KSt w1 w q lv ks) (hr : ∀ k ∈ ks, 0 ≤ k ∧ k < (l.length : Int)) (hll : l.length ≤ 4398046511104) (t : ByteArray) (pa ka : Option Addr) (pn pc kc : Nat) (ln col : Int) :
 Calls Tryz.prog 65 #[.pointer (some ⟨q, 0, none⟩), .agg #[.int .i64 11, Value.string t, .slice pa pn pc, .slice ka ks.length kc, .int .i64 ln, .int .i64 col]] w fun e w' => e = .returned (.bool (Cu l 11 ks)) ∧ Below w.heap.size w w' := by
 obtain ⟨V, hV⟩ : ∃ V, Cu l 11 ks = V := ⟨_, rfl⟩;rw [hV];have HV : RowKit.Hid (inB l 28 1 1 (bw 0) ks = V) := κ hV;have HK := κ hk;have HRR := κ hr;clear hV hk hr;go_enter Tryz.func65, Tryz.ntmps65;go_wp2_with fail;refine (Ji 0 _).mono ?_;rintro e w2 ⟨rfl, rfl⟩;go_wp2_with fail;refine (IW 0 (w.heap.size + 1) (by decide) (by simp) (bO (GV (by simp)) 0 _ rfl) 28 1 1 HN ((HK.alloc _).alloc _) HRR.out hll).mono ?_;exact Qr
theorem L6 (HN : NdT w1 lv l) (hk : KSt w1 w q lv ks) (hr : ∀ k ∈ ks, 0 ≤ k ∧ k < (l.length : Int)) (hll : l.length ≤ 4398046511104) (t : ByteArray) (pa ka : Option Addr) (pn pc kc : Nat) (ln col : Int) :
 Calls Tryz.prog 65 #[.pointer (some ⟨q, 0, none⟩), .agg #[.int .i64 34, Value.string t, .slice pa pn pc, .slice ka ks.length kc, .int .i64 ln, .int .i64 col]] w fun e w' => e = .returned (.bool (Cu l 34 ks)) ∧ Below w.heap.size w w' := by
 obtain ⟨V, hV⟩ : ∃ V, Cu l 34 ks = V := ⟨_, rfl⟩;rw [hV];have HV : RowKit.Hid (inB l 28 1 1 (bw 1) ks = V) := κ hV;have HK := κ hk;have HRR := κ hr;clear hV hk hr;go_enter Tryz.func65, Tryz.ntmps65;go_wp2_with fail;refine (Ji 1 _).mono ?_;rintro e w2 ⟨rfl, rfl⟩;go_wp2_with fail;refine (IW 1 (w.heap.size + 1) (by decide) (by simp) (bO (GV (by simp)) 0 _ rfl) 28 1 1 HN ((HK.alloc _).alloc _) HRR.out hll).mono ?_;exact Qr
theorem LY (HN : NdT w1 lv l) (hk : KSt w1 w q lv ks) (hr : ∀ k ∈ ks, 0 ≤ k ∧ k < (l.length : Int)) (hll : l.length ≤ 4398046511104) (t : ByteArray) (pa ka : Option Addr) (pn pc kc : Nat) (ln col : Int) :
 Calls Tryz.prog 65 #[.pointer (some ⟨q, 0, none⟩), .agg #[.int .i64 43, Value.string t, .slice pa pn pc, .slice ka ks.length kc, .int .i64 ln, .int .i64 col]] w fun e w' => e = .returned (.bool (Cu l 43 ks)) ∧ Below w.heap.size w w' := by
 obtain ⟨V, hV⟩ : ∃ V, Cu l 43 ks = V := ⟨_, rfl⟩;rw [hV];have HV : RowKit.Hid (inB l 28 1 1 (bw 2) ks = V) := κ hV;have HK := κ hk;have HRR := κ hr;clear hV hk hr;go_enter Tryz.func65, Tryz.ntmps65;go_wp2_with fail;refine (Ji 2 _).mono ?_;rintro e w2 ⟨rfl, rfl⟩;go_wp2_with fail;refine (IW 2 (w.heap.size + 1) (by decide) (by simp) (bO (GV (by simp)) 0 _ rfl) 28 1 1 HN ((HK.alloc _).alloc _) HRR.out hll).mono ?_;exact Qr
theorem Lp {p : Prop} (h : p := by
 rw [hV];have HV : RowKit.Hid (inB l 62 0 1 (bw 2) ks = V) := κ hV;have HK := κ hk;have HRR := κ hr;clear hV hk hr;go_enter Tryz.func65, Tryz.ntmps65;go_wp2_with fail;refine (Ji 2 _).mono ?_;rintro e w2 ⟨rfl, rfl⟩;go_wp2_with fail;refine (IW 2 (w.heap.size + 1) (by decide) (by simp) (bO (GV (by simp)) 0 _ rfl) 62 0 1 HN ((HK.alloc _).alloc _) HRR.out hll).mono ?_;exact Qr
 ) : p := h
theorem LX (HN : NdT w1 lv l) (hk : KSt w1 w q lv ks) (hr : ∀ k ∈ ks, 0 ≤ k ∧ k < (l.length : Int)) (hll : l.length ≤ 4398046511104) (t : ByteArray) (pa ka : Option Addr) (pn pc kc : Nat) (ln col : Int) :
 Calls Tryz.prog 65 #[.pointer (some ⟨q, 0, none⟩), .agg #[.int .i64 61, Value.string t, .slice pa pn pc, .slice ka ks.length kc, .int .i64 ln, .int .i64 col]] w fun e w' => e = .returned (.bool (Cu l 61 ks)) ∧ Below w.heap.size w w' := by
 obtain ⟨V, hV⟩ : ∃ V, Cu l 61 ks = V := ⟨_, rfl⟩;exact Lp
theorem LV (HN : NdT w1 lv l) (hk : KSt w1 w q lv ks) (hr : ∀ k ∈ ks, 0 ≤ k ∧ k < (l.length : Int)) (hll : l.length ≤ 4398046511104) (t : ByteArray) (pa ka : Option Addr) (pn pc kc : Nat) (ln col : Int) :
 Calls Tryz.prog 65 #[.pointer (some ⟨q, 0, none⟩), .agg #[.int .i64 64, Value.string t, .slice pa pn pc, .slice ka ks.length kc, .int .i64 ln, .int .i64 col]] w fun e w' => e = .returned (.bool (Cu l 64 ks)) ∧ Below w.heap.size w w' := by
 obtain ⟨V, hV⟩ : ∃ V, Cu l 64 ks = V := ⟨_, rfl⟩;exact Lp
theorem LP (HN : NdT w1 lv l) (hk : KSt w1 w q lv ks) (hr : ∀ k ∈ ks, 0 ≤ k ∧ k < (l.length : Int)) (hll : l.length ≤ 4398046511104) (t : ByteArray) (pa ka : Option Addr) (pn pc kc : Nat) (ln col : Int) :
 Calls Tryz.prog 65 #[.pointer (some ⟨q, 0, none⟩), .agg #[.int .i64 99, Value.string t, .slice pa pn pc, .slice ka ks.length kc, .int .i64 ln, .int .i64 col]] w fun e w' => e = .returned (.bool (Cu l 99 ks)) ∧ Below w.heap.size w w' := by
 obtain ⟨V, hV⟩ : ∃ V, Cu l 99 ks = V := ⟨_, rfl⟩;exact Lp
theorem LU (HN : NdT w1 lv l) (hk : KSt w1 w q lv ks) (hr : ∀ k ∈ ks, 0 ≤ k ∧ k < (l.length : Int)) (hll : l.length ≤ 4398046511104) (t : ByteArray) (pa ka : Option Addr) (pn pc kc : Nat) (ln col : Int) :
 Calls Tryz.prog 65 #[.pointer (some ⟨q, 0, none⟩), .agg #[.int .i64 94, Value.string t, .slice pa pn pc, .slice ka ks.length kc, .int .i64 ln, .int .i64 col]] w fun e w' => e = .returned (.bool (Cu l 94 ks)) ∧ Below w.heap.size w w' := by
 obtain ⟨V, hV⟩ : ∃ V, Cu l 94 ks = V := ⟨_, rfl⟩;rw [hV];have HV : RowKit.Hid (inB l 62 1 1 (bw 2) ks = V) := κ hV;have HK := κ hk;have HRR := κ hr;clear hV hk hr;go_enter Tryz.func65, Tryz.ntmps65;go_wp2_with fail;refine (Ji 2 _).mono ?_;rintro e w2 ⟨rfl, rfl⟩;go_wp2_with fail;refine (IW 2 (w.heap.size + 1) (by decide) (by simp) (bO (GV (by simp)) 0 _ rfl) 62 1 1 HN ((HK.alloc _).alloc _) HRR.out hll).mono ?_;exact Qr
theorem LS (HN : NdT w1 lv l) (hk : KSt w1 w q lv ks) (hr : ∀ k ∈ ks, 0 ≤ k ∧ k < (l.length : Int)) (hll : l.length ≤ 4398046511104) (t : ByteArray) (pa ka : Option Addr) (pn pc kc : Nat) (ln col : Int) :
 Calls Tryz.prog 65 #[.pointer (some ⟨q, 0, none⟩), .agg #[.int .i64 95, Value.string t, .slice pa pn pc, .slice ka ks.length kc, .int .i64 ln, .int .i64 col]] w fun e w' => e = .returned (.bool (Cu l 95 ks)) ∧ Below w.heap.size w w' := by
 obtain ⟨V, hV⟩ : ∃ V, Cu l 95 ks = V := ⟨_, rfl⟩;rw [hV];have HV : RowKit.Hid (inB l 62 0 1099511627776 (fun k => k == 40) ks = V) := κ hV;have HK := κ hk;have HRR := κ hr;clear hV hk hr;go_enter Tryz.func65, Tryz.ntmps65;have hk2 := HK.alloc (.cells #[.int .i64 95, Value.string t, .slice pa pn pc, .slice ka ks.length kc, .int .i64 ln, .int .i64 col] 41);have HK2 := κ hk2;clear hk2;go_wp2_with fail;refine (LM 62 0 1099511627776 HN HK2 HRR hll).mono ?_;rintro e w3 ⟨rfl, hb3⟩;have HE : RowKit.Hid (Below w.heap.size w w3) := κ ((bQ (ξf _ w) (.cells #[.int .i64 95, Value.string t, .slice pa pn pc, .slice ka ks.length kc, .int .i64 ln, .int .i64 col] 41)).trans (hb3.mono (by simp)));clear hb3;go_wp2_with fail;go_ret;exact ⟨by rw [← HV.out]; rfl, HE.out⟩
theorem LQ (HN : NdT w1 lv l) (hk : KSt w1 w q lv ks) (hr : ∀ k ∈ ks, 0 ≤ k ∧ k < (l.length : Int)) (hll : l.length ≤ 4398046511104) (t : ByteArray) (pa ka : Option Addr) (pn pc kc : Nat) (ln col : Int) :
 Calls Tryz.prog 65 #[.pointer (some ⟨q, 0, none⟩), .agg #[.int .i64 96, Value.string t, .slice pa pn pc, .slice ka ks.length kc, .int .i64 ln, .int .i64 col]] w fun e w' => e = .returned (.bool (Cu l 96 ks)) ∧ Below w.heap.size w w' := by
 obtain ⟨V, hV⟩ : ∃ V, Cu l 96 ks = V := ⟨_, rfl⟩;rw [hV];have HV : RowKit.Hid (inB l 62 0 1099511627776 (fun k => k == 40) ks = V) := κ hV;have HK := κ hk;have HRR := κ hr;clear hV hk hr;go_enter Tryz.func65, Tryz.ntmps65;have hk2 := HK.alloc (.cells #[.int .i64 96, Value.string t, .slice pa pn pc, .slice ka ks.length kc, .int .i64 ln, .int .i64 col] 41);have HK2 := κ hk2;clear hk2;go_wp2_with fail;refine (LM 62 0 1099511627776 HN HK2 HRR hll).mono ?_;rintro e w3 ⟨rfl, hb3⟩;have HE : RowKit.Hid (Below w.heap.size w w3) := κ ((bQ (ξf _ w) (.cells #[.int .i64 96, Value.string t, .slice pa pn pc, .slice ka ks.length kc, .int .i64 ln, .int .i64 col] 41)).trans (hb3.mono (by simp)));clear hb3;go_wp2_with fail;go_ret;exact ⟨by rw [← HV.out]; rfl, HE.out⟩
theorem LW (HN : NdT w1 lv l) (hk : KSt w1 w q lv ks) (hr : ∀ k ∈ ks, 0 ≤ k ∧ k < (l.length : Int)) (hll : l.length ≤ 4398046511104) (t : ByteArray) (pa ka : Option Addr) (pn pc kc : Nat) (ln col : Int) :
 Calls Tryz.prog 65 #[.pointer (some ⟨q, 0, none⟩), .agg #[.int .i64 63, Value.string t, .slice pa pn pc, .slice ka ks.length kc, .int .i64 ln, .int .i64 col]] w fun e w' => e = .returned (.bool (Cu l 63 ks)) ∧ Below w.heap.size w w' := by
 obtain ⟨V, hV⟩ : ∃ V, Cu l 63 ks = V := ⟨_, rfl⟩;rw [hV];have HV : RowKit.Hid (inB l 41 0 0 (bw 2) ks = V) := κ hV;have HK := κ hk;have HRR := κ hr;clear hV hk hr;go_enter Tryz.func65, Tryz.ntmps65;go_wp2_with fail;refine (Ji 2 _).mono ?_;rintro e w2 ⟨rfl, rfl⟩;go_wp2_with fail;refine (IW 2 (w.heap.size + 1) (by decide) (by simp) (bO (GV (by simp)) 0 _ rfl) 41 0 0 HN ((HK.alloc _).alloc _) HRR.out hll).mono ?_;exact Qr
theorem Li (HN : NdT w1 lv l) (hk : KSt w1 w q lv ks) (hr : ∀ k ∈ ks, 0 ≤ k ∧ k < (l.length : Int)) (hll : l.length ≤ 4398046511104) (t : ByteArray) (pa ka : Option Addr) (pn pc kc : Nat) (ln col : Int) (k : Int) (h13 : k ≠ 13) (h33 : k ≠ 33) (h11 : k ≠ 11) (h34 : k ≠ 34) (h43 : k ≠ 43) (h61 : k ≠ 61) (h64 : k ≠ 64) (h99 : k ≠ 99) (h94 : k ≠ 94) (h95 : k ≠ 95) (h96 : k ≠ 96) (h63 : k ≠ 63) :
 Calls Tryz.prog 65 #[.pointer (some ⟨q, 0, none⟩), .agg #[.int .i64 k, Value.string t, .slice pa pn pc, .slice ka ks.length kc, .int .i64 ln, .int .i64 col]] w fun e w' => e = .returned (.bool (Cu l k ks)) ∧ Below w.heap.size w w' := by
 obtain ⟨V, hV⟩ : ∃ V, Cu l k ks = V := ⟨_, rfl⟩;rw [hV];have HV : RowKit.Hid (true = V) := κ (by rw [← hV]; unfold Cu aJ; simp [h13, h33, h11, h34, h43, h61, h64, h99, h94, h95, h96, h63]);have e13 := kne h13;have e33 := kne h33;have e11 := kne h11;have e34 := kne h34;have e43 := kne h43;have e61 := kne h61;have e64 := kne h64;have e99 := kne h99;have e94 := kne h94;have e95 := kne h95;have e96 := kne h96;have e63 := kne h63;clear hV hk hr h13 h33 h11 h34 h43 h61 h64 h99 h94 h95 h96 h63;go_enter Tryz.func65, Tryz.ntmps65;go_wp2_with fail;go_ret;exact ⟨by rw [← HV.out]; rfl, bQ (ξf _ _) _⟩
theorem Oh (HN : NdT w1 lv l) (hk : KSt w1 w q lv ks) (hr : ∀ k ∈ ks, 0 ≤ k ∧ k < (l.length : Int)) (hll : l.length ≤ 4398046511104) (t : ByteArray) (pa ka : Option Addr) (pn pc kc : Nat) (ln col : Int) (k : Int) :
 Calls Tryz.prog 65 #[.pointer (some ⟨q, 0, none⟩), .agg #[.int .i64 k, Value.string t, .slice pa pn pc, .slice ka ks.length kc, .int .i64 ln, .int .i64 col]] w fun e w' => e = .returned (.bool (Cu l k ks)) ∧ Below w.heap.size w w' := by
 by_cases h13 : k = 13
 · subst h13; exact NW HN hk hr hll t pa ka pn pc kc ln col
 by_cases h33 : k = 33
 · subst h33; exact L8 HN hk hr hll t pa ka pn pc kc ln col
 by_cases h11 : k = 11
 · subst h11; exact Og HN hk hr hll t pa ka pn pc kc ln col
 by_cases h34 : k = 34
 · subst h34; exact L6 HN hk hr hll t pa ka pn pc kc ln col
 by_cases h43 : k = 43
 · subst h43; exact LY HN hk hr hll t pa ka pn pc kc ln col
 by_cases h61 : k = 61
 · subst h61; exact LX HN hk hr hll t pa ka pn pc kc ln col
 by_cases h64 : k = 64
 · subst h64; exact LV HN hk hr hll t pa ka pn pc kc ln col
 by_cases h99 : k = 99
 · subst h99; exact LP HN hk hr hll t pa ka pn pc kc ln col
 by_cases h94 : k = 94
 · subst h94; exact LU HN hk hr hll t pa ka pn pc kc ln col
 by_cases h95 : k = 95
 · subst h95; exact LS HN hk hr hll t pa ka pn pc kc ln col
 by_cases h96 : k = 96
 · subst h96; exact LQ HN hk hr hll t pa ka pn pc kc ln col
 by_cases h63 : k = 63
 · subst h63; exact LW HN hk hr hll t pa ka pn pc kc ln col
 exact Li HN hk hr hll t pa ka pn pc kc ln col k h13 h33 h11 h34 h43 h61 h64 h99 h94 h95 h96 h63
end
end Go.Proofs.YtbchkldhnjahaaaGreatDoor
