/- Part of the proof. Conditions: those of each theorem. -/
import Derived.Deep.DeepCutAuto
import Derived.Lib.SliceRun
import Derived.Test.YtbchkldhnjahaaaGreatDoorPoa
import Derived.Test.YtbchkldhnjahaaaGreatDoorPob
import Derived.Test.YtbchkldhnjahaaaGreatDoorPof
set_option maxRecDepth 100000
set_option maxHeartbeats 40000000
namespace Go.Proofs.YtbchkldhnjahaaaGreatDoor
open Go.RowKit Kiln
open Go.Proofs
def nF (l : Bytes) : Nat := if atB l 0 == 126 then 1 else 0
def nE0 (l : Bytes) : Nat := nF l + aT aM (l.drop (nF l))
def K3 (l : Bytes) : Bool := [48, 120].isPrefixOf (l.drop (nF l)) && decide (0 < aT tK (l.drop (nF l + 2)))
def CB (l : Bytes) : Bool := atB l (nE0 l) == 46 && decide (0 < aT aM (l.drop (nE0 l + 1)))
def nP (l : Bytes) : Nat × Nat := if CB l then (nE0 l + 1 + aT aM (l.drop (nE0 l + 1)), 5) else (nE0 l, 4)
def nM (l : Bytes) : Nat := (nP l).1 + 1 + (if atB l ((nP l).1 + 1) == 126 then 1 else 0)
def MH (l : Bytes) : Bool := (atB l (nP l).1 == 69 || atB l (nP l).1 == 101) && decide (0 < aT aM (l.drop (nM l)))
theorem yh (l : Bytes) : bT l = if K3 l then (nF l + 2 + aT tK (l.drop (nF l + 2)), 4) else if MH l then (nM l + aT aM (l.drop (nM l)), 5) else nP l := rfl
theorem Lb (s : ByteArray) (b k : Nat) (w : World) (hs : w.cell? ⟨b, 0, none⟩ = some (.string s)) (hz : s.size ≤ 1048576) :
 Calls Tryz.prog 74 #[.pointer (some ⟨b, 0, none⟩), .int .i64 k, .func (.func 42) #[] #[]] w fun e w' => e = .returned (.int .i64 (k + aT aM (s.data.toList.drop k) : Nat)) ∧ w = w' :=
 lu 42 aM yN (fun c w => dR _ w) s b k w hs (by unfold maxLen; omega)
theorem Na (s : ByteArray) (b k : Nat) (w : World) (hs : w.cell? ⟨b, 0, none⟩ = some (.string s)) (hz : s.size ≤ 1048576) :
 Calls Tryz.prog 74 #[.pointer (some ⟨b, 0, none⟩), .int .i64 k, .func (.func 77) #[] #[]] w fun e w' => e = .returned (.int .i64 (k + aT tK (s.data.toList.drop k) : Nat)) ∧ w = w' :=
 lu 77 tK CV (fun c w => J8 _ w) s b k w hs (by unfold maxLen; omega)
def gS : Obj := .cells #[.int .i64 0, .string ⟨#[]⟩, .slice none 0 0, .int .i64 0, .int .i64 0] 32
theorem R5 {p : Prop} (h : p := by
 by_cases hbig : 4096 < q1
 · have HT := κ (show cF (s.data.toList.drop i) = .error 2 by rw [HNP.out, HWF.out, ψh (by simp), ψi hbig]);have hbb : decide ((4096 : Int) < (q1 : Int)) = true := by simp; omega
   go_wp2_with fail;refine ψb (by simp [results, Tryz.results43, go_sem]; exact rfl) rfl ?_;exact o8 HT rfl ((ξf _ w).alloc (ξF _) _)
 · have HT := κ (show cF (s.data.toList.drop i) = .ok (q2, (s.data.toList.drop i).take q1, [], q1) by rw [HNP.out, HWF.out, ψh (by simp), ψh hbig]);go_wp2_with fail;go_region;go_wp2
   refine ψb (by simp [results, Tryz.results43, go_sem]; exact rfl) rfl ?_;exact vN HT rfl (eH _ _ _ _ (by omega)) (by omega) (((ξf _ w).alloc (ξF _) _).drew)
 ) : p := h
theorem uF (s : ByteArray) (b i : Nat) (w : World) (hs : w.cell? ⟨b, 0, none⟩ = some (.string s)) (ha : w.cell? ⟨b, 1, none⟩ = some (.int .i64 i)) (hz : s.size ≤ 1048576) (hi : i < s.size) :
 Calls Tryz.prog 43 #[.pointer (some ⟨b, 0, none⟩)] w (j5 (cF (s.data.toList.drop i)) i w) := by
 have hs1 := ay hs;have ha1 := ay ha;have hdr : ∀ k, (s.data.toList.drop i).drop k = s.data.toList.drop (i + k) := fun k => List.drop_drop;have hlen : ∀ (p : UInt8 → Bool) k, k ≤ s.size → k + aT p (s.data.toList.drop k) ≤ s.size := fun p k hk => by
  have := gF p (s.data.toList.drop k);rw [ξ3, ← ξn] at this; omega
 have HDR := κ hdr; clear hdr;have HLN := κ hlen; clear hlen;obtain ⟨f, hf⟩ : ∃ f, nF (s.data.toList.drop i) = f := ⟨_, rfl⟩;have hf1 : f ≤ 1 := by rw [← hf]; unfold nF; split <;> omega
 have HF := κ hf; clear hf;obtain ⟨x, hx⟩ : ∃ x : UInt8, s[i]'hi = x := ⟨_, rfl⟩;have HX0 : RowKit.Hid (f = if x.toNat = 126 then 1 else 0) := by
  show _ = _;rw [← HF.out];unfold nF;rw [fG s i 0 (by omega)];simp only [Nat.add_zero, hx];by_cases h : x.toNat = 126
  · rw [ψi h, kV h]; rfl
  · rw [ψh h, show (x == 126) = false from by rw [ξY]; rintro rfl; exact h rfl]; rfl
 go_enter Tryz.func43, Tryz.ntmps43;go_upto_if 19 with fail
 go_cut [5] (fun v wx => v = .int .i64 (i + f : Nat) ∧ wx = w.alloc gS)
 case first => as_aux_lemma =>
  by_cases h126 : x.toNat = 126
  · have h1 := HX0.out;rw [ψi h126] at h1;have H1 := κ h1; clear h1;go_wp2_with fail;go_meet
    exact ⟨fT (by have := H1.out; omega), rfl⟩
  · have h1 := HX0.out;rw [ψh h126] at h1;have H1 := κ h1; clear h1;have hb : ((x.toNat : Int) == 126) = false := by rw [ξY]; omega
    go_wp2_with fail;go_meet
    exact ⟨fT (by have := H1.out; omega), rfl⟩
 case rest => as_aux_lemma =>
  obtain ⟨rfl, rfl⟩ := hcut;go_wp2_with fail;refine (Lb s b (i + f) _ (hs1 _) hz).mono ?_;rintro e w' ⟨rfl, rfl⟩;have he0 := HLN.out aM (i + f) (by omega);obtain ⟨e0, hE0⟩ : ∃ e0, nE0 (s.data.toList.drop i) = e0 := ⟨_, rfl⟩;have hE0' : f + aT aM (s.data.toList.drop (i + f)) = e0 := by rw [← hE0]; unfold nE0; rw [HF.out, HDR.out]
  have hk0 : i + f + aT aM (s.data.toList.drop (i + f)) = i + e0 := by omega
  rw [hk0];rw [hk0] at he0;have HE0 := κ hE0; clear hE0 hE0' hk0;go_upto_region 6 with fail;go_cut [36] (fun v wx => v = .bool (K3 (s.data.toList.drop i)) ∧ wx = w.alloc gS)
  case first => as_aux_lemma =>
   go_wp2_with fail;refine (iU s ⟨#[48, 120]⟩ b (i + f) _ (hs1 _) (by unfold maxLen; omega) (by omega)).mono ?_;rintro e w' ⟨rfl, rfl⟩;have hh : K3 (s.data.toList.drop i) = ([48, 120].isPrefixOf (s.data.toList.drop (i + f)) && decide (0 < aT tK (s.data.toList.drop (i + f + 2)))) := by
    unfold K3; rw [HF.out, HDR.out, HDR.out]; rfl
   have HH := κ hh; clear hh;have hpl : [48, 120].isPrefixOf (s.data.toList.drop (i + f)) = true → i + f + 2 ≤ s.size := by
    intro hp;have := (List.isPrefixOf_iff_prefix.1 hp).length_le;rw [ξ3, ← ξn] at this;simp at this; omega
   cases hP : [48, 120].isPrefixOf (s.data.toList.drop (i + f))
   · rw [hP] at HH;clear hP hpl;go_wp2_with fail;go_meet
     exact ⟨by rw [HH.out]; rfl, rfl⟩
   · rw [hP] at HH;have hp2 := hpl hP;clear hP hpl;go_wp2_with fail;refine (Na s b (i + f + 2) _ (hs1 _) hz).mono ?_;rintro e w' ⟨rfl, rfl⟩;have hr := HLN.out tK (i + f + 2) hp2;go_wp2_with fail;all_goals
      go_meet
      exact ⟨by rw [HH.out, Bool.true_and]; first | rfl | (refine congrArg Value.bool (decide_eq_decide.2 ?_); omega), rfl⟩
  case rest => as_aux_lemma =>
   obtain ⟨rfl, rfl⟩ := hcut;go_upto_if 36 with fail
   go_cut [6, 7] (fun k v wx => k = .int .i64 ((bT (s.data.toList.drop i)).2 : Nat) ∧ v = .int .i64 (i + (bT (s.data.toList.drop i)).1 : Nat) ∧ wx = w.alloc gS ∧ i + (bT (s.data.toList.drop i)).1 ≤ s.size)
   case first => as_aux_lemma =>
    cases hH : K3 (s.data.toList.drop i)
    · have hne : bT (s.data.toList.drop i) = if MH (s.data.toList.drop i) then (nM (s.data.toList.drop i) + aT aM ((s.data.toList.drop i).drop (nM (s.data.toList.drop i))), 5) else nP (s.data.toList.drop i) := by rw [yh, hH]; rfl
      have HNE := κ hne; clear hne hH;go_upto_region 8 with fail;go_cut [65] (fun v wx => v = .bool (CB (s.data.toList.drop i)) ∧ wx = w.alloc gS)
      case first => as_aux_lemma =>
       have hr0 : CB (s.data.toList.drop i) = (atB (s.data.toList.drop i) e0 == 46 && decide (0 < aT aM (s.data.toList.drop (i + e0 + 1)))) := by
        unfold CB; rw [HE0.out, HDR.out]; rfl
       have HR0 := κ hr0; clear hr0;by_cases hlt : i + e0 < s.size
       · obtain ⟨y, hy⟩ : ∃ y : UInt8, s[i + e0]'hlt = y := ⟨_, rfl⟩;have hat := fG s i e0 hlt;rw [hy] at hat;rw [hat] at HR0;clear hat;by_cases h46 : y.toNat = 46
         · rw [show (y == 46) = true from by rw [kV h46]; rfl, Bool.true_and] at HR0;go_wp2_with fail;refine (Lb s b (i + e0 + 1) _ (hs1 _) hz).mono ?_;rintro e w' ⟨rfl, rfl⟩;have hr := HLN.out aM (i + e0 + 1) (by omega);go_wp2_with fail;all_goals
            go_meet
            exact ⟨by rw [HR0.out]; first | rfl | (refine congrArg Value.bool (decide_eq_decide.2 ?_); omega), rfl⟩
         · rw [show (y == 46) = false from by rw [ξY]; rintro rfl; exact h46 rfl, Bool.false_and] at HR0;have hb : ((y.toNat : Int) == 46) = false := by rw [ξY]; omega
           go_wp2_with fail;go_meet
           exact ⟨by rw [HR0.out], rfl⟩
       · rw [fF s i e0 hlt, show ((0 : UInt8) == 46) = false from rfl, Bool.false_and] at HR0;go_wp2_with fail;go_meet
         exact ⟨by rw [HR0.out], rfl⟩
      case rest => as_aux_lemma =>
       obtain ⟨rfl, rfl⟩ := hcut;go_upto_if 65 with fail
       go_cut [6, 7] (fun k v wx => k = .int .i64 ((nP (s.data.toList.drop i)).2 : Nat) ∧ v = .int .i64 (i + (nP (s.data.toList.drop i)).1 : Nat) ∧ wx = w.alloc gS ∧ i + (nP (s.data.toList.drop i)).1 ≤ s.size)
       case first => as_aux_lemma =>
        cases hR : CB (s.data.toList.drop i)
        · have HP := κ (show nP (s.data.toList.drop i) = (e0, 4) by unfold nP; rw [hR, HE0.out]; rfl);go_wp2_with fail;go_meet
          exact ⟨by rw [HP.out]; rfl, fT (by rw [HP.out]; try (simp only []; omega)), rfl, by rw [HP.out]; exact he0⟩
        · have HP := κ (show nP (s.data.toList.drop i) = (e0 + 1 + aT aM (s.data.toList.drop (i + e0 + 1)), 5) by unfold nP; rw [hR, HE0.out, HDR.out]; rfl);have hlt : i + e0 < s.size := by
           refine ξk fun h => ?_;have h2 := fF s i e0 h;unfold CB at hR;rw [HE0.out, h2, show ((0 : UInt8) == 46) = false from rfl, Bool.false_and] at hR;cases hR
          clear hR;go_wp2_with fail;refine (Lb s b (i + e0 + 1) _ (hs1 _) hz).mono ?_;rintro e w' ⟨rfl, rfl⟩;have hr := HLN.out aM (i + e0 + 1) (by omega);go_wp2_with fail;go_meet
          exact ⟨by rw [HP.out]; rfl, fT (by rw [HP.out]; try (simp only []; omega)), rfl, by rw [HP.out]; try (simp only []; omega)⟩
       case rest => as_aux_lemma =>
        obtain ⟨rfl, rfl, rfl, hp1⟩ := hcut;obtain ⟨p, hp⟩ : ∃ p, nP (s.data.toList.drop i) = p := ⟨_, rfl⟩;rw [hp] at hp1 HNE;rw [hp];have HP := κ hp; clear hp he0 HE0;obtain ⟨p1, p2⟩ := p;simp only [] at hp1;simp only [];have hm : nM (s.data.toList.drop i) = p1 + 1 + (if atB (s.data.toList.drop i) (p1 + 1) == 126 then 1 else 0) := by unfold nM; rw [HP.out]
        have HM := κ hm; clear hm;have hex : MH (s.data.toList.drop i) = ((atB (s.data.toList.drop i) p1 == 69 || atB (s.data.toList.drop i) p1 == 101) && decide (0 < aT aM (s.data.toList.drop (i + nM (s.data.toList.drop i))))) := by
         unfold MH; rw [HP.out, HDR.out]
        have HEX := κ hex; clear hex;obtain ⟨EB, hEB⟩ : ∃ EB, (atB (s.data.toList.drop i) p1 == 69 || atB (s.data.toList.drop i) p1 == 101) = EB := ⟨_, rfl⟩;rw [hEB] at HEX;have HEB := κ hEB; clear hEB;go_upto_region 10 with fail;go_cut [94] (fun v wx => v = .bool EB ∧ wx = w.alloc gS)
        case first => as_aux_lemma =>
         by_cases hlt : i + p1 < s.size
         · obtain ⟨y, hy⟩ : ∃ y : UInt8, s[i + p1]'hlt = y := ⟨_, rfl⟩;have hat := fG s i p1 hlt;rw [hy] at hat;rw [hat] at HEB;clear hat;by_cases h69 : y.toNat = 69
           · rw [show (y == 69) = true from by rw [kV h69]; rfl, Bool.true_or] at HEB;go_wp2_with fail;go_meet
             exact ⟨by rw [← HEB.out], rfl⟩
           · rw [show (y == 69) = false from by rw [ξY]; rintro rfl; exact h69 rfl, Bool.false_or] at HEB;have hb : ((y.toNat : Int) == 69) = false := by rw [ξY]; omega
             by_cases h101 : y.toNat = 101
             · rw [show (y == 101) = true from by rw [kV h101]; rfl] at HEB;go_wp2_with fail;go_meet
               exact ⟨by rw [← HEB.out], rfl⟩
             · rw [show (y == 101) = false from by rw [ξY]; rintro rfl; exact h101 rfl] at HEB;have hb2 : ((y.toNat : Int) == 101) = false := by rw [ξY]; omega
               go_wp2_with fail;go_meet
               exact ⟨by rw [← HEB.out], rfl⟩
         · rw [fF s i p1 hlt, show ((0 : UInt8) == 69 || (0 : UInt8) == 101) = false from rfl] at HEB;go_wp2_with fail;go_meet
           exact ⟨by rw [← HEB.out], rfl⟩
        case rest => as_aux_lemma =>
         obtain ⟨rfl, rfl⟩ := hcut;cases EB
         · rw [Bool.false_and] at HEX;have HN2 := κ (show bT (s.data.toList.drop i) = (p1, p2) by rw [HNE.out, HEX.out]; rfl);go_wp2_with fail;go_meet
           exact ⟨by rw [HN2.out], fT (by rw [HN2.out]; try (simp only []; omega)), rfl, by rw [HN2.out]; exact hp1⟩
         · rw [Bool.true_and] at HEX;have hlt : i + p1 < s.size := by
            refine ξk fun h => ?_;have h2 := HEB.out;rw [fF s i p1 h] at h2;cases h2
           go_upto_region 12 with fail;go_cut [112] (fun v wx => v = .bool (atB (s.data.toList.drop i) (p1 + 1) == 126) ∧ wx = w.alloc gS)
           case first => as_aux_lemma =>
            by_cases hl2 : i + (p1 + 1) < s.size
            · obtain ⟨z, hz2⟩ : ∃ z : UInt8, s[i + (p1 + 1)]'hl2 = z := ⟨_, rfl⟩;have hz3 : s[i + p1 + 1]'(by omega) = z := hz2;have hat := fG s i (p1 + 1) hl2;rw [hz2] at hat;have HAT := κ hat; clear hat hz2;by_cases h126 : z.toNat = 126
              · go_wp2_with fail;go_meet
                exact ⟨by rw [HAT.out, kV h126]; rfl, rfl⟩
              · have hb : ((z.toNat : Int) == 126) = false := by rw [ξY]; omega
                go_wp2_with fail;go_meet
                exact ⟨by rw [HAT.out, show (z == 126) = false from by rw [ξY]; rintro rfl; exact h126 rfl], rfl⟩
            · have HAT := κ (fF s i (p1 + 1) hl2);go_wp2_with fail;go_meet
              exact ⟨by rw [HAT.out]; try rfl, rfl⟩
           case rest => as_aux_lemma =>
            obtain ⟨rfl, rfl⟩ := hcut;go_upto_if 112 with fail
            go_cut [8] (fun v wx => v = .int .i64 (i + nM (s.data.toList.drop i) : Nat) ∧ wx = w.alloc gS ∧ i + nM (s.data.toList.drop i) ≤ s.size)
            case first => as_aux_lemma =>
             cases hT : atB (s.data.toList.drop i) (p1 + 1) == 126
             · rw [hT] at HM;clear hT;go_wp2_with fail;go_meet
               exact ⟨fT (by have := HM.out; simp at this; omega), rfl, by have := HM.out; simp at this; omega⟩
             · have hl2 : i + (p1 + 1) < s.size := by
                refine ξk fun h => ?_;rw [fF s i (p1 + 1) h] at hT;cases hT
               rw [hT] at HM;clear hT;go_wp2_with fail;go_meet
               exact ⟨fT (by have := HM.out; simp at this; omega), rfl, by have := HM.out; simp at this; omega⟩
            case rest => as_aux_lemma =>
             obtain ⟨rfl, rfl, hm1⟩ := hcut;generalize nM (s.data.toList.drop i) = M at *;go_wp2_with fail;refine (Lb s b (i + M) _ (hs1 _) hz).mono ?_;rintro e w' ⟨rfl, rfl⟩;have hr := HLN.out aM (i + M) hm1;by_cases hc : 0 < aT aM (s.data.toList.drop (i + M))
             · rw [decide_eq_true hc] at HEX;have HN2 := κ (show bT (s.data.toList.drop i) = (M + aT aM (s.data.toList.drop (i + M)), 5) by rw [HNE.out, HEX.out, HDR.out]; rfl);go_wp2_with fail;refine (Lb s b (i + M) _ (hs1 _) hz).mono ?_;rintro e w' ⟨rfl, rfl⟩;go_wp2_with fail;go_meet
               exact ⟨by rw [HN2.out]; rfl, fT (by rw [HN2.out]; try (simp only []; omega)), rfl, by rw [HN2.out]; try (simp only []; omega)⟩
             · rw [decide_eq_false hc] at HEX;have HN2 := κ (show bT (s.data.toList.drop i) = (p1, p2) by rw [HNE.out, HEX.out]; rfl);go_wp2_with fail;go_meet
               exact ⟨by rw [HN2.out], fT (by rw [HN2.out]; try (simp only []; omega)), rfl, by rw [HN2.out]; exact hp1⟩
    · have HN2 := κ (show bT (s.data.toList.drop i) = (f + 2 + aT tK (s.data.toList.drop (i + (f + 2))), 4) by rw [yh, hH, HF.out, HDR.out]; rfl);have hp2 : i + f + 2 ≤ s.size := by
       unfold K3 at hH;rw [HF.out, HDR.out, ξg] at hH;have := (List.isPrefixOf_iff_prefix.1 hH.1).length_le;rw [ξ3, ← ξn] at this;simp at this; omega
      clear hH;have hr := HLN.out tK (i + (f + 2)) (by omega);go_wp2_with fail;refine (Na s b (i + (f + 2)) _ (hs1 _) hz).mono ?_;rintro e w' ⟨rfl, rfl⟩;go_wp2_with fail;go_meet
      exact ⟨by rw [HN2.out]; rfl, fT (by rw [HN2.out]; try (simp only []; omega)), rfl, by rw [HN2.out]; try (simp only []; omega)⟩
   case rest => as_aux_lemma =>
    obtain ⟨rfl, rfl, rfl, hq1⟩ := hcut;have hnp : cF (s.data.toList.drop i) = if bJ (atB (s.data.toList.drop i) (bT (s.data.toList.drop i)).1) then .error 43 else if 4096 < (bT (s.data.toList.drop i)).1 then .error 2 else .ok ((bT (s.data.toList.drop i)).2, (s.data.toList.drop i).take (bT (s.data.toList.drop i)).1, [], (bT (s.data.toList.drop i)).1) := rfl;generalize bT (s.data.toList.drop i) = q at *;obtain ⟨q1, q2⟩ := q;simp only [] at hnp hq1;simp only [];have HNP := κ hnp; clear hnp HE0 HF HX0 he0;have hne := ξS w _ hs;have hne1 : ¬ w.heap.size = b := fun e => by simp only [] at hne; omega
    have hne2 : ¬ b = w.heap.size := fun e => by simp only [] at hne; omega
    clear hne;unfold gS;by_cases hlt : i + q1 < s.size
    · obtain ⟨y, hy⟩ : ∃ y : UInt8, s[i + q1]'hlt = y := ⟨_, rfl⟩;have hat := fG s i q1 hlt;rw [hy] at hat;rw [hat] at HNP;clear hat;cases hw : Dx y.toNat
      · have HWF : RowKit.Hid (bJ y = false) := hw;have hiw := fun W => (mF y.toNat W);rw [hw] at hiw;have HIW := κ hiw; clear hiw hw;go_upto_region 18 with (go_at_call 75; refine (HIW _).mono ?_; rintro e w' ⟨rfl, rfl⟩);exact R5
      · have HWF : RowKit.Hid (bJ y = true) := hw;have hiw := fun W => (mF y.toNat W);rw [hw] at hiw;have HIW := κ hiw; clear hiw hw;have HT := κ (show cF (s.data.toList.drop i) = .error 43 by rw [HNP.out, HWF.out, ψi rfl]);go_wp2_with (go_at_call 75; refine (HIW _).mono ?_; rintro e w' ⟨rfl, rfl⟩);refine ψb (by simp [results, Tryz.results43, go_sem]; exact rfl) rfl ?_;exact o8 HT rfl ((ξf _ w).alloc (ξF _) _)
    · have HWF : RowKit.Hid (bJ (atB (s.data.toList.drop i) q1) = false) := by show _ = _; rw [fF s i q1 hlt]; rfl
      go_upto_region 18 with fail;exact R5
theorem vO {r : Rd} {i : Nat} {w : World} {f : FuncId} {args : Array Value} (h : Calls Tryz.prog f args w (j5 r i w)) :
 (∃ c : Nat, r = .error c ∧ Calls Tryz.prog f args w fun e w' => e = .returned (.tuple #[.agg #[.int .i64 0, .string ⟨#[]⟩, .slice none 0 0, .int .i64 0, .int .i64 0], .int .i64 0, .int .i64 c]) ∧ Below w.heap.size w w') ∨
 (∃ (k : Nat) (t : Bytes) (pa : List Bytes) (n : Nat), r = .ok (k, t, pa, n) ∧ Calls Tryz.prog f args w fun e w' => ∃ a cap, e = .returned (.tuple #[.agg #[.int .i64 k, str t, .slice a pa.length cap, .int .i64 0, .int .i64 0], .int .i64 (i + n : Nat), .int .i64 0]) ∧ oQ w.heap.size w' (.slice a pa.length cap) pa ∧ Below w.heap.size w w') := by
 cases r with
 | error c => exact .inl ⟨c, rfl, h.mono fun e w' hh => ⟨hh.2, hh.1⟩⟩
 | ok p =>
  obtain ⟨k, t, pa, n⟩ := p;refine .inr ⟨k, t, pa, n, rfl, h.mono fun e w' hh => ?_⟩;obtain ⟨hb, pv, hs, he⟩ := hh;obtain ⟨a, cap, rfl, _, _⟩ := id hs.1;exact ⟨a, cap, he, hs, hb⟩
theorem Strs.below {w w' : World} {v : Value} {l : List Bytes} (h : Strs w v l) (hb : Below w.heap.size w w') : Strs w' v l := by
 obtain ⟨a, cap, hv, hc, hl⟩ := h;refine ⟨a, cap, hv, hc, fun hne => ?_⟩;obtain ⟨b, off, ha, hx⟩ := hl hne;exact ⟨b, off, ha, fun i x hi => cell_later hb (hx i x hi)⟩
theorem IK {r : Rd} {i k n : Nat} {t : Bytes} {pa : List Bytes} {w w' : World} {a : Option Addr} {cap : Nat} {kv nv lv : Int} (h : r = .ok (k, t, pa, n)) (hk : kv = k) (hn : nv = (i + n : Nat)) (hl : lv = 0) (hs : oQ w.heap.size w' (.slice a pa.length cap) pa) (hb : Below w.heap.size w w') :
 j5 r i w (.returned (.tuple #[.agg #[.int .i64 kv, str t, .slice a pa.length cap, .int .i64 lv, .int .i64 lv], .int .i64 nv, .int .i64 0])) w' := by
 subst h; subst hk; subst hn; subst hl;exact ⟨hb, _, hs, rfl⟩
theorem Strs.empty (B : Nat) (w : World) (a : Option Addr) (cap : Nat) : oQ B w (.slice a ([] : List Bytes).length cap) [] := ⟨⟨a, cap, rfl, ξM _, fun h => absurd rfl h⟩, fun h => absurd rfl h⟩
theorem yd {l : Bytes} {k n : Nat} {t : Bytes} {pa : List Bytes} (h : cF l = .ok (k, t, pa, n)) : pa = [] := by
 unfold cF at h;simp only [] at h;split at h
 · cases h
 · split at h
   · cases h
   · simp only [ξm, ξP] at h; exact h.2.2.1.symm
theorem C9 {l : Bytes} {k n : Nat} {t : Bytes} {pa : List Bytes} (h : jw l = .ok (k, t, pa, n)) : pa = [] := by
 unfold jw at h;split at h
 · cases h
 · split at h
   · simp only [ξm, ξP] at h; exact h.2.2.1.symm
   · cases h
def za (B : Nat) (w : World) : Prop := w.heap[B]? = some (.cells #[.int .i64 0, .string ⟨#[]⟩, .slice none 0 0, .int .i64 0, .int .i64 0] 32 (0, 0))
theorem za.cells {B : Nat} {w : World} (h : za B w) :
 (w.cell? ⟨B, 0, none⟩ = some (.int .i64 0) ∧ w.cell? ⟨B, 1, none⟩ = some (.string ⟨#[]⟩) ∧ w.cell? ⟨B, 2, none⟩ = some (.slice none 0 0) ∧ w.cell? ⟨B, 3, none⟩ = some (.int .i64 0) ∧ w.cell? ⟨B, 4, none⟩ = some (.int .i64 0)) ∧
 ∀ j, w.frozen? ⟨B, j, none⟩ = false := by
 unfold za at h;refine ⟨⟨?_, ?_, ?_, ?_, ?_⟩, fun j => ?_⟩ <;> simp [World.cell?, World.frozen?, h]
theorem za.new (w : World) : za w.heap.size (w.alloc (.cells #[.int .i64 0, .string ⟨#[]⟩, .slice none 0 0, .int .i64 0, .int .i64 0] 32)) := ψe w _
theorem za.drew {B : Nat} {w : World} (h : za B w) (n : Nat) : za B (w.drewN n) := (below_drewN (ξf (B + 1) w) n |>.block B (ξJ _)).trans h
theorem za.keep {B : Nat} {w w' : World} (h : za B w) (hb : Below (B + 1) w w') : za B w' := (hb.block B (ξJ _)).trans h
theorem R4 {p : Prop} (h : p := by
 refine hc.mono ?_;rintro e w2 ⟨a, cap, rfl, hstr, hb2⟩;have HT := κ (HS.trans hr);obtain ⟨⟨rc0, rc1, rc2, rc3, rc4⟩, rfz⟩ := (HR.keep (hb2.mono HSZ)).cells;have HB2 := κ (HBW.trans (hb2.mono HBW.size));clear hb2 hr hc hstr;go_wp2_with fail;refine ψb (by simp [results, Tryz.results45, go_sem, rc0, rc1, rc2, rc3, rc4]; exact rfl) rfl ?_;exact IK HT rfl rfl rfl (Strs.empty _ _ _ _) (ck HB2 _ _ _ _ _)
 ) : p := h
theorem R3 {p : Prop} (h : p := by
 refine hc.mono ?_;rintro e w2 ⟨rfl, hb2⟩;have HT := κ (HS.trans hr);obtain ⟨⟨rc0, rc1, rc2, rc3, rc4⟩, rfz⟩ := (HR.keep (hb2.mono HSZ)).cells;have HB2 := κ (HBW.trans (hb2.mono HBW.size));clear hb2 hr hc;go_wp2_with fail;refine ψb (by simp [results, Tryz.results45, go_sem, rc0, rc1, rc2, rc3, rc4]; exact rfl) rfl ?_;exact o8 HT rfl (ck HB2 _ _ _ _ _)
 ) : p := h
theorem GD (s : ByteArray) (b i : Nat) (w : World) (hg : Gl w) (hs : w.cell? ⟨b, 0, none⟩ = some (.string s)) (ha : w.cell? ⟨b, 1, none⟩ = some (.int .i64 i)) (hz : s.size ≤ 1048576) (hi : i < s.size) :
 Calls Tryz.prog 45 #[.pointer (some ⟨b, 0, none⟩)] w (j5 (q8 (s.data.toList.drop i)) i w) := by
 have hs1 := ay hs;have ha1 := ay ha;have HG := κ hg; clear hg;obtain ⟨x, hx⟩ : ∃ x : UInt8, s[i]'hi = x := ⟨_, rfl⟩;have hat0 := fG s i 0 (by omega);simp only [Nat.add_zero, hx] at hat0;have HA0 := κ hat0; clear hat0;obtain ⟨B, hB⟩ : ∃ B, (atB (s.data.toList.drop i) 0 == 126 && aM (atB (s.data.toList.drop i) 1)) = B := ⟨_, rfl⟩;have hsg : q8 (s.data.toList.drop i) = if B then cF (s.data.toList.drop i) else if [35, 34].isPrefixOf (s.data.toList.drop i) then jw (s.data.toList.drop i) else
  .ok (if j6 ((s.data.toList.drop i).take (aT dV (s.data.toList.drop i))) then 1 else 2, (s.data.toList.drop i).take (aT dV (s.data.toList.drop i)), [], aT dV (s.data.toList.drop i)) := by rw [← hB]; rfl
 have HS := κ hsg; clear hsg;have HB := κ hB; clear hB;have hne := ξS w _ hs;have hne1 : ¬ w.heap.size = b := fun e => by simp only [] at hne; omega
 have hne2 : ¬ b = w.heap.size := fun e => by simp only [] at hne; omega
 clear hne;go_enter Tryz.func45, Tryz.ntmps45;go_upto_region 1 with fail;go_cut [42] (fun v wx => v = .bool B ∧ ∃ n, wx = (w.alloc gS).drewN n)
 case first => as_aux_lemma =>
  by_cases h126 : x.toNat = 126
  · by_cases hl : i + 1 < s.size
    · obtain ⟨y, hy⟩ : ∃ y : UInt8, s[i + 1]'hl = y := ⟨_, rfl⟩;have hat := fG s i 1 hl;rw [hy] at hat;rw [hat, HA0.out, show (x == 126) = true from by rw [kV h126]; rfl, Bool.true_and] at HB;clear hat;have hsum : IntKind.i64.wrap (↑i + 1) = ↑i + 1 := IntWalk.i64_in _ (by omega);have hsn : ((i : Int) + 1).toNat = i + 1 := by omega
      have hlz : (i : Int) + 1 < (s.size : Int) := by omega
      go_quiet ((go_at_call 42; exact IL (dR _ _)));clear hsum hsn;go_wp2_with fail;go_meet
      exact ⟨by rw [← HB.out]; rfl, _, rfl⟩
    · rw [fF s i 1 hl, show aM 0 = false from rfl, Bool.and_false] at HB;have hsum : IntKind.i64.wrap (↑i + 1) = ↑i + 1 := IntWalk.i64_in _ (by omega);have hlz : decide ((i : Int) + 1 < (s.size : Int)) = false := by simp; omega
      go_quiet (fail);clear hsum hlz;go_wp2_with fail;go_meet
      exact ⟨by rw [← HB.out], _, rfl⟩
  · rw [HA0.out, show (x == 126) = false from by rw [ξY]; rintro rfl; exact h126 rfl, Bool.false_and] at HB;have hb : ((x.toNat : Int) == 126) = false := by rw [ξY]; omega
    go_quiet (fail);go_wp2_with fail;go_meet
    exact ⟨by rw [← HB.out], _, rfl⟩
 case rest =>
  obtain ⟨rfl, n, hwx⟩ := hcut;have hs2 : wc.cell? ⟨b, 0, none⟩ = some (.string s) := by rw [hwx]; exact hs1 _
  have ha2 : wc.cell? ⟨b, 1, none⟩ = some (.int .i64 i) := by rw [hwx]; exact ha1 _
  have HBW : RowKit.Hid (Below w.heap.size w wc) := by rw [hwx]; exact below_drewN ((ξf _ w).alloc (ξF _) _) n
  have HR : RowKit.Hid (za w.heap.size wc) := by rw [hwx]; exact za.new w
  have HGX : RowKit.Hid (Gl wc) := HG.below HBW;have HSZ : RowKit.Hid (w.heap.size + 1 ≤ wc.heap.size) := by rw [hwx]; exact Nat.le_of_eq (by simp)
  clear hwx HG HA0 hs1 ha1;cases B
  · rw [ψh (by simp)] at HS;go_wp2_with fail;refine (iU s ⟨#[35, 34]⟩ b i wc hs2 (by unfold maxLen; omega) (by omega)).mono ?_;rintro e w' ⟨rfl, rfl⟩;obtain ⟨P, hP⟩ : ∃ P, [35, 34].isPrefixOf (s.data.toList.drop i) = P := ⟨_, rfl⟩;simp only [hP];cases P
    · rw [hP, ψh (by simp)] at HS;clear hP;go_wp2_with fail;refine (lu 44 dV kL (fun c w => mG c w) s b i wc hs2 (by unfold maxLen; omega)).mono ?_;rintro e w' ⟨rfl, rfl⟩;have hle := gF dV (s.data.toList.drop i);rw [ξ3, ← ξn] at hle;generalize hK : aT dV (s.data.toList.drop i) = K at *;clear hK;go_wp2_with fail;go_quiet (fail);go_wp2_with fail;obtain ⟨mx, hmx⟩ := HGX.mx;have hm2 : ∀ n, (wc.drewN n).cell? ⟨0, 0, none⟩ = some (.int .i64 mx) := fun _ => hmx;clear hmx;refine (jE (s.extract i (i + K)) mx _ (hm2 _) (by rw [ByteArray.size_extract]; omega)).mono ?_;rintro e w' ⟨rfl, rfl⟩;rw [eH _ _ _ K (by omega)];clear hm2;obtain ⟨⟨rc0, rc1, rc2, rc3, rc4⟩, rfz⟩ := (HR.drew nq).cells;have HBW2 := κ (below_drewN HBW nq);generalize wc.drewN nq = wd at *;have hext := κ (eH s i (i + K) K (by omega));generalize hrb : j6 ((s.data.toList.drop i).take K) = R;cases R
      · have HT := κ (show q8 (s.data.toList.drop i) = .ok (2, (s.data.toList.drop i).take K, [], K) by rw [HS.out, hrb]; rfl);clear hrb HS;go_wp2_with fail;refine ψb (by simp [results, Tryz.results45, go_sem, rc0, rc1, rc2, rc3, rc4]; exact rfl) rfl ?_;exact vN HT rfl hext.out (by omega) (ck HBW2 _ _ _ _ _)
      · have HT := κ (show q8 (s.data.toList.drop i) = .ok (1, (s.data.toList.drop i).take K, [], K) by rw [HS.out, hrb]; rfl);clear hrb HS;go_wp2_with fail;refine ψb (by simp [results, Tryz.results45, go_sem, rc0, rc1, rc2, rc3, rc4]; exact rfl) rfl ?_;exact vN HT rfl hext.out (by omega) (ck HBW2 _ _ _ _ _)
    · rw [hP, ψi rfl] at HS;have hp2 : i + 2 ≤ s.size := by
       have := (List.isPrefixOf_iff_prefix.1 hP).length_le;rw [ξ3, ← ξn] at this;simp at this; omega
      clear hP;go_wp2_with fail;rcases vO (Ii s b i wc HGX hs2 ha2 hz hp2) with ⟨c, hr, hc⟩ | ⟨k, t, pa, m, hr, hc⟩
      · exact R3
      · obtain rfl := C9 hr;exact R4
  · rw [ψi rfl] at HS;go_wp2_with fail;rcases vO (uF s b i wc hs2 ha2 hz hi) with ⟨c, hr, hc⟩ | ⟨k, t, pa, m, hr, hc⟩
    · exact R3
    · obtain rfl := yd hr;exact R4
theorem FM {l : Bytes} {k : Nat} {c : UInt8} (h : atB l k = c) (hc : c ≠ 0) : k < l.length := by
 refine ξk fun hk => hc ?_;rw [← h, atB, ξr, ξx (by omega)]; rfl
theorem tO : ∀ (f g : Nat) (path : List Bytes) (n : Nat) (l : Bytes), l.length < f → l.length < g → fR f path n l = fR g path n l
 | 0, _, _, _, _, h, _ => by omega
 | _, 0, _, _, _, _, h => by omega
 | f + 1, g + 1, path, n, l, hf, hg => by
  simp only [fR];by_cases h46 : (atB l (aT bJ l) == 46) = true
  · have hlt := FM (by simpa using h46) (by decide);have h1 := tO f g (path ++ [l.take (aT bJ l)]) (n + aT bJ l + 1) (l.drop (aT bJ l + 1)) (by rw [ξ3]; omega) (by rw [ξ3]; omega);rw [h1]
  · simp only [h46]; rfl
def p8 (path : List Bytes) (n : Nat) (l : Bytes) : Rd := fR (l.length + 1) path n l
theorem Dy {path : List Bytes} {n : Nat} {l : Bytes} (h : j6 (l.take (aT bJ l)) = true) : p8 path n l = if path = [] then .ok (1, l.take (aT bJ l), [], n + aT bJ l) else .error 44 := by
 unfold p8; simp only [fR]; rw [ψi h]
theorem wY {path : List Bytes} {n : Nat} {l : Bytes} (h : j6 (l.take (aT bJ l)) = false) (h2 : (atB l (aT bJ l) == 46) = false) : p8 path n l = .ok (2, l.take (aT bJ l), path, n + aT bJ l) := by
 unfold p8; simp only [fR]; rw [ψh (by simp [h]), h2]; rfl
theorem Gj {path : List Bytes} {n : Nat} {l : Bytes} (h : j6 (l.take (aT bJ l)) = false) (h2 : (atB l (aT bJ l) == 46) = true) (h3 : eU (atB (l.drop (aT bJ l + 1)) 0) = true) :
 p8 path n l = p8 (path ++ [l.take (aT bJ l)]) (n + aT bJ l + 1) (l.drop (aT bJ l + 1)) := by
 have hlt := FM (by simpa using h2) (by decide);unfold p8;rw [fR];simp only [];rw [ψh (by simp [h]), ψi h2, ψi h3];exact tO _ _ _ _ _ (by rw [ξ3]; omega) (by omega)
theorem BX {path : List Bytes} {n : Nat} {l : Bytes} (h : j6 (l.take (aT bJ l)) = false) (h2 : (atB l (aT bJ l) == 46) = true) (h3 : eU (atB (l.drop (aT bJ l + 1)) 0) = false) :
 p8 path n l = if aT dV (l.drop (aT bJ l + 1)) = 0 || j6 ((l.drop (aT bJ l + 1)).take (aT dV (l.drop (aT bJ l + 1)))) then .error 44 else
  .ok (2, (l.drop (aT bJ l + 1)).take (aT dV (l.drop (aT bJ l + 1))), path ++ [l.take (aT bJ l)], n + aT bJ l + 1 + aT dV (l.drop (aT bJ l + 1))) := by
 unfold p8;rw [fR];simp only [];rw [ψh (by simp [h]), ψi h2, ψh (by simp [h3])]
theorem Tryz.infoStr : (Tryz.prog.info? 9).map (fun i => (i.zero, i.size, i.bytes)) = some (some (.string ⟨#[]⟩), 1, 16) := by kernel_rfl
abbrev Gg (B : Nat) (w : World) (v : Value) (path : List Bytes) : Prop := w.ownsRow B 9 1 v path.length (path.map str)
theorem nR {w : World} {B n : Nat} {e : TypeId} {v : Value} {xs : List Value} (h : w.ownsRow B e 1 v n xs) : ∃ a cap, v = .slice a n cap ∧ (n ≠ 0 → a.isNone = false) := by
 rcases h.2 with ⟨rfl, rfl⟩ | ⟨g, cap, cur, rfl, _⟩
 · exact ⟨none, 0, rfl, fun h => absurd rfl h⟩
 · exact ⟨_, cap, rfl, fun _ => rfl⟩
theorem Ar {w : World} {B : Nat} {a : Option Addr} {cap : Nat} {path : List Bytes} (h : Gg B w (.slice a path.length cap) path) : Strs w (.slice a path.length cap) path := by
 rcases h.2 with ⟨hv, hn⟩ | ⟨g, cap', cur, hv, _, _, hnc, _⟩
 · obtain rfl := ξq hn;exact ⟨a, cap, rfl, ξM _, fun h => absurd rfl h⟩
 · simp only [ξR] at hv;obtain ⟨rfl, _, rfl⟩ := hv;refine ⟨_, cap, rfl, hnc, fun _ => ⟨g, 0, rfl, fun i x hi => ?_⟩⟩;have := h.cells (g := g) rfl i (str x) (by rw [ξ0, hi]; rfl);rw [Nat.zero_add];have e : ((⟨g, 0, none⟩ : Addr).add i) = ⟨g, i, none⟩ := by unfold Addr.add; split <;> simp_all
   rw [e] at this; exact this
theorem xA {w : World} {B : Nat} {a : Option Addr} {cap : Nat} {path : List Bytes} (h : Gg (B + 1) w (.slice a path.length cap) path) : oQ B w (.slice a path.length cap) path := by
 refine ⟨Ar h, fun hne => ?_⟩;rcases h.2 with ⟨_, hn⟩ | ⟨g, cap', cur, hv, hbg, _⟩
 · exact absurd (ξq hn) hne
 · simp only [ξR] at hv;obtain ⟨rfl, _, rfl⟩ := hv;exact ⟨_, _, _, rfl, by simp only []; omega⟩
theorem AK {w : World} {B : Nat} {v : Value} {path : List Bytes} (h : Gg (B + 1) w v path) (v0 v1 v2 v3 v4 : Value) :
 Gg (B + 1) (((((w.setCell ⟨B, 0, none⟩ v0).setCell ⟨B, 1, none⟩ v1).setCell ⟨B, 2, none⟩ v2).setCell ⟨B, 3, none⟩ v3).setCell ⟨B, 4, none⟩ v4) v path :=
 ownsRow_setCell_below (ownsRow_setCell_below (ownsRow_setCell_below (ownsRow_setCell_below (ownsRow_setCell_below h (ξJ _) _) (ξJ _) _) (ξJ _) _) (ξJ _) _) (ξJ _) _
theorem AJ {w1 : World} {B : Nat} {v : Value} {path : List Bytes} {x : ByteArray} (h : w1.ownsRow B 9 1 v (path.length + 1) (path.map str ++ [.string x])) : Gg B w1 v (path ++ [x.data.toList]) := by
 unfold Gg;rw [ξ1, ξ8];simp only [List.map_cons, List.map_nil, str, Lib.mk_data];exact h
theorem EG (x : ByteArray) : ∀ u ∈ [Value.string x], u.oneCell' = true := by intro u hu; simp at hu; subst hu; rfl
theorem IJ {r : Rd} {i k n : Nat} {t : Bytes} {pa : List Bytes} {w w' : World} {a : Option Addr} {cap : Nat} {kv nv lv : Int} {sv : ByteArray} (h : r = .ok (k, t, pa, n)) (hk : kv = k) (ht : sv.data.toList = t) (hn : nv = (i + n : Nat)) (hl : lv = 0) (hs : oQ w.heap.size w' (.slice a pa.length cap) pa) (hb : Below w.heap.size w w') :
 j5 r i w (.returned (.tuple #[.agg #[.int .i64 kv, .string sv, .slice a pa.length cap, .int .i64 lv, .int .i64 lv], .int .i64 nv, .int .i64 0])) w' := by
 subst ht;have := IK h hk hn hl hs hb;rw [str, Lib.mk_data] at this;exact this
theorem nB {w wr w1 : World} {o : Obj} {B base n size : Nat} {e : TypeId} {v : Value} {xs : List Value} (hb : Below B w wr) (ho : wr.ownsRow base e size v n xs) (hB : B ≤ base) (hs : B ≤ wr.heap.size) (hg : (wr.alloc o).grownBy w1 v.ownBlock) : Below B w w1 :=
 (hb.alloc hs o).grown hg (ξG hs (by simp)) fun k hk => ξG hB ((ho.lt k hk).1)
structure WSt (s : ByteArray) (i : Nat) (r : Rd) (w wr : World) (path : List Bytes) (n : Nat) (a : Option Addr) (cap : Nat) : Prop where
 own : Gg (w.heap.size + 1) wr (.slice a path.length cap) path
 nil : path = [] → a = none
 res : za w.heap.size wr
 below : Below w.heap.size w wr
 lt : i + n < s.size
 le : path.length ≤ n
 eq : r = p8 path n (s.data.toList.drop (i + n))
theorem Rm {p : Prop} (h : p := by
 have HE := κ (HS.eq.trans (HWD.trans (ψi (by simp))));go_wp2_with fail;refine ψb (by simp [results, Tryz.results41, go_sem, rc0, rc1, rc2, rc3, rc4]; exact rfl) rfl ?_;exact o8 HE rfl (ck HB1 _ _ _ _ _)
 ) : p := h
theorem RZ {p : Prop} (h : p := by
 have HE := κ (HS.eq.trans hwe);clear hwe hrb;go_wp2_with fail;refine ψb (by simp [results, Tryz.results41, go_sem, rc0, rc1, rc2, rc3, rc4]; exact rfl) rfl ?_;exact IJ HE rfl (eH _ _ _ _ (by omega)) (by omega) rfl (xA (AK HS.own _ _ _ _ _)) (ck HB _ _ _ _ _)
 ) : p := h
theorem Gi (s : ByteArray) (b i : Nat) (w : World) (hg : Gl w) (hs : w.cell? ⟨b, 0, none⟩ = some (.string s)) (ha : w.cell? ⟨b, 1, none⟩ = some (.int .i64 i)) (hz : s.size ≤ 1048576) (hi : i < s.size) :
 Calls Tryz.prog 41 #[.pointer (some ⟨b, 0, none⟩)] w (j5 (p8 [] 0 (s.data.toList.drop i)) i w) := by
 have hs1 := ay hs;have ha1 := ay ha;obtain ⟨u0, hu, hu0, hu1, hu2⟩ := info_parts Tryz.infoStr;obtain ⟨r, hr⟩ : ∃ r, p8 [] 0 (s.data.toList.drop i) = r := ⟨_, rfl⟩;rw [hr];have hst : WSt s i r w (w.alloc (.cells #[.int .i64 0, .string ⟨#[]⟩, .slice none 0 0, .int .i64 0, .int .i64 0] 32)) [] 0 none 0 :=
  ⟨ξX _ _ _ _, fun _ => rfl, za.new w, ((ξf _ w).alloc (ξF _) _), by omega, ξF _, hr.symm⟩
 have HST := κ hst; clear hst hr;have hne := ξS w _ hs;simp only [] at hne;have hne1 : ¬ w.heap.size = b := by omega
 have hne2 : ¬ b = w.heap.size := by omega
 have hbl := hne;clear hne;have HG := κ hg; clear hg;go_enter Tryz.func41, Tryz.ntmps41;go_wp2_with fail;go_loopw [5, 6] (fun v5 v6 wr => ∃ path n a cap, v5 = .slice a path.length cap ∧ v6 = .int .i64 (i + n : Nat) ∧ WSt s i r w wr path n a cap) (fun _ v6 _ => s.size - (intOf v6).toNat)
 case atStart => exact ⟨[], 0, none, 0, rfl, rfl, HST⟩
 case round =>
  obtain ⟨path, n, a, cap, rfl, rfl, hst⟩ := hrel;have hbw := hst.below;have hlt := hst.lt;have hle := hst.le;have HS := κ hst;have hsr := cell_later hbw hs;have HB := κ hbw;have hsz := hbw.size;have hwsz : w.heap.size + 1 ≤ wr.heap.size := by
   have := hst.res;unfold za at this;obtain ⟨h1, _⟩ := ξd.1 this;omega
  clear hbw;obtain ⟨mx, hmx⟩ := (HG.below HB).mx;obtain ⟨⟨rc0, rc1, rc2, rc3, rc4⟩, rfz⟩ := hst.res.cells;clear hst;have hnil : ∀ W, (binOp .eql 30 (.slice a path.length cap) (.slice none 0 0)).run Tryz.prog W = .ok (.bool a.isNone) W := fun W => Lib.run_eql_slice_nil W _ 9 a _ _ _ _ (by kernel_rfl);have hk := gF bJ (s.data.toList.drop (i + n));rw [ξ3, ← ξn] at hk;go_wp2_with fail;refine (lu 75 bJ nV (fun c w => mF _ w) s b (i + n) _ hsr (by unfold maxLen; omega)).mono ?_;rintro e w' ⟨rfl, rfl⟩;obtain ⟨k, hK⟩ : ∃ k, aT bJ (s.data.toList.drop (i + n)) = k := ⟨_, rfl⟩;rw [hK] at hk ⊢;have HK := κ hK; clear hK;go_wp2_with fail;refine (jE (s.extract (i + n) (i + n + k)) mx _ hmx (by rw [ByteArray.size_extract]; omega)).mono ?_;rintro e w' ⟨rfl, rfl⟩;rw [eH _ _ _ k (by omega)];cases hrb : j6 ((s.data.toList.drop (i + n)).take k)
  · have hrb' : j6 ((s.data.toList.drop (i + n)).take (aT bJ (s.data.toList.drop (i + n)))) = false := by rw [HK.out]; exact hrb
    by_cases hend : i + n + k < s.size
    · obtain ⟨y, hy⟩ : ∃ y : UInt8, s[i + n + k]'hend = y := ⟨_, rfl⟩;have hat := fG s (i + n) k hend;rw [hy] at hat;have hlz : decide ((i : Int) + n + k ≥ (s.size : Int)) = false := by simp; omega
      have hsn : ((i : Int) + n + k).toNat = i + n + k := by omega
      by_cases h46 : y.toNat = 46
      · have b46 : ((y.toNat : Int) != 46) = false := by rw [bne_eq_false_iff_eq]; omega
        have hdot : (atB (s.data.toList.drop (i + n)) (aT bJ (s.data.toList.drop (i + n))) == 46) = true := by rw [HK.out, hat, kV h46]; rfl
        have hwg := Gj (path := path) (n := n) hrb' hdot;have hwd := BX (path := path) (n := n) hrb' hdot;rw [HK.out, List.drop_drop, show i + n + (k + 1) = i + n + k + 1 from by omega] at hwg hwd;clear hat hdot hrb hrb';have HWG := κ hwg; clear hwg;go_wp2_with (first | (at_builtin; refine wpList_append_own _ rfl _ _ 30 rfl (w.heap.size + 1) 9 u0 (.string ⟨#[]⟩) 1 16 Tryz.underlying30 hu hu0 hu1 hu2 rfl (by decide) _ _ _ rfl (HS.own.alloc _) ⟨wr.heap.size, 0, none⟩ 1 1 [.string (s.extract (i + n) (i + n + k))] rfl rfl (cell_one_new _ _ _) (EG _) ?c3 ?c4 ?c5 ?_))
        case c3 => unfold maxLen; omega
        case c4 => omega
        case c5 => simp; omega
        intro v' w1 hown1 hgr _;have hown2 := AJ hown1;rw [eH _ _ _ k (by omega)] at hown2;have hpos : w.heap.size + 1 ≤ wr.heap.size := hwsz;obtain ⟨P1, hP1⟩ : ∃ P1, path ++ [(s.data.toList.drop (i + n)).take k] = P1 := ⟨_, rfl⟩;rw [hP1] at hown2 hwd HWG;have HB1 := κ (nB HB HS.own (Nat.le_succ _) (Nat.le_of_succ_le hpos) hgr);have hres1 : za w.heap.size w1 := HS.res.keep (nB (ξf _ _) HS.own (ξF _) hpos hgr);obtain ⟨⟨rc0, rc1, rc2, rc3, rc4⟩, rfz⟩ := hres1.cells;have HR1 := κ hres1;have hs1 := cell_later HB1 hs;obtain ⟨mx, hm1⟩ := (HG.below HB1).mx;obtain ⟨a1, c1, rfl, hnn⟩ := nR hown2;have HO1 := κ hown2;have hP0 : P1 ≠ [] := by rw [← hP1]; simp
        have HP2 := κ (show P1.length = path.length + 1 by rw [← hP1]; simp);clear hP1;clear hown1 hown2 hgr hnn hsr hmx;by_cases hfl : i + n + k + 1 < s.size
        · obtain ⟨z, hz1⟩ : ∃ z : UInt8, s[i + n + k + 1]'hfl = z := ⟨_, rfl⟩;have hat0 := fG s (i + n + k + 1) 0 hfl;simp only [Nat.add_zero, hz1] at hat0;have hlz1 : decide ((i : Int) + n + k + 1 < (s.size : Int)) = true := by simp; omega
          have hsn1 : ((i : Int) + n + k + 1).toNat = i + n + k + 1 := by omega
          obtain ⟨LZ, hlet⟩ : ∃ LZ, eU (atB (s.data.toList.drop (i + n + k + 1)) 0) = LZ := ⟨_, rfl⟩;have hlI : lJ (z.toNat : Int) = LZ := by rw [← hlet, hat0]; rfl
          clear hat0;cases LZ
          · rw [hlet] at hwd;have HWD := κ (hwd rfl); clear hwd;go_wp2_with fail;refine (mD _ _).mono ?_;rintro e w' ⟨rfl, rfl⟩;rw [hlI];go_wp2_with fail;refine (lu 44 dV kL (fun c w => mG c w) s b (i + n + k + 1) w1 hs1 (by unfold maxLen; omega)).mono ?_;rintro e w' ⟨rfl, rfl⟩;obtain ⟨g, hG⟩ : ∃ g, aT dV (s.data.toList.drop (i + n + k + 1)) = g := ⟨_, rfl⟩;have hgl := gF dV (s.data.toList.drop (i + n + k + 1));rw [ξ3, ← ξn] at hgl;rw [hG] at HWD hgl;rw [hG];clear hG;by_cases hg0 : g = 0
            · subst hg0;exact Rm
            · have bg0 : ((i : Int) + n + k + 1 + g == (i : Int) + n + k + 1) = false := by rw [ξY]; omega
              go_wp2_with fail;refine (jE (s.extract (i + n + k + 1) (i + n + k + 1 + g)) mx _ hm1 (by rw [ByteArray.size_extract]; omega)).mono ?_;rintro e w' ⟨rfl, rfl⟩;rw [eH _ _ _ g (by omega)];generalize hrg : j6 ((s.data.toList.drop (i + n + k + 1)).take g) = R;rw [hrg] at HWD;clear hrg;cases R
              · have HE : RowKit.Hid (r = .ok (2, (s.data.toList.drop (i + n + k + 1)).take g, P1, n + k + 1 + g)) := HS.eq.trans (HWD.trans (ψh (by simp [hg0])));go_wp2_with fail;refine ψb (by simp [results, Tryz.results41, go_sem, rc0, rc1, rc2, rc3, rc4]; exact rfl) rfl ?_;exact IJ HE rfl (eH _ _ _ _ (by omega)) (by omega) rfl (xA (AK HO1 _ _ _ _ _)) (ck HB1 _ _ _ _ _)
              · exact Rm
          · have HE := κ (HS.eq.trans (HWG hlet));clear hwd hlet;go_wp2_with fail;refine (mD _ _).mono ?_;rintro e w' ⟨rfl, rfl⟩;rw [hlI];go_wp2_with fail;go_roundw
            case rel => exact ⟨P1, n + k + 1, a1, c1, rfl, by go_num, ⟨HO1.out, fun h => absurd h hP0, HR1.out, HB1.out, by omega, by have := HP2.out; omega, HE.trans (by rw [show i + (n + k + 1) = i + n + k + 1 from by omega])⟩⟩
            case measure => simp [intOf]; omega
        · have hlz1 : decide ((i : Int) + n + k + 1 < (s.size : Int)) = false := by simp; omega
          have hlet : eU (atB (s.data.toList.drop (i + n + k + 1)) 0) = false := by rw [fF s (i + n + k + 1) 0 (by omega)]; rfl
          rw [hlet] at hwd;have HWD := κ (hwd rfl); clear hwd;go_wp2_with fail;refine (lu 44 dV kL (fun c w => mG c w) s b (i + n + k + 1) w1 hs1 (by unfold maxLen; omega)).mono ?_;rintro e w' ⟨rfl, rfl⟩;obtain ⟨g, hG⟩ : ∃ g, aT dV (s.data.toList.drop (i + n + k + 1)) = g := ⟨_, rfl⟩;have hgl := gF dV (s.data.toList.drop (i + n + k + 1));rw [ξ3, ← ξn] at hgl;rw [hG] at HWD hgl;rw [hG];clear hG;obtain rfl : g = 0 := by omega
          exact Rm
      · have b46 : ((y.toNat : Int) != 46) = true := by rw [ψa]; omega
        have hwe := wY (path := path) (n := n) hrb' (by rw [HK.out, hat, ξY]; rintro rfl; exact h46 rfl);rw [HK.out] at hwe;clear hat hrb';exact RZ
    · have hlz : decide ((i : Int) + n + k ≥ (s.size : Int)) = true := by simp; omega
      have hwe := wY (path := path) (n := n) hrb' (by rw [HK.out, fF s (i + n) k hend]; rfl);rw [HK.out] at hwe;clear hrb';exact RZ
  · have hwr := Dy (path := path) (n := n) (show j6 ((s.data.toList.drop (i + n)).take (aT bJ (s.data.toList.drop (i + n)))) = true by rw [HK.out]; exact hrb);rw [HK.out] at hwr;have HWR := κ (HS.eq.trans hwr); clear hwr hrb;by_cases hp : path = []
    · have hN : a.isNone = true := by rw [HS.nil hp]; rfl
      rw [ψi hp] at HWR;clear hp;go_wp2_with fail;refine ψb (by simp [results, Tryz.results41, go_sem, rc0, rc1, rc2, rc3, rc4]; exact rfl) rfl ?_;exact vN HWR rfl (eH _ _ _ _ (by omega)) (by omega) (ck HB _ _ _ _ _)
    · have hN : a.isNone = false := by
       obtain ⟨a', cap', hv, hh⟩ := nR HS.own;simp only [ξR] at hv;obtain ⟨rfl, _, _⟩ := hv;exact hh (fun h => hp (ξq h))
      rw [ψh hp] at HWR;go_wp2_with fail;refine ψb (by simp [results, Tryz.results41, go_sem, rc0, rc1, rc2, rc3, rc4]; exact rfl) rfl ?_;exact o8 HWR rfl (ck HB _ _ _ _ _)
def iM (c : UInt8) : Nat :=
 if eU c then 41 else if aM c then 43 else if c == 126 || dV c then 45
 else if c == 34 then 46 else if c == 39 then 47 else 48
theorem DG (c : UInt8) (n : Nat) (h : n < 256) : ((c.toNat : Int) == (n : Nat)) = (c == n.toUInt8) := by
 by_cases hc : c.toNat = n
 · rw [kV hc];have : n.toUInt8.toNat = n := by simp; omega
   rw [this]; simp
 · have h1 : ((c.toNat : Int) == (n : Nat)) = false := by rw [ξY]; omega
   have h2 : (c == n.toUInt8) = false := by
    rw [ξY]; rintro rfl; apply hc; simp; omega
   rw [h1, h2]
theorem mZ {a b : Nat} (h : a = b) : Ending.returned (.func (.func a) #[] #[]) = .returned (.func (.func b) #[] #[]) := by rw [h]
theorem zC (c : UInt8) (w : World) :
 Calls Tryz.prog 26 #[.int .u8 c.toNat] w fun e w' => e = .returned (.func (.func (iM c)) #[] #[]) ∧ w = w' := by
 have e126 : ((c.toNat : Int) == 126) = (c == 126) := DG c 126 (by omega);have e34 : ((c.toNat : Int) == 34) = (c == 34) := DG c 34 (by omega);have e39 : ((c.toNat : Int) == 39) = (c == 39) := DG c 39 (by omega);have hR : RowKit.Hid (∀ a1 a2 a3 a4 a5 a6, eU c = a1 → aM c = a2 → (c == 126) = a3 → dV c = a4 → (c == 34) = a5 → (c == 39) = a6 → iM c = if a1 then 41 else if a2 then 43 else if a3 || a4 then 45 else if a5 then 46 else if a6 then 47 else 48) := by
  rintro _ _ _ _ _ _ rfl rfl rfl rfl rfl rfl; rfl
 have hR2 := κ (hR.out (lJ c.toNat) (pR c.toNat) _ _ _ _ rfl rfl rfl rfl rfl rfl); clear hR;generalize (c == 126) = a3 at *;generalize (c == 34) = a5 at *;generalize (c == 39) = a6 at *;generalize iM c = R at *;have HS := κ (fun w => mG c w);generalize dV c = a4 at *;go_enter Tryz.func26, Tryz.ntmps26;go_wp2_with fail;refine (mD _ _).mono ?_;rintro e w' ⟨rfl, rfl⟩;generalize lJ c.toNat = a1 at *;cases a1
 · go_wp2_with fail;refine (dR _ _).mono ?_;rintro e w' ⟨rfl, rfl⟩;generalize pR c.toNat = a2 at *;cases a2
   · cases a3
     · go_wp2_with fail;refine (HS _).mono ?_;rintro e w' ⟨rfl, rfl⟩;cases a4
       · cases a5
         · cases a6
           · go_wp2_with fail;go_ret;exact ⟨mZ hR2.out.symm, rfl⟩
           · go_wp2_with fail;go_ret;exact ⟨mZ hR2.out.symm, rfl⟩
         · go_wp2_with fail;go_ret;exact ⟨mZ hR2.out.symm, rfl⟩
       · go_wp2_with fail;go_ret;exact ⟨mZ hR2.out.symm, rfl⟩
     · go_wp2_with fail;go_ret;exact ⟨mZ hR2.out.symm, rfl⟩
   · go_wp2_with fail;go_ret;exact ⟨mZ hR2.out.symm, rfl⟩
 · go_wp2_with fail;go_ret;exact ⟨mZ hR2.out.symm, rfl⟩
theorem Ck (s : ByteArray) (b i : Nat) (w : World) (hg : Gl w) (hs : w.cell? ⟨b, 0, none⟩ = some (.string s)) (ha : w.cell? ⟨b, 1, none⟩ = some (.int .i64 i)) (hz : s.size ≤ 1048576) (hi : i < s.size) :
 Calls Tryz.prog (iM (s[i]'hi)) #[.pointer (some ⟨b, 0, none⟩)] w (j5 (gL (s.data.toList.drop i)) i w) := by
 have hat := fG s i 0 (by omega);simp only [Nat.add_zero] at hat;unfold gL iM;rw [hat];simp only [];split
 · exact Gi s b i w hg hs ha hz hi
 · split
   · exact uF s b i w hs ha hz hi
   · split
     · exact GD s b i w hg hs ha hz hi
     · split
       · exact Gu s b i w hg hs ha hz hi
       · split
         · exact DI s b i w hg hs ha hz hi
         · exact EF s b i w hg hs ha hz hi
theorem iX : ∀ (f g d n : Nat) (l : Bytes), l.length < f → l.length < g → fK f d n l = fK g d n l
 | 0, _, _, _, _, h, _ => by omega
 | _, 0, _, _, _, _, h => by omega
 | f + 1, g + 1, _, _, [], _, _ => rfl
 | f + 1, g + 1, d, n, c :: l, hf, hg => by
  simp only [ξ2] at hf hg;have h1 := iX f g (d + 1) (n + 2) (l.drop 1) (by rw [ξ3]; omega) (by rw [ξ3]; omega);have h2 := iX f g (d - 1) (n + 2) (l.drop 1) (by rw [ξ3]; omega) (by rw [ξ3]; omega);have h3 := iX f g d (n + 1) l (by omega) (by omega);simp only [fK, h1, h2, h3]
def ny (d n : Nat) (l : Bytes) : Option Nat := fK (l.length + 1) d n l
theorem CY {d n : Nat} {c : UInt8} {l : Bytes} (h : [40, 42].isPrefixOf (c :: l) = true) : ny d n (c :: l) = ny (d + 1) (n + 2) (l.drop 1) := by
 unfold ny;rw [fK, ψi h];exact iX _ _ _ _ _ (by rw [ξ3, ξ2]; omega) (by omega)
theorem CZ {n : Nat} {c : UInt8} {l : Bytes} (h : [40, 42].isPrefixOf (c :: l) = false) (h2 : [42, 41].isPrefixOf (c :: l) = true) : ny 1 n (c :: l) = some (n + 2) := by
 unfold ny;rw [fK, ψh (by rw [h]; decide), ψi h2, ψi rfl]
theorem Aa {d n : Nat} {c : UInt8} {l : Bytes} (h : [40, 42].isPrefixOf (c :: l) = false) (h2 : [42, 41].isPrefixOf (c :: l) = true) (hd : d ≠ 1) : ny d n (c :: l) = ny (d - 1) (n + 2) (l.drop 1) := by
 unfold ny;rw [fK, ψh (by rw [h]; decide), ψi h2, ψh hd];exact iX _ _ _ _ _ (by rw [ξ3, ξ2]; omega) (by omega)
theorem CX {d n : Nat} {c : UInt8} {l : Bytes} (h : [40, 42].isPrefixOf (c :: l) = false) (h2 : [42, 41].isPrefixOf (c :: l) = false) : ny d n (c :: l) = ny d (n + 1) l := by
 unfold ny;rw [fK, ψh (by rw [h]; decide), ψh (by rw [h2]; decide)];exact iX _ _ _ _ _ (by rw [ξ2]; omega) (by omega)
def Ib (i : Nat) : Option Nat → Int
 | none => 0
 | some n => (i + n : Nat)
structure CSt (s : ByteArray) (i0 : Nat) (r : Option Nat) (i d : Nat) : Prop where
 le : i0 ≤ i
 sz : i ≤ s.size
 dle : d ≤ i
 pos : i = i0 ∨ 0 < d
 eq : r = ny d (i - i0) (s.data.toList.drop i)
theorem oq {s : ByteArray} {i : Nat} {x y : UInt8} (h : [x, y].isPrefixOf (s.data.toList.drop i) = true) : i + 2 ≤ s.size := by
 have := (List.isPrefixOf_iff_prefix.1 h).length_le;rw [ξ3, ← ξn] at this;simp at this; omega
theorem z8 (s : ByteArray) (b i0 : Nat) (w : World) (hs : w.cell? ⟨b, 0, none⟩ = some (.string s)) (hz : s.size ≤ 1048576) (hpre : [40, 42].isPrefixOf (s.data.toList.drop i0) = true) :
 Calls Tryz.prog 25 #[.pointer (some ⟨b, 0, none⟩), .int .i64 i0] w fun e w' => e = .returned (.int .i64 (Ib i0 (ny 0 0 (s.data.toList.drop i0)))) ∧ w = w' := by
 obtain ⟨r, hr⟩ : ∃ r, ny 0 0 (s.data.toList.drop i0) = r := ⟨_, rfl⟩;rw [hr];have hst : CSt s i0 r i0 0 := ⟨ξF _, by have := oq hpre; omega, ξM _, .inl rfl, by rw [Nat.sub_self]; exact hr.symm⟩;have HST := κ hst; clear hst hr;have HP := κ hpre; clear hpre;go_enter Tryz.func25, Tryz.ntmps25;go_wp2_with fail;go_loop [1, 5] (fun v1 v5 => ∃ i d : Nat, v1 = .int .i64 i ∧ v5 = .int .i64 d ∧ CSt s i0 r i d) (fun v1 _ => s.size - (intOf v1).toNat)
 case atStart => exact ⟨i0, 0, rfl, rfl, HST⟩
 case round =>
  obtain ⟨i, d, rfl, rfl, hst⟩ := hrel;have hle := hst.le;have hsz := hst.sz;have hdle := hst.dle;have HS := κ hst; clear hst;by_cases hlt : i < s.size
  · have hd := nA s i hlt;obtain ⟨x, hx⟩ : ∃ x : UInt8, s[i]'hlt = x := ⟨_, rfl⟩;rw [hx] at hd;have hlz : decide ((i : Int) < (s.size : Int)) = true := by simp; omega
    obtain ⟨A, hA⟩ : ∃ A, [40, 42].isPrefixOf (s.data.toList.drop i) = A := ⟨_, rfl⟩;obtain ⟨B, hB⟩ : ∃ B, [42, 41].isPrefixOf (s.data.toList.drop i) = B := ⟨_, rfl⟩;have HA := κ hA;have HB := κ hB;have HD := κ hd; clear hd;go_wp2_with fail;refine (iU s ⟨#[40, 42]⟩ b i _ hs (by unfold maxLen; omega) (by omega)).mono ?_;rintro e w' ⟨rfl, rfl⟩;simp only [hA];clear hA;cases A
    · go_wp2_with fail;refine (iU s ⟨#[42, 41]⟩ b i _ hs (by unfold maxLen; omega) (by omega)).mono ?_;rintro e w' ⟨rfl, rfl⟩;simp only [hB];clear hB;have HP1 : RowKit.Hid (0 < d) := by
       rcases HS.pos with h | h
       · subst h; have := HP.out; rw [HA.out] at this; cases this
       · exact h
      cases B
      · go_wp2_with fail;go_round
        case rel => exact ⟨i + 1, d, by go_num, rfl, by omega, by omega, by omega, .inr HP1.out, by rw [HS.eq, HD.out, CX (by rw [← HD.out]; exact HA.out) (by rw [← HD.out]; exact HB.out), show i + 1 - i0 = i - i0 + 1 from by omega]⟩
        case measure => simp [intOf]; omega
      · have hp2 := oq HB;by_cases h1 : d = 1
        · subst h1;have HE := κ (show r = some (i - i0 + 2) by rw [HS.eq, HD.out, CZ (by rw [← HD.out]; exact HA.out) (by rw [← HD.out]; exact HB.out)]);go_wp2_with fail;go_ret;exact ⟨vK (by rw [HE.out]; simp only [Ib]; omega), rfl⟩
        · have b1 : ((d : Int) - 1 == 0) = false := by rw [ξY]; omega
          have HN := κ h1; clear h1;go_wp2_with fail;go_round
          case rel => exact ⟨i + 2, d - 1, by go_num, by have := HP1.out; go_num, by omega, by omega, by omega, .inr (by have := HP1.out; have := HN.out; omega), by rw [HS.eq, HD.out, Aa (by rw [← HD.out]; exact HA.out) (by rw [← HD.out]; exact HB.out) HN.out, List.drop_drop, show i + 2 - i0 = i - i0 + 2 from by omega]⟩
          case measure => simp [intOf]; omega
    · clear hB;have hp2 := oq HA;go_wp2_with fail;go_round
      case rel => exact ⟨i + 2, d + 1, by go_num, by go_num, by omega, by omega, by omega, .inr (by omega), by rw [HS.eq, HD.out, CY (by rw [← HD.out]; exact HA.out), List.drop_drop, show i + 2 - i0 = i - i0 + 2 from by omega]⟩
      case measure => simp [intOf]; omega
  · have HE := κ (show r = none by rw [HS.eq, List.drop_of_length_le (by rw [← ξn]; omega)]; rfl);go_wp2_with fail;go_ret;exact ⟨vK (by rw [HE.out]; rfl), rfl⟩
structure PSt (s : ByteArray) (B pt : Nat) (w wr : World) (sn ln bg : Nat) : Prop where
 c0 : wr.cell? ⟨B, 0, none⟩ = some (.string s)
 c1 : wr.cell? ⟨B + 1, 1, none⟩ = some (.int .i64 pt)
 c2 : wr.cell? ⟨B + 1 + 1, 0, none⟩ = some (.pointer (some ⟨B + 1, 0, none⟩))
 c3 : wr.cell? ⟨B + 1 + 1 + 1, 0, none⟩ = some (.int .i64 ln)
 c4 : wr.cell? ⟨B + 1 + 1 + 1 + 1, 0, none⟩ = some (.int .i64 bg)
 c5 : wr.cell? ⟨B + 1 + 1 + 1 + 1 + 1, 0, none⟩ = some (.int .i64 sn)
 f3 : wr.frozen? ⟨B + 1 + 1 + 1, 0, none⟩ = false
 f4 : wr.frozen? ⟨B + 1 + 1 + 1 + 1, 0, none⟩ = false
 f5 : wr.frozen? ⟨B + 1 + 1 + 1 + 1 + 1, 0, none⟩ = false
 keep : ∀ k, k < B + 3 ∨ B + 5 < k → wr.heap[k]? = w.heap[k]?
 os : wr.os = w.os
 tape : wr.tape = w.tape
 output : wr.output = w.output
 size : wr.heap.size = w.heap.size
 le : sn ≤ pt
 bgle : bg ≤ sn
 lnle : ln ≤ sn + 1
 eq : adv (1, 1) (s.data.toList.take sn) = (ln, sn - bg + 1)
def Mx (s : ByteArray) (B pt : Nat) (w : World) (e : Ending) (w' : World) : Prop :=
 ∃ ln bg : Nat, e = .returned (.tuple #[.int .i64 ln, .int .i64 (pt - bg + 1 : Nat)]) ∧ PSt s B pt w w' pt ln bg
theorem wV {s : ByteArray} {sn : Nat} (h : sn < s.size) : adv (1, 1) (s.data.toList.take (sn + 1)) = FY (adv (1, 1) (s.data.toList.take sn)) (s[sn]'h) := by
 unfold adv;rw [List.take_add_one, Lib.data_getElem? s sn h, List.foldl_append]; rfl
theorem PSt.drewN {s : ByteArray} {B pt sn ln bg : Nat} {w wr : World} (h : PSt s B pt w wr sn ln bg) (n : Nat) : PSt s B pt w (wr.drewN n) sn ln bg :=
 ⟨h.c0, h.c1, h.c2, h.c3, h.c4, h.c5, h.f3, h.f4, h.f5, h.keep, h.os, h.tape, h.output, h.size, h.le, h.bgle, h.lnle, h.eq⟩
theorem PSt.step {s : ByteArray} {B pt sn ln bg : Nat} {w wr : World} (h : PSt s B pt w wr sn ln bg) (hl : sn < pt) (hz : sn < s.size) (hx : ¬ (s[sn]'hz).toNat = 10) {v : Int} (hv : v = (sn + 1 : Nat)) :
 PSt s B pt w (wr.setCell ⟨B + 1 + 1 + 1 + 1 + 1, 0, none⟩ (.int .i64 v)) (sn + 1) ln bg := by
 subst hv;have ne : ∀ k j, k ≠ B + 5 → (⟨k, j, none⟩ : Addr) ≠ ⟨B + 1 + 1 + 1 + 1 + 1, 0, none⟩ := fun k j hk e => hk (by injection e);have o : ∀ k j, k ≠ B + 5 → (wr.setCell ⟨B + 1 + 1 + 1 + 1 + 1, 0, none⟩ (.int .i64 (sn + 1 : Nat))).cell? ⟨k, j, none⟩ = wr.cell? ⟨k, j, none⟩ := fun k j hk => ξT (h := (ne k j hk).symm) ..;refine ⟨(o _ _ (by omega)).trans h.c0, (o _ _ (by omega)).trans h.c1, (o _ _ (by omega)).trans h.c2, (o _ _ (by omega)).trans h.c3, (o _ _ (by omega)).trans h.c4, ξU (h := h.c5) .., by rw [ξV]; exact h.f3, by rw [ξV]; exact h.f4, by rw [ξV]; exact h.f5,
  fun k hk => (Below.heap_setCell _ _ _ _ (by simp only []; omega)).trans (h.keep k hk), h.os, h.tape, h.output, by simp [World.setCell, h.size], hl, by have := h.bgle; omega, by have := h.lnle; omega, ?_⟩
 rw [wV hz, h.eq];unfold FY;rw [ψh (by rw [ξZ]; rintro e; rw [e] at hx; exact hx rfl)];have := h.bgle;simp only [ξP, true_and]; omega
theorem PSt.line {s : ByteArray} {B pt sn ln bg : Nat} {w wr : World} (h : PSt s B pt w wr sn ln bg) (hl : sn < pt) (hz : sn < s.size) (hx : (s[sn]'hz).toNat = 10) {v u : Int} (hv : v = (ln + 1 : Nat)) (hu : u = (sn + 1 : Nat)) :
 PSt s B pt w (((wr.setCell ⟨B + 1 + 1 + 1, 0, none⟩ (.int .i64 v)).setCell ⟨B + 1 + 1 + 1 + 1, 0, none⟩ (.int .i64 u)).setCell ⟨B + 1 + 1 + 1 + 1 + 1, 0, none⟩ (.int .i64 u)) (sn + 1) (ln + 1) (sn + 1) := by
 subst hv; subst hu;have o : ∀ (W : World) (m k j : Nat) (x : Value), k ≠ m → (W.setCell ⟨m, 0, none⟩ x).cell? ⟨k, j, none⟩ = W.cell? ⟨k, j, none⟩ := fun W m k j x hk => ξT (h := fun e => hk (by injection e with e; exact e.symm)) ..;have oo : ∀ k j, k ≠ B + 3 → k ≠ B + 4 → k ≠ B + 5 → (((wr.setCell ⟨B + 1 + 1 + 1, 0, none⟩ (.int .i64 (ln + 1 : Nat))).setCell ⟨B + 1 + 1 + 1 + 1, 0, none⟩ (.int .i64 (sn + 1 : Nat))).setCell ⟨B + 1 + 1 + 1 + 1 + 1, 0, none⟩ (.int .i64 (sn + 1 : Nat))).cell? ⟨k, j, none⟩ = wr.cell? ⟨k, j, none⟩ := fun k j h3 h4 h5 => by
  rw [o _ _ _ _ _ (by omega), o _ _ _ _ _ (by omega), o _ _ _ _ _ (by omega)]
 refine ⟨(oo _ _ (by omega) (by omega) (by omega)).trans h.c0, (oo _ _ (by omega) (by omega) (by omega)).trans h.c1, (oo _ _ (by omega) (by omega) (by omega)).trans h.c2, ?_, ?_, ?_, by simp only [ξV]; exact h.f3, by simp only [ξV]; exact h.f4, by simp only [ξV]; exact h.f5,
  fun k hk => ?_, h.os, h.tape, h.output, by simp [World.setCell, h.size], hl, ξF _, by have := h.lnle; omega, ?_⟩
 · rw [o _ _ _ _ _ (by omega), o _ _ _ _ _ (by omega)]; exact ξU (h := h.c3) ..
 · rw [o _ _ _ _ _ (by omega)];refine ξU (u := .int .i64 bg) (h := ?_) ..;rw [o _ _ _ _ _ (by omega)]; exact h.c4
 · refine ξU (u := .int .i64 sn) (h := ?_) ..;rw [o _ _ _ _ _ (by omega), o _ _ _ _ _ (by omega)]; exact h.c5
 · exact (Below.heap_setCell _ _ _ _ (by simp only []; omega)).trans ((Below.heap_setCell _ _ _ _ (by simp only []; omega)).trans ((Below.heap_setCell _ _ _ _ (by simp only []; omega)).trans (h.keep k hk)))
 · rw [wV hz, h.eq];unfold FY;rw [ψi (by rw [ξZ, ← UInt8.toNat_inj]; exact hx)];simp
def D9 (w : World) (B : Nat) : Nat := match w.cell? ⟨B + 1 + 1 + 1 + 1 + 1, 0, none⟩ with | some v => (intOf v).toNat | none => 0
theorem nJ {w : World} {B sn : Nat} (h : w.cell? ⟨B + 1 + 1 + 1 + 1 + 1, 0, none⟩ = some (.int .i64 sn)) : D9 w B = sn := by
 unfold D9; rw [h]; simp [intOf]
theorem Ep (s : ByteArray) (B pt sn ln bg : Nat) (w : World) (hst : PSt s B pt w w sn ln bg) (hz : s.size ≤ 1048576) (hpt : pt ≤ s.size) :
 Calls Tryz.prog 22 #[.pointer (some ⟨B + 1 + 1 + 1 + 1 + 1, 0, none⟩), .pointer (some ⟨B + 1 + 1, 0, none⟩), .pointer (some ⟨B, 0, none⟩), .pointer (some ⟨B + 1 + 1 + 1, 0, none⟩), .pointer (some ⟨B + 1 + 1 + 1 + 1, 0, none⟩)] w (Mx s B pt w) := by
 have HST := κ hst; clear hst;go_enter Tryz.func22, Tryz.ntmps22;go_wp2_with fail;go_loopw [7] (fun _ wr => ∃ sn ln bg : Nat, PSt s B pt w wr sn ln bg) (fun _ wr => pt - D9 wr B)
 case atStart => exact ⟨sn, ln, bg, HST⟩
 case round =>
  obtain ⟨sn, ln, bg, hst⟩ := hrel;have HS := κ hst;obtain ⟨c0, c1, c2, c3, c4, c5, f3, f4, f5, _, _, _, _, _, hle, hbg, hln, _⟩ := hst;by_cases hlt : sn < pt
  · have hsz : sn < s.size := by omega
    obtain ⟨x, hx⟩ : ∃ x : UInt8, s[sn]'hsz = x := ⟨_, rfl⟩;have hI : (sn : Int) < (pt : Int) := by omega
    have hI2 : (sn : Int) < (s.size : Int) := by omega
    go_wp2_with fail;go_quiet (fail);by_cases h10 : x.toNat = 10
    · have b10 : ((x.toNat : Int) == 10) = true := by rw [ξZ]; omega
      go_wp2_with fail;go_region;go_wp2_with fail;have hn := (HS.drewN (nq + 1)).line hlt hsz (by rw [hx]; exact h10) (v := ↑ln + 1) (u := ↑sn + 1) (by omega) (by omega);go_roundw
      case rel => exact ⟨_, _, _, hn⟩
      case measure => rw [nJ hn.c5, nJ HS.c5]; omega
    · have b10 : ((x.toNat : Int) == 10) = false := by rw [ξY]; omega
      go_wp2_with fail;have hn := (HS.drewN nq).step hlt hsz (by rw [hx]; exact h10) (v := ↑sn + 1) (by omega);go_roundw
      case rel => exact ⟨_, _, _, hn⟩
      case measure => rw [nJ hn.c5, nJ HS.c5]; omega
  · have hI : decide ((sn : Int) < (pt : Int)) = false := by simp; omega
    go_wp2_with fail;go_quiet (fail);go_wp2_with fail;go_quiet (fail);go_wp2_with fail;go_ret2
    obtain rfl : sn = pt := by omega
    exact ⟨ln, bg, by rw [show ((sn - bg + 1 : Nat) : Int) = (sn : Int) - bg + 1 from by omega]; rfl, by rw [World.drewN_drewN]; exact HS.drewN _⟩
end Go.Proofs.YtbchkldhnjahaaaGreatDoor
namespace Kiln
theorem nZ {l : Bytes} {k : Nat} {c : UInt8} (h : atB l k = c) (hc : c ≠ 0) : k < l.length := by
 refine ξk fun hk => hc ?_;rw [← h, atB, ξr, ξx (by omega)]; rfl
theorem mH (p : UInt8 → Bool) (l : Bytes) (k : Nat) (h : k ≤ l.length) : k + aT p (l.drop k) ≤ l.length := by
 have := gF p (l.drop k); rw [ξ3] at this; omega
theorem sN {p : UInt8 → Bool} {l : Bytes} (h : p (atB l 0) = true) (h0 : p 0 = false) : 0 < aT p l := by
 cases l with
 | nil => simp [atB, h0] at h
 | cons c l => simp only [atB, List.getD_cons_zero] at h; simp [aT, h]
theorem jN : ∀ (f : Nat) (path : List Bytes) (m : Nat) (l : Bytes) {k : Nat} {t : Bytes} {pa : List Bytes} {n : Nat}, fR f path m l = .ok (k, t, pa, n) → m + aT bJ l ≤ n ∧ n ≤ m + l.length
 | 0, _, _, _, _, _, _, _, h => by simp [fR] at h
 | f + 1, path, m, l, k, t, pa, n, h => by
  have hl := gF bJ l;simp only [fR] at h;split at h
  · split at h
    · simp only [ξm, ξP] at h; omega
    · cases h
  · split at h
    · rename_i h46;have hlt := nZ (by simpa using h46) (by decide);split at h
      · have := jN f _ _ _ h;rw [ξ3] at this; omega
      · split at h
        · cases h
        · simp only [ξm, ξP] at h;have := mH dV l (aT bJ l + 1) (by omega);omega
    · simp only [ξm, ξP] at h; omega
theorem Cz (l : Bytes) (h : aM (atB l 0) = true ∨ atB l 0 = 126 ∧ aM (atB l 1) = true) : 1 ≤ (bT l).1 ∧ (bT l).1 ≤ l.length := by
 have hne : 0 < l.length := by
  rcases h with h | h
  · refine ξk fun hk => ?_;have : l = [] := ξq (by omega);subst this; revert h; decide
  · have := nZ h.1 (by decide); omega
 obtain ⟨f, hf⟩ : ∃ f, (if atB l 0 == 126 then 1 else 0 : Nat) = f := ⟨_, rfl⟩;have hfl : f ≤ 1 := by rw [← hf]; split <;> omega
 have hd : 1 ≤ f + aT aM (l.drop f) := by
  rcases h with h | h
  · by_cases h1 : (atB l 0 == 126) = true
    · rw [← hf, ψi h1]; omega
    · rw [← hf, ψh h1];have := sN (p := aM) (l := l) h (by decide);simp; omega
  · rw [← hf, ψi (by rw [h.1]; rfl)]; omega
 have e0 := mH aM l f (by omega);have step : ∀ x, x ≤ l.length → (0 < aT aM (l.drop (x + 1))) → x + 1 ≤ l.length := fun x hx hc => by
  refine ξk fun hk => ?_;rw [List.drop_of_length_le (by omega)] at hc; simp [aT] at hc
 have stepG : ∀ (p : UInt8 → Bool) x, 0 < aT p (l.drop x) → x ≤ l.length := fun p x hc => by
  refine ξk fun hk => ?_;rw [List.drop_of_length_le (by omega)] at hc; simp [aT] at hc
 unfold bT;simp only [hf];split
 · rename_i hx;have hx2 : 0 < aT tK (l.drop (f + 2)) := by
    simp only [ξg, ψc] at hx; exact hx.2
   have := mH tK l (f + 2) (stepG _ _ hx2);exact ⟨by simp only []; omega, this⟩
 · have hp : ∀ p : Nat × Nat, p = (if atB l (f + aT aM (l.drop f)) == 46 && decide (0 < aT aM (l.drop (f + aT aM (l.drop f) + 1))) then (f + aT aM (l.drop f) + 1 + aT aM (l.drop (f + aT aM (l.drop f) + 1)), 5) else (f + aT aM (l.drop f), 4)) → 1 ≤ p.1 ∧ p.1 ≤ l.length := by
    rintro p rfl;split
    · rename_i hx;simp only [ξg, ψc] at hx;have := mH aM l _ (stepG _ _ hx.2);exact ⟨by simp only []; omega, this⟩
    · exact ⟨hd, e0⟩
   generalize (if atB l (f + aT aM (l.drop f)) == 46 && decide (0 < aT aM (l.drop (f + aT aM (l.drop f) + 1))) then (f + aT aM (l.drop f) + 1 + aT aM (l.drop (f + aT aM (l.drop f) + 1)), 5) else (f + aT aM (l.drop f), 4) : Nat × Nat) = p at *;obtain ⟨h1, h2⟩ := hp p rfl;clear hp;generalize hm : p.1 + 1 + (if atB l (p.1 + 1) == 126 then 1 else 0 : Nat) = m;have hm1 : 1 ≤ m := by omega
   split
   · rename_i hx;simp only [ξg, ψc] at hx;have := mH aM l _ (stepG _ _ hx.2);exact ⟨by omega, this⟩
   · exact ⟨h1, h2⟩
theorem sG (l : Bytes) (h : (iF l).2 ≠ 0) : (iF l).2 ≤ l.length := by
 have hl := gF cg l;have hb : ∀ (b n : Nat) (l : Bytes), 0 ≤ cB b n l → n ≤ l.length := fun b n l hh => by
  refine ξk fun hk => ?_;unfold cB at hh; rw [ψi (by omega)] at hh; omega
 revert h;cases l with
 | nil => simp [iF]
 | cons c l =>
  unfold iF;rw [ψh (by simp)];simp only [];split
  · simp
  split
  · simp
  split
  · split
    · rename_i h;intro _;have := nZ (l := c :: l) (k := 1) rfl (by
       intro e; rw [e] at h; revert h; decide)
      simp only [ξ2] at this ⊢; omega
    · simp
  split
  · split
    · rename_i h;have := hb _ _ _ h;intro _;simp only [List.drop_succ_cons, List.drop_zero] at this;simp only [ξ2]; omega
    · simp
  split
  · split
    · rename_i h;have := hb _ _ _ h;intro _; exact this
    · simp
  · split
    · rename_i h;simp only [ξg, ξZ] at h;have := nZ h.2 (by decide);intro _; exact this
    · simp
theorem cV : ∀ (f : Nat) (l acc : Bytes) (m : Nat) {t : Bytes} {n : Nat}, bS f l acc m = some (t, n) → m < n ∧ n ≤ m + l.length ∧ t.length ≤ acc.length + l.length
 | 0, _, _, _, _, _, h => by simp [bS] at h
 | _ + 1, [], _, _, _, _, h => by simp [bS] at h
 | f + 1, c :: l, acc, m, t, n, h => by
  simp only [bS] at h;simp only [ξ2];split at h
  · simp only [ξO, ξP] at h;obtain ⟨rfl, rfl⟩ := h; omega
  · split at h
    · cases h
    · split at h
      · have := cV f _ _ _ h;simp only [ξ1, ξ2, ξ5] at this; omega
      · split at h
        · cases h
        · rename_i hx;have h1 := cV f _ _ _ h;have h2 := sG l hx;rw [ξ3] at h1;have : (if 0 ≤ (iF l).1 then acc ++ [(iF l).1.toNat.toUInt8] else acc).length ≤ acc.length + 1 := by split <;> simp
          omega
theorem DU {l : Bytes} {k : Nat} {t : Bytes} {pa : List Bytes} {n : Nat} (h : lg l = .ok (k, t, pa, n)) : 1 ≤ n ∧ n ≤ l.length := by
 unfold lg at h;split at h
 · cases h
 · rename_i s m hq;split at h
   · cases h
   · simp only [ξm, ξP] at h;have h1 := cV _ _ _ _ hq;rw [ξ3] at h1;omega
theorem FA {l : Bytes} {k : Nat} {t : Bytes} {pa : List Bytes} {n : Nat} (h : jw l = .ok (k, t, pa, n)) : 1 ≤ n ∧ n ≤ l.length := by
 unfold jw at h;split at h
 · cases h
 · rename_i s m hq;split at h
   · simp only [ξm, ξP] at h;have h1 := cV _ _ _ _ hq;rw [ξ3] at h1;omega
   · cases h
theorem rL {l : Bytes} {k : Nat} {t : Bytes} {pa : List Bytes} {n : Nat} (h : cF l = .ok (k, t, pa, n)) (hd : aM (atB l 0) = true ∨ atB l 0 = 126 ∧ aM (atB l 1) = true) : 1 ≤ n ∧ n ≤ l.length := by
 have := Cz l hd;unfold cF at h;simp only [] at h;split at h
 · cases h
 · split at h
   · cases h
   · simp only [ξm, ξP] at h; omega
theorem gh {l : Bytes} {k : Nat} {t : Bytes} {pa : List Bytes} {n : Nat} (hne : l ≠ []) (h : gL l = .ok (k, t, pa, n)) : 1 ≤ n ∧ n ≤ l.length := by
 have hl : 0 < l.length := ξ6.2 hne;unfold gL at h;simp only [] at h;split at h
 · rename_i hlet;have h1 := jN _ _ _ _ h;have h2 := sN (p := bJ) (l := l) (by unfold bJ Dx; unfold eU at hlet; rw [hlet]; rfl) (by decide);omega
 split at h
 · rename_i hd; exact rL h (.inl hd)
 split at h
 · rename_i hs;unfold q8 at h;split at h
   · rename_i hh;simp only [ξg, ξZ] at hh;exact rL h (.inr hh)
   split at h
   · exact FA h
   · simp only [ξm, ξP] at h;have h1 := gF dV l;have h2 : 0 < aT dV l := sN (by
      simp only [ξj, ξZ] at hs;rcases hs with hs | hs
      · rw [hs]; decide
      · exact hs) (by decide)
     omega
 split at h
 · exact DU h
 split at h
 · unfold nE at h;simp only [ξm, ξP] at h;have := mH bJ l 1 (by omega);omega
 · unfold jU at h;have hm : ∀ m : Nat, (if [46, 46, 46].isPrefixOf l then 3 else 1) = m → 1 ≤ m ∧ m ≤ l.length := by
    rintro m rfl;split
    · rename_i hp;have := (List.isPrefixOf_iff_prefix.1 hp).length_le;simp at this; omega
    · omega
   generalize (if [46, 46, 46].isPrefixOf l then 3 else 1 : Nat) = m at *;have := hm m rfl;replace h : (if j6 (List.take m l) = true then Except.ok (1, List.take m l, [], m) else Except.error 40 : Rd) = Except.ok (k, t, pa, n) := h;split at h
   · simp only [ξm, ξP] at h;obtain ⟨_, _, _, rfl⟩ := h;exact this
   · cases h
theorem gD : ∀ (f d m : Nat) (l : Bytes) {n : Nat}, fK f d m l = some n → m + 2 ≤ n ∧ n ≤ m + l.length
 | 0, _, _, _, _, h => by simp [fK] at h
 | _ + 1, _, _, [], _, h => by simp [fK] at h
 | f + 1, d, m, c :: l, n, h => by
  simp only [fK] at h;simp only [ξ2];have two : ∀ {x y : UInt8}, [x, y].isPrefixOf (c :: l) = true → 1 ≤ l.length := fun hp => by
   have := (List.isPrefixOf_iff_prefix.1 hp).length_le;simp at this; omega
  split at h
  · rename_i hp;have := gD f _ _ _ h;rw [ξ3] at this;have := two hp;omega
  · split at h
    · rename_i hp;have := two hp;split at h
      · simp only [ξO] at h; omega
      · have := gD f _ _ _ h;rw [ξ3] at this;omega
    · have := gD f _ _ _ h;omega
theorem ug {rd : Bytes → Rd} {cm : Bytes → Option Nat} (hr : ∀ l k t pa n, l ≠ [] → rd l = .ok (k, t, pa, n) → 1 ≤ n) (hc : ∀ l n, cm l = some n → 1 ≤ n) :
 ∀ (f g : Nat) (l : Bytes) (p : Nat × Nat) (acc : List Tok), l.length < f → l.length < g → iL rd cm f l p acc = iL rd cm g l p acc
 | 0, _, _, _, _, h, _ => by omega
 | _, 0, _, _, _, _, h => by omega
 | f + 1, g + 1, [], _, _, _, _ => rfl
 | f + 1, g + 1, c :: l, p, acc, hf, hg => by
  have ih := fun l p acc h1 h2 => ug hr hc f g l p acc h1 h2;simp only [ξ2] at hf hg;simp only [iL];split
  · exact ih _ _ _ (by omega) (by omega)
  split
  · split
    · rfl
    · rename_i n hn;have := hc _ _ hn;exact ih _ _ _ (by rw [ξ3, ξ2]; omega) (by rw [ξ3, ξ2]; omega)
  · split
    · rfl
    · rename_i k t pa n hn;have := hr _ _ _ _ _ (by simp) hn;exact ih _ _ _ (by rw [ξ3, ξ2]; omega) (by rw [ξ3, ξ2]; omega)
def gK (l : Bytes) (p : Nat × Nat) (acc : List Tok) : dS := iL gL (fun l => fK (l.length + 1) 0 0 l) (l.length + 1) l p acc
theorem uh (f : Nat) (l : Bytes) (p : Nat × Nat) (acc : List Tok) (h : l.length < f) : iL gL (fun l => fK (l.length + 1) 0 0 l) f l p acc = gK l p acc :=
 ug (fun _ _ _ _ _ hne h => (gh hne h).1) (fun _ _ h => by have := gD _ _ _ _ h; omega) _ _ _ _ _ h (by omega)
theorem dW {c : UInt8} {l : Bytes} {p : Nat × Nat} {acc : List Tok} (h : cg c = true) : gK (c :: l) p acc = gK l (FY p c) acc := by
 unfold gK; rw [iL, ψi h]; rfl
theorem jS {c : UInt8} {l : Bytes} {p : Nat × Nat} {acc : List Tok} (h : cg c = false) (h2 : [40, 42].isPrefixOf (c :: l) = true) :
 gK (c :: l) p acc = match fK ((c :: l).length + 1) 0 0 (c :: l) with
  | none => .error (41, p.1, p.2)
  | some n => gK ((c :: l).drop n) (adv p ((c :: l).take n)) acc := by
 conv => lhs; unfold gK; rw [iL]
 rw [ψh (by simp [h]), ψi h2];cases hn : fK ((c :: l).length + 1) 0 0 (c :: l) with
 | none => rfl
 | some n =>
  have := gD _ _ _ _ hn;exact uh (c :: l).length ((c :: l).drop n) _ _ (by rw [ξ3]; omega)
theorem jd {c : UInt8} {l : Bytes} {p : Nat × Nat} {acc : List Tok} (h : cg c = false) (h2 : [40, 42].isPrefixOf (c :: l) = false) :
 gK (c :: l) p acc = match gL (c :: l) with
  | .error e => .error (e, p.1, p.2)
  | .ok (k, t, pa, n) => gK ((c :: l).drop n) (adv p ((c :: l).take n)) (acc ++ [⟨k, t, pa, p.1, p.2⟩]) := by
 conv => lhs; unfold gK; rw [iL]
 rw [ψh (by simp [h]), ψh (by simp [h2])];cases hn : gL (c :: l) with
 | error e => rfl
 | ok x =>
  obtain ⟨k, t, pa, n⟩ := x;have := gh (by simp) hn;exact uh (c :: l).length ((c :: l).drop n) _ _ (by rw [ξ3]; omega)
end Kiln
