/- The scanner's number: what the call returns. -/
import Derived.Test.YtbchkldhnjahaaaGreatDoorLexB2
import Derived.Deep.DeepCutAuto
namespace Go.Proofs.YtbchkldhnjahaaaGreatDoor
open Go.RowKit Kiln
open Go.Proofs

/- numEnd, in parts -/
def nF (l : Bytes) : Nat := if atB l 0 == 126 then 1 else 0
def nE0 (l : Bytes) : Nat := nF l + cntB digitB (l.drop (nF l))
def nHex (l : Bytes) : Bool := [48, 120].isPrefixOf (l.drop (nF l)) && decide (0 < cntB hexB (l.drop (nF l + 2)))
def nReal (l : Bytes) : Bool := atB l (nE0 l) == 46 && decide (0 < cntB digitB (l.drop (nE0 l + 1)))
def nP (l : Bytes) : Nat × Nat := if nReal l then (nE0 l + 1 + cntB digitB (l.drop (nE0 l + 1)), 5) else (nE0 l, 4)
def nM (l : Bytes) : Nat := (nP l).1 + 1 + (if atB l ((nP l).1 + 1) == 126 then 1 else 0)
def nExp (l : Bytes) : Bool := (atB l (nP l).1 == 69 || atB l (nP l).1 == 101) && decide (0 < cntB digitB (l.drop (nM l)))
theorem numEnd_eq (l : Bytes) : numEnd l = if nHex l then (nF l + 2 + cntB hexB (l.drop (nF l + 2)), 4) else if nExp l then (nM l + cntB digitB (l.drop (nM l)), 5) else nP l := rfl

/-- run with digits, hexadecimal digits, at a place -/
theorem runD (s : ByteArray) (b k : Nat) (w : World) (hs : w.cell? ⟨b, 0, none⟩ = some (.string s)) (hz : s.size ≤ 1048576) :
    Calls Tryz.prog 74 #[.pointer (some ⟨b, 0, none⟩), .int .i64 k, .func (.func 42) #[] #[]] w fun e w' => e = .returned (.int .i64 (k + cntB digitB (s.data.toList.drop k) : Nat)) ∧ w = w' :=
  run_any 42 digitB enters_digit (fun c w => digit_any _ w) s b k w hs (by unfold maxLen; omega)
theorem runH (s : ByteArray) (b k : Nat) (w : World) (hs : w.cell? ⟨b, 0, none⟩ = some (.string s)) (hz : s.size ≤ 1048576) :
    Calls Tryz.prog 74 #[.pointer (some ⟨b, 0, none⟩), .int .i64 k, .func (.func 77) #[] #[]] w fun e w' => e = .returned (.int .i64 (k + cntB hexB (s.data.toList.drop k) : Nat)) ∧ w = w' :=
  run_any 77 hexB enters_hex (fun c w => hex_any _ w) s b k w hs (by unfold maxLen; omega)

/-- the result's block, before anything is stored -/
def noTokObj : Obj := .cells #[.int .i64 0, .string ⟨#[]⟩, .slice none 0 0, .int .i64 0, .int .i64 0] 32

set_option maxRecDepth 100000 in
set_option maxHeartbeats 4000000 in
theorem number_any (s : ByteArray) (b i : Nat) (w : World) (hs : w.cell? ⟨b, 0, none⟩ = some (.string s)) (ha : w.cell? ⟨b, 1, none⟩ = some (.int .i64 i)) (hz : s.size ≤ 1048576) (hi : i < s.size) :
    Calls Tryz.prog 43 #[.pointer (some ⟨b, 0, none⟩)] w (RdPost (numberP (s.data.toList.drop i)) i w) := by
  have hs1 := cell_al hs
  have ha1 := cell_al ha
  have hdr : ∀ k, (s.data.toList.drop i).drop k = s.data.toList.drop (i + k) := fun k => List.drop_drop
  have hlen : ∀ (p : UInt8 → Bool) k, k ≤ s.size → k + cntB p (s.data.toList.drop k) ≤ s.size := fun p k hk => by
    have := cntB_le p (s.data.toList.drop k)
    rw [List.length_drop, ← Lib.size_eq] at this; omega
  have HDR := Lib.hid hdr; clear hdr
  have HLN := Lib.hid hlen; clear hlen
  obtain ⟨f, hf⟩ : ∃ f, nF (s.data.toList.drop i) = f := ⟨_, rfl⟩
  have hf1 : f ≤ 1 := by rw [← hf]; unfold nF; split <;> omega
  have HF := Lib.hid hf; clear hf
  obtain ⟨x, hx⟩ : ∃ x : UInt8, s[i]'hi = x := ⟨_, rfl⟩
  have HX0 : RowKit.Hid (f = if x.toNat = 126 then 1 else 0) := by
    show _ = _
    rw [← HF.out]
    unfold nF
    rw [atB_drop s i 0 (by omega)]
    simp only [Nat.add_zero, hx]
    by_cases h : x.toNat = 126
    · rw [if_pos h, u8_of h]; rfl
    · rw [if_neg h, show (x == 126) = false from by rw [beq_eq_false_iff_ne]; rintro rfl; exact h rfl]; rfl
  go_enter Tryz.func43, Tryz.ntmps43
  go_upto_if 19 with fail
  go_cut [5] (fun v wx => v = .int .i64 (i + f : Nat) ∧ wx = w.alloc noTokObj)
  case first => as_aux_lemma =>
    by_cases h126 : x.toNat = 126
    · have h1 := HX0.out
      rw [if_pos h126] at h1
      have H1 := Lib.hid h1; clear h1
      go_wp2_with fail
      go_meet
      exact ⟨val_int (by have := H1.out; omega), rfl⟩
    · have h1 := HX0.out
      rw [if_neg h126] at h1
      have H1 := Lib.hid h1; clear h1
      have hb : ((x.toNat : Int) == 126) = false := by rw [beq_eq_false_iff_ne]; omega
      go_wp2_with fail
      go_meet
      exact ⟨val_int (by have := H1.out; omega), rfl⟩
  case rest => as_aux_lemma =>
    obtain ⟨rfl, rfl⟩ := hcut
    go_wp2_with fail
    refine (runD s b (i + f) _ (hs1 _) hz).mono ?_
    rintro e w' ⟨rfl, rfl⟩
    have he0 := HLN.out digitB (i + f) (by omega)
    obtain ⟨e0, hE0⟩ : ∃ e0, nE0 (s.data.toList.drop i) = e0 := ⟨_, rfl⟩
    have hE0' : f + cntB digitB (s.data.toList.drop (i + f)) = e0 := by rw [← hE0]; unfold nE0; rw [HF.out, HDR.out]
    have hk0 : i + f + cntB digitB (s.data.toList.drop (i + f)) = i + e0 := by omega
    rw [hk0]
    rw [hk0] at he0
    have HE0 := Lib.hid hE0; clear hE0 hE0' hk0
    go_upto_region 6 with fail
    go_cut [36] (fun v wx => v = .bool (nHex (s.data.toList.drop i)) ∧ wx = w.alloc noTokObj)
    case first => as_aux_lemma =>
      go_wp2_with fail
      refine (starts_any s ⟨#[48, 120]⟩ b (i + f) _ (hs1 _) (by unfold maxLen; omega) (by omega)).mono ?_
      rintro e w' ⟨rfl, rfl⟩
      have hh : nHex (s.data.toList.drop i) = ([48, 120].isPrefixOf (s.data.toList.drop (i + f)) && decide (0 < cntB hexB (s.data.toList.drop (i + f + 2)))) := by
        unfold nHex; rw [HF.out, HDR.out, HDR.out]; rfl
      have HH := Lib.hid hh; clear hh
      have hpl : [48, 120].isPrefixOf (s.data.toList.drop (i + f)) = true → i + f + 2 ≤ s.size := by
        intro hp
        have := (List.isPrefixOf_iff_prefix.1 hp).length_le
        rw [List.length_drop, ← Lib.size_eq] at this
        simp at this; omega
      cases hP : [48, 120].isPrefixOf (s.data.toList.drop (i + f))
      · rw [hP] at HH
        clear hP hpl
        go_wp2_with fail
        go_meet
        exact ⟨by rw [HH.out]; rfl, rfl⟩
      · rw [hP] at HH
        have hp2 := hpl hP
        clear hP hpl
        go_wp2_with fail
        refine (runH s b (i + f + 2) _ (hs1 _) hz).mono ?_
        rintro e w' ⟨rfl, rfl⟩
        have hr := HLN.out hexB (i + f + 2) hp2
        go_wp2_with fail
        all_goals
          go_meet
          exact ⟨by rw [HH.out, Bool.true_and]; first | rfl | (refine congrArg Value.bool (decide_eq_decide.2 ?_); omega), rfl⟩
    case rest => as_aux_lemma =>
      obtain ⟨rfl, rfl⟩ := hcut
      go_upto_if 36 with fail
      go_cut [6, 7] (fun k v wx => k = .int .i64 ((numEnd (s.data.toList.drop i)).2 : Nat) ∧ v = .int .i64 (i + (numEnd (s.data.toList.drop i)).1 : Nat) ∧ wx = w.alloc noTokObj ∧ i + (numEnd (s.data.toList.drop i)).1 ≤ s.size)
      case first => as_aux_lemma =>
        cases hH : nHex (s.data.toList.drop i)
        · have hne : numEnd (s.data.toList.drop i) = if nExp (s.data.toList.drop i) then (nM (s.data.toList.drop i) + cntB digitB ((s.data.toList.drop i).drop (nM (s.data.toList.drop i))), 5) else nP (s.data.toList.drop i) := by rw [numEnd_eq, hH]; rfl
          have HNE := Lib.hid hne; clear hne hH
          go_upto_region 8 with fail
          go_cut [65] (fun v wx => v = .bool (nReal (s.data.toList.drop i)) ∧ wx = w.alloc noTokObj)
          case first => as_aux_lemma =>
            have hr0 : nReal (s.data.toList.drop i) = (atB (s.data.toList.drop i) e0 == 46 && decide (0 < cntB digitB (s.data.toList.drop (i + e0 + 1)))) := by
              unfold nReal; rw [HE0.out, HDR.out]; rfl
            have HR0 := Lib.hid hr0; clear hr0
            by_cases hlt : i + e0 < s.size
            · obtain ⟨y, hy⟩ : ∃ y : UInt8, s[i + e0]'hlt = y := ⟨_, rfl⟩
              have hat := atB_drop s i e0 hlt
              rw [hy] at hat
              rw [hat] at HR0
              clear hat
              by_cases h46 : y.toNat = 46
              · rw [show (y == 46) = true from by rw [u8_of h46]; rfl, Bool.true_and] at HR0
                go_wp2_with fail
                refine (runD s b (i + e0 + 1) _ (hs1 _) hz).mono ?_
                rintro e w' ⟨rfl, rfl⟩
                have hr := HLN.out digitB (i + e0 + 1) (by omega)
                go_wp2_with fail
                all_goals
                  go_meet
                  exact ⟨by rw [HR0.out]; first | rfl | (refine congrArg Value.bool (decide_eq_decide.2 ?_); omega), rfl⟩
              · rw [show (y == 46) = false from by rw [beq_eq_false_iff_ne]; rintro rfl; exact h46 rfl, Bool.false_and] at HR0
                have hb : ((y.toNat : Int) == 46) = false := by rw [beq_eq_false_iff_ne]; omega
                go_wp2_with fail
                go_meet
                exact ⟨by rw [HR0.out], rfl⟩
            · rw [atB_none s i e0 hlt, show ((0 : UInt8) == 46) = false from rfl, Bool.false_and] at HR0
              go_wp2_with fail
              go_meet
              exact ⟨by rw [HR0.out], rfl⟩
          case rest => as_aux_lemma =>
            obtain ⟨rfl, rfl⟩ := hcut
            go_upto_if 65 with fail
            go_cut [6, 7] (fun k v wx => k = .int .i64 ((nP (s.data.toList.drop i)).2 : Nat) ∧ v = .int .i64 (i + (nP (s.data.toList.drop i)).1 : Nat) ∧ wx = w.alloc noTokObj ∧ i + (nP (s.data.toList.drop i)).1 ≤ s.size)
            case first => as_aux_lemma =>
              cases hR : nReal (s.data.toList.drop i)
              · have HP := Lib.hid (show nP (s.data.toList.drop i) = (e0, 4) by unfold nP; rw [hR, HE0.out]; rfl)
                go_wp2_with fail
                go_meet
                exact ⟨by rw [HP.out]; rfl, val_int (by rw [HP.out]; try (simp only []; omega)), rfl, by rw [HP.out]; exact he0⟩
              · have HP := Lib.hid (show nP (s.data.toList.drop i) = (e0 + 1 + cntB digitB (s.data.toList.drop (i + e0 + 1)), 5) by unfold nP; rw [hR, HE0.out, HDR.out]; rfl)
                have hlt : i + e0 < s.size := by
                  refine Classical.byContradiction fun h => ?_
                  have h2 := atB_none s i e0 h
                  unfold nReal at hR
                  rw [HE0.out, h2, show ((0 : UInt8) == 46) = false from rfl, Bool.false_and] at hR
                  cases hR
                clear hR
                go_wp2_with fail
                refine (runD s b (i + e0 + 1) _ (hs1 _) hz).mono ?_
                rintro e w' ⟨rfl, rfl⟩
                have hr := HLN.out digitB (i + e0 + 1) (by omega)
                go_wp2_with fail
                go_meet
                exact ⟨by rw [HP.out]; rfl, val_int (by rw [HP.out]; try (simp only []; omega)), rfl, by rw [HP.out]; try (simp only []; omega)⟩
            case rest => as_aux_lemma =>
              obtain ⟨rfl, rfl, rfl, hp1⟩ := hcut
              obtain ⟨p, hp⟩ : ∃ p, nP (s.data.toList.drop i) = p := ⟨_, rfl⟩
              rw [hp] at hp1 HNE
              rw [hp]
              have HP := Lib.hid hp; clear hp he0 HE0
              obtain ⟨p1, p2⟩ := p
              simp only [] at hp1
              simp only []
              have hm : nM (s.data.toList.drop i) = p1 + 1 + (if atB (s.data.toList.drop i) (p1 + 1) == 126 then 1 else 0) := by unfold nM; rw [HP.out]
              have HM := Lib.hid hm; clear hm
              have hex : nExp (s.data.toList.drop i) = ((atB (s.data.toList.drop i) p1 == 69 || atB (s.data.toList.drop i) p1 == 101) && decide (0 < cntB digitB (s.data.toList.drop (i + nM (s.data.toList.drop i))))) := by
                unfold nExp; rw [HP.out, HDR.out]
              have HEX := Lib.hid hex; clear hex
              obtain ⟨EB, hEB⟩ : ∃ EB, (atB (s.data.toList.drop i) p1 == 69 || atB (s.data.toList.drop i) p1 == 101) = EB := ⟨_, rfl⟩
              rw [hEB] at HEX
              have HEB := Lib.hid hEB; clear hEB
              go_upto_region 10 with fail
              go_cut [94] (fun v wx => v = .bool EB ∧ wx = w.alloc noTokObj)
              case first => as_aux_lemma =>
                by_cases hlt : i + p1 < s.size
                · obtain ⟨y, hy⟩ : ∃ y : UInt8, s[i + p1]'hlt = y := ⟨_, rfl⟩
                  have hat := atB_drop s i p1 hlt
                  rw [hy] at hat
                  rw [hat] at HEB
                  clear hat
                  by_cases h69 : y.toNat = 69
                  · rw [show (y == 69) = true from by rw [u8_of h69]; rfl, Bool.true_or] at HEB
                    go_wp2_with fail
                    go_meet
                    exact ⟨by rw [← HEB.out], rfl⟩
                  · rw [show (y == 69) = false from by rw [beq_eq_false_iff_ne]; rintro rfl; exact h69 rfl, Bool.false_or] at HEB
                    have hb : ((y.toNat : Int) == 69) = false := by rw [beq_eq_false_iff_ne]; omega
                    by_cases h101 : y.toNat = 101
                    · rw [show (y == 101) = true from by rw [u8_of h101]; rfl] at HEB
                      go_wp2_with fail
                      go_meet
                      exact ⟨by rw [← HEB.out], rfl⟩
                    · rw [show (y == 101) = false from by rw [beq_eq_false_iff_ne]; rintro rfl; exact h101 rfl] at HEB
                      have hb2 : ((y.toNat : Int) == 101) = false := by rw [beq_eq_false_iff_ne]; omega
                      go_wp2_with fail
                      go_meet
                      exact ⟨by rw [← HEB.out], rfl⟩
                · rw [atB_none s i p1 hlt, show ((0 : UInt8) == 69 || (0 : UInt8) == 101) = false from rfl] at HEB
                  go_wp2_with fail
                  go_meet
                  exact ⟨by rw [← HEB.out], rfl⟩
              case rest => as_aux_lemma =>
                obtain ⟨rfl, rfl⟩ := hcut
                cases EB
                · rw [Bool.false_and] at HEX
                  have HN2 := Lib.hid (show numEnd (s.data.toList.drop i) = (p1, p2) by rw [HNE.out, HEX.out]; rfl)
                  clear HNE HEX
                  go_wp2_with fail
                  go_meet
                  exact ⟨by rw [HN2.out], val_int (by rw [HN2.out]; try (simp only []; omega)), rfl, by rw [HN2.out]; exact hp1⟩
                · rw [Bool.true_and] at HEX
                  have hlt : i + p1 < s.size := by
                    refine Classical.byContradiction fun h => ?_
                    have h2 := HEB.out
                    rw [atB_none s i p1 h] at h2
                    cases h2
                  clear HEB
                  go_upto_region 12 with fail
                  go_cut [112] (fun v wx => v = .bool (atB (s.data.toList.drop i) (p1 + 1) == 126) ∧ wx = w.alloc noTokObj)
                  case first => as_aux_lemma =>
                    by_cases hl2 : i + (p1 + 1) < s.size
                    · obtain ⟨z, hz2⟩ : ∃ z : UInt8, s[i + (p1 + 1)]'hl2 = z := ⟨_, rfl⟩
                      have hz3 : s[i + p1 + 1]'(by omega) = z := hz2
                      have hat := atB_drop s i (p1 + 1) hl2
                      rw [hz2] at hat
                      have HAT := Lib.hid hat; clear hat hz2
                      by_cases h126 : z.toNat = 126
                      · go_wp2_with fail
                        go_meet
                        exact ⟨by rw [HAT.out, u8_of h126]; rfl, rfl⟩
                      · have hb : ((z.toNat : Int) == 126) = false := by rw [beq_eq_false_iff_ne]; omega
                        go_wp2_with fail
                        go_meet
                        exact ⟨by rw [HAT.out, show (z == 126) = false from by rw [beq_eq_false_iff_ne]; rintro rfl; exact h126 rfl], rfl⟩
                    · have HAT := Lib.hid (atB_none s i (p1 + 1) hl2)
                      go_wp2_with fail
                      go_meet
                      exact ⟨by rw [HAT.out]; try rfl, rfl⟩
                  case rest => as_aux_lemma =>
                    obtain ⟨rfl, rfl⟩ := hcut
                    go_upto_if 112 with fail
                    go_cut [8] (fun v wx => v = .int .i64 (i + nM (s.data.toList.drop i) : Nat) ∧ wx = w.alloc noTokObj ∧ i + nM (s.data.toList.drop i) ≤ s.size)
                    case first => as_aux_lemma =>
                      cases hT : atB (s.data.toList.drop i) (p1 + 1) == 126
                      · rw [hT] at HM
                        clear hT
                        go_wp2_with fail
                        go_meet
                        exact ⟨val_int (by have := HM.out; simp at this; omega), rfl, by have := HM.out; simp at this; omega⟩
                      · have hl2 : i + (p1 + 1) < s.size := by
                          refine Classical.byContradiction fun h => ?_
                          rw [atB_none s i (p1 + 1) h] at hT
                          cases hT
                        rw [hT] at HM
                        clear hT
                        go_wp2_with fail
                        go_meet
                        exact ⟨val_int (by have := HM.out; simp at this; omega), rfl, by have := HM.out; simp at this; omega⟩
                    case rest => as_aux_lemma =>
                      obtain ⟨rfl, rfl, hm1⟩ := hcut
                      clear HM
                      generalize nM (s.data.toList.drop i) = M at *
                      go_wp2_with fail
                      refine (runD s b (i + M) _ (hs1 _) hz).mono ?_
                      rintro e w' ⟨rfl, rfl⟩
                      have hr := HLN.out digitB (i + M) hm1
                      by_cases hc : 0 < cntB digitB (s.data.toList.drop (i + M))
                      · rw [decide_eq_true hc] at HEX
                        have HN2 := Lib.hid (show numEnd (s.data.toList.drop i) = (M + cntB digitB (s.data.toList.drop (i + M)), 5) by rw [HNE.out, HEX.out, HDR.out]; rfl)
                        clear HNE HEX
                        go_wp2_with fail
                        refine (runD s b (i + M) _ (hs1 _) hz).mono ?_
                        rintro e w' ⟨rfl, rfl⟩
                        go_wp2_with fail
                        go_meet
                        exact ⟨by rw [HN2.out]; rfl, val_int (by rw [HN2.out]; try (simp only []; omega)), rfl, by rw [HN2.out]; try (simp only []; omega)⟩
                      · rw [decide_eq_false hc] at HEX
                        have HN2 := Lib.hid (show numEnd (s.data.toList.drop i) = (p1, p2) by rw [HNE.out, HEX.out]; rfl)
                        clear HNE HEX
                        go_wp2_with fail
                        go_meet
                        exact ⟨by rw [HN2.out], val_int (by rw [HN2.out]; try (simp only []; omega)), rfl, by rw [HN2.out]; exact hp1⟩
        · have HN2 := Lib.hid (show numEnd (s.data.toList.drop i) = (f + 2 + cntB hexB (s.data.toList.drop (i + (f + 2))), 4) by rw [numEnd_eq, hH, HF.out, HDR.out]; rfl)
          have hp2 : i + f + 2 ≤ s.size := by
            unfold nHex at hH
            rw [HF.out, HDR.out, Bool.and_eq_true] at hH
            have := (List.isPrefixOf_iff_prefix.1 hH.1).length_le
            rw [List.length_drop, ← Lib.size_eq] at this
            simp at this; omega
          clear hH
          have hr := HLN.out hexB (i + (f + 2)) (by omega)
          go_wp2_with fail
          refine (runH s b (i + (f + 2)) _ (hs1 _) hz).mono ?_
          rintro e w' ⟨rfl, rfl⟩
          go_wp2_with fail
          go_meet
          exact ⟨by rw [HN2.out]; rfl, val_int (by rw [HN2.out]; try (simp only []; omega)), rfl, by rw [HN2.out]; try (simp only []; omega)⟩
      case rest => as_aux_lemma =>
        obtain ⟨rfl, rfl, rfl, hq1⟩ := hcut
        have hnp : numberP (s.data.toList.drop i) = if wordB (atB (s.data.toList.drop i) (numEnd (s.data.toList.drop i)).1) then .error 43 else if 4096 < (numEnd (s.data.toList.drop i)).1 then .error 2 else .ok ((numEnd (s.data.toList.drop i)).2, (s.data.toList.drop i).take (numEnd (s.data.toList.drop i)).1, [], (numEnd (s.data.toList.drop i)).1) := rfl
        generalize numEnd (s.data.toList.drop i) = q at *
        obtain ⟨q1, q2⟩ := q
        simp only [] at hnp hq1
        simp only []
        have HNP := Lib.hid hnp; clear hnp HE0 HF HX0 he0
        have hne := World.block_lt_of_cell? w _ hs
        have hne1 : ¬ w.heap.size = b := fun e => by simp only [] at hne; omega
        have hne2 : ¬ b = w.heap.size := fun e => by simp only [] at hne; omega
        clear hne
        unfold noTokObj
        by_cases hlt : i + q1 < s.size
        · obtain ⟨y, hy⟩ : ∃ y : UInt8, s[i + q1]'hlt = y := ⟨_, rfl⟩
          have hat := atB_drop s i q1 hlt
          rw [hy] at hat
          rw [hat] at HNP
          clear hat
          cases hw : wordI y.toNat
          · have HWF : RowKit.Hid (wordB y = false) := hw
            have hiw := fun W => (inWord_any y.toNat W)
            rw [hw] at hiw
            have HIW := Lib.hid hiw; clear hiw hw
            go_upto_region 18 with (go_at_call 75; refine (HIW.out _).mono ?_; rintro e w' ⟨rfl, rfl⟩)
            by_cases hbig : 4096 < q1
            · have HT := Lib.hid (show numberP (s.data.toList.drop i) = .error 2 by rw [HNP.out, HWF.out, if_neg (by simp), if_pos hbig])
              have hbb : decide ((4096 : Int) < (q1 : Int)) = true := by simp; omega
              go_wp2_with fail
              refine bodyPost_ret (by simp [results, Tryz.results43, go_sem]; exact rfl) rfl ?_
              exact rd_bad HT.out rfl ((Below.refl _ w).alloc (Nat.le_refl _) _)
            · have HT := Lib.hid (show numberP (s.data.toList.drop i) = .ok (q2, (s.data.toList.drop i).take q1, [], q1) by rw [HNP.out, HWF.out, if_neg (by simp), if_neg hbig])
              go_wp2_with fail
              go_region
              go_wp2
              refine bodyPost_ret (by simp [results, Tryz.results43, go_sem]; exact rfl) rfl ?_
              exact rd_ok HT.out rfl (ext_take _ _ _ _ (by omega)) (by omega) (((Below.refl _ w).alloc (Nat.le_refl _) _).drew)
          · have HWF : RowKit.Hid (wordB y = true) := hw
            have hiw := fun W => (inWord_any y.toNat W)
            rw [hw] at hiw
            have HIW := Lib.hid hiw; clear hiw hw
            have HT := Lib.hid (show numberP (s.data.toList.drop i) = .error 43 by rw [HNP.out, HWF.out, if_pos rfl])
            go_wp2_with (go_at_call 75; refine (HIW.out _).mono ?_; rintro e w' ⟨rfl, rfl⟩)
            refine bodyPost_ret (by simp [results, Tryz.results43, go_sem]; exact rfl) rfl ?_
            exact rd_bad HT.out rfl ((Below.refl _ w).alloc (Nat.le_refl _) _)
        · have HWF : RowKit.Hid (wordB (atB (s.data.toList.drop i) q1) = false) := by show _ = _; rw [atB_none s i q1 hlt]; rfl
          go_upto_region 18 with fail
          by_cases hbig : 4096 < q1
          · have HT := Lib.hid (show numberP (s.data.toList.drop i) = .error 2 by rw [HNP.out, HWF.out, if_neg (by simp), if_pos hbig])
            have hbb : decide ((4096 : Int) < (q1 : Int)) = true := by simp; omega
            go_wp2_with fail
            refine bodyPost_ret (by simp [results, Tryz.results43, go_sem]; exact rfl) rfl ?_
            exact rd_bad HT.out rfl ((Below.refl _ w).alloc (Nat.le_refl _) _)
          · have HT := Lib.hid (show numberP (s.data.toList.drop i) = .ok (q2, (s.data.toList.drop i).take q1, [], q1) by rw [HNP.out, HWF.out, if_neg (by simp), if_neg hbig])
            go_wp2_with fail
            go_region
            go_wp2
            refine bodyPost_ret (by simp [results, Tryz.results43, go_sem]; exact rfl) rfl ?_
            exact rd_ok HT.out rfl (ext_take _ _ _ _ (by omega)) (by omega) (((Below.refl _ w).alloc (Nat.le_refl _) _).drew)

end Go.Proofs.YtbchkldhnjahaaaGreatDoor
