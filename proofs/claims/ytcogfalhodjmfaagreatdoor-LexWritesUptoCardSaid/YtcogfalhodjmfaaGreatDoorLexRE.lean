/- The reference's escape: what the call returns. Conditions: those of the theorem. -/
import Derived.Test.YtcogfalhodjmfaaGreatDoorLexRD
import Derived.Test.YtcogfalhodjmfaaGreatDoorLexC
namespace Go.Proofs.YtcogfalhodjmfaaGreatDoor
open Go.RowKit Kiln
open Go.Proofs

theorem hex_dig (c : UInt8) : hexB c = decide (digVal c < 16) := by
  have h := c.toNat_lt
  unfold hexB hexI digVal
  by_cases h1 : digitB c = true
  · have h2 := h1
    unfold digitB digitI at h2
    simp at h2
    rw [if_pos h1]
    unfold digitI
    rw [Bool.eq_iff_iff]; simp; omega
  · have h2 := h1
    unfold digitB digitI at h2
    simp at h2
    rw [if_neg h1]
    by_cases h3 : 97 ≤ c.toNat ∧ c.toNat ≤ 122
    · rw [if_pos (by simp; omega)]
      unfold digitI
      rw [Bool.eq_iff_iff]; simp; omega
    · rw [if_neg (by simp; omega)]
      by_cases h4 : 65 ≤ c.toNat ∧ c.toNat ≤ 90
      · rw [if_pos (by simp; omega)]
        unfold digitI
        rw [Bool.eq_iff_iff]; simp; omega
      · rw [if_neg (by simp; omega)]
        unfold digitI
        rw [Bool.eq_iff_iff]; simp; omega
theorem dig_dig (c : UInt8) : digitB c = decide (digVal c < 10) := by
  have h := c.toNat_lt
  by_cases h1 : digitB c = true
  · have h2 := h1
    unfold digitB digitI at h2
    simp at h2
    rw [h1]; unfold digVal; rw [if_pos h1]; simp; omega
  · have h2 : digitB c = false := by simpa using h1
    rw [h2]; unfold digVal; rw [if_neg h1]
    split
    · rename_i h3; simp at h3; simp; omega
    · split
      · rename_i h3 h4; simp at h4; simp; omega
      · simp

theorem numVal_all {base : Nat} : ∀ {l : Bytes} {n : Nat}, (∀ c ∈ l, digVal c < base) → ∃ v, numVal base n l = some v
  | [], n, _ => ⟨n, rfl⟩
  | c :: l, n, h => by
    unfold numVal
    rw [if_pos (h c (by simp))]
    exact numVal_all fun x hx => h x (by simp [hx])

theorem num_bad {base : Nat} {l : Bytes} (h : ∃ c ∈ l, ¬ digVal c < base) : numVal base 0 l = none := by
  cases hn : numVal base 0 l with
  | none => rfl
  | some v =>
    obtain ⟨c, hc, hd⟩ := h
    exact absurd (numVal_dig hn c hc) hd
theorem based4 (a b c d : UInt8) (l : Bytes) : basedP 16 4 (a :: b :: c :: d :: l) = match numVal 16 0 [a, b, c, d] with | none => -1 | some v => if 255 < v then -1 else (v : Int) := by
  unfold basedP; rw [if_neg (by simp only [List.length_cons]; omega)]; rfl
theorem based3 (a b c : UInt8) (l : Bytes) : basedP 10 3 (a :: b :: c :: l) = match numVal 10 0 [a, b, c] with | none => -1 | some v => if 255 < v then -1 else (v : Int) := by
  unfold basedP; rw [if_neg (by simp only [List.length_cons]; omega)]; rfl

/-- what the reference says of an escape: by the program's -/
def rescOf (x : Int × Nat) : Int × Nat := if x.2 = 0 then (0, 0) else (x.1, x.2 + 1)

theorem esc_names {x : UInt8} (h : ∀ j, j < 7 → escL.getD j 0 ≠ x) : Lib.indexByte escL x = -1 := by
  have h0 := h 0 (by omega); have h1 := h 1 (by omega); have h2 := h 2 (by omega); have h3 := h 3 (by omega); have h4 := h 4 (by omega); have h5 := h 5 (by omega); have h6 := h 6 (by omega)
  simp only [escL, List.getD_cons_zero, List.getD_cons_succ] at h0 h1 h2 h3 h4 h5 h6
  simp [escL, Lib.indexByte, h0, h1, h2, h3, h4, h5, h6]
theorem esc_at : ∀ k, k < 7 → Lib.indexByte escL (escL.getD k 0) = k := by decide

def REscPost (l : Bytes) (w : World) (e : Ending) (w' : World) : Prop :=
  e = .returned (.tuple #[.int .i64 (rescOf (escP l)).1, .int .i64 (rescOf (escP l)).2]) ∧ ∃ m, w' = w.drewN m

theorem resc_end {l : Bytes} {w : World} {m : Nat} {x : Int × Nat} {a b : Int} (h : escP l = x) (ha : a = (rescOf x).1) (hb : b = (rescOf x).2) : REscPost l w (.returned (.tuple #[.int .i64 a, .int .i64 b])) (w.drewN m) := by
  subst h; subst ha; subst hb; exact ⟨rfl, m, rfl⟩

set_option maxRecDepth 100000 in
set_option maxHeartbeats 4000000 in
theorem rescape_any (s : ByteArray) (m : Nat) (w : World) (hz : s.size ≤ 1048576) (h0 : 0 < s.size) :
    Calls Tryz.prog 74 #[.string s] (w.drewN m) (REscPost (s.data.toList.drop 1) w) := by
  obtain ⟨L, hL⟩ : ∃ L, s.data.toList.drop 1 = L := ⟨_, rfl⟩
  rw [hL]
  have HL := Lib.hid hL; clear hL
  by_cases h2 : s.size < 2
  · have hl : (s.size : Int) < 2 := by omega
    have HE : RowKit.Hid (escP L = (-1, 0)) := by
      show _ = _
      rw [← HL.out, List.drop_of_length_le (by rw [← Lib.size_eq]; omega)]; rfl
    go_enter Tryz.func74, Tryz.ntmps74
    go_wp2_with fail
    go_ret2
    exact resc_end HE.out rfl rfl
  · have hl : decide ((s.size : Int) < 2) = false := by simp; omega
    have h1i : (1 : Int) < (s.size : Int) := by omega
    have h1s : 1 < s.size := by omega
    obtain ⟨x, hx⟩ : ∃ x : UInt8, s[1]'h1s = x := ⟨_, rfl⟩
    have hd := cell_u8 s 1 h1s
    rw [hx, HL.out] at hd
    have HD := Lib.hid hd; clear hd
    have hx256 := x.toNat_lt
    go_enter Tryz.func74, Tryz.ntmps74
    go_wp2_with fail
    obtain ⟨NM, hNM⟩ : ∃ NM : ByteArray, (⟨#[97, 98, 116, 110, 118, 102, 114]⟩ : ByteArray) = NM := ⟨_, rfl⟩
    have hNs : NM.size = 7 := by rw [← hNM]; rfl
    have HNM : RowKit.Hid (∀ k (h : k < NM.size), NM[k]'h = escL.getD k 0) := by
      show ∀ k (h : k < NM.size), NM[k]'h = escL.getD k 0
      subst hNM
      intro k h
      have : k = 0 ∨ k = 1 ∨ k = 2 ∨ k = 3 ∨ k = 4 ∨ k = 5 ∨ k = 6 := by
        have : k < 7 := h
        omega
      rcases this with rfl | rfl | rfl | rfl | rfl | rfl | rfl <;> rfl
    rw [hNM]
    clear hNM
    go_loopw [5] (fun j wr => ∃ k m : Nat, j = .int .i64 k ∧ wr = w.drewN m ∧ k ≤ 7 ∧ ∀ j, j < k → escL.getD j 0 ≠ x) (fun j _ => 7 - (intOf j).toNat)
    case atStart => exact ⟨0, m, rfl, rfl, by omega, fun j hj => by omega⟩
    case round =>
      obtain ⟨k, m', rfl, rfl, hle, hne⟩ := hrel
      have HNE := Lib.hid hne; clear hne
      by_cases hlt : k < 7
      · have hkn : k < NM.size := by omega
        have hki : (k : Int) < 7 := by omega
        have hki2 : (k : Int) < (NM.size : Int) := by omega
        obtain ⟨y, hy⟩ : ∃ y : UInt8, NM[k]'hkn = y := ⟨_, rfl⟩
        have HY := Lib.hid (hy.symm.trans (HNM.out k hkn))
        have hy256 := y.toNat_lt
        by_cases hxy : x.toNat = y.toNat
        · have hb : ((x.toNat : Int) == y.toNat) = true := by rw [beq_iff_eq]; omega
          have hEq : x = y := by rw [← UInt8.toNat_inj]; exact hxy
          have HE : RowKit.Hid (escP L = (7 + (k : Int), 1)) := by
            show _ = _
            have h1 : Lib.indexByte escL x = k := by rw [hEq, HY.out]; exact esc_at k hlt
            rw [HD.out, escP_name (by omega), h1]
          clear hEq hxy
          go_wp2_with fail
          go_quiet (fail)
          go_wp2_with fail
          go_ret2
          exact resc_end HE.out rfl rfl
        · have hb : ((x.toNat : Int) == y.toNat) = false := by rw [beq_eq_false_iff_ne]; omega
          go_wp2_with fail
          go_quiet (fail)
          go_wp2_with fail
          go_roundw
          case rel => exact ⟨k + 1, _, by go_num, by first | rfl | (simp only [World.drewN_drewN]; rfl), by omega, fun j hj => by
            by_cases hjk : j < k
            · exact HNE.out j hjk
            · obtain rfl : j = k := by omega
              rw [← HY.out]; rintro rfl; exact hxy rfl⟩
          case measure => simp [intOf]; omega
      · obtain rfl : k = 7 := by omega
        have hk : ¬ 0 ≤ Lib.indexByte escL x := by rw [esc_names HNE.out]; omega
        clear HNE HNM
        by_cases h34 : x.toNat = 34
        · have HE : RowKit.Hid (escP L = ((x.toNat : Int), 1)) := by show _ = _; rw [HD.out]; exact escP_self hk (.inl h34)
          have b34 : ((x.toNat : Int) == 34) = true := by rw [beq_iff_eq]; omega
          clear h34
          go_wp2_with fail
          go_ret2
          exact resc_end HE.out rfl rfl
        have b34 : ((x.toNat : Int) == 34) = false := by rw [beq_eq_false_iff_ne]; omega
        by_cases h92 : x.toNat = 92
        · have HE : RowKit.Hid (escP L = ((x.toNat : Int), 1)) := by show _ = _; rw [HD.out]; exact escP_self hk (.inr h92)
          have b92 : ((x.toNat : Int) == 92) = true := by rw [beq_iff_eq]; omega
          clear h92
          go_wp2_with fail
          go_ret2
          exact resc_end HE.out rfl rfl
        have b92 : ((x.toNat : Int) == 92) = false := by rw [beq_eq_false_iff_ne]; omega
        have HE := Lib.hid (escP_rest (l := s.data.toList.drop (1 + 1)) hk h34 h92)
        rw [← HD.out] at HE
        clear hk h34 h92
        by_cases h94 : x.toNat = 94
        · have b94 : ((x.toNat : Int) == 94) = true := by rw [beq_iff_eq]; omega
          have c94 : (x == 94) = true := by rw [u8_of h94]; rfl
          rw [c94, if_pos rfl] at HE
          clear h94 c94
          by_cases hl3 : 2 < s.size
          · obtain ⟨y, hy⟩ : ∃ y : UInt8, s[2]'hl3 = y := ⟨_, rfl⟩
            have hat : atB L 1 = y := by rw [← HL.out, atB_drop s 1 1 hl3, hy]
            rw [hat] at HE
            clear hat
            have hi2 : (2 : Int) < (s.size : Int) := by omega
            have hy256 := y.toNat_lt
            by_cases hy1 : 64 ≤ y.toNat
            · have g1 : decide ((y.toNat : Int) ≥ 64) = true := by simp; omega
              by_cases hy2 : y.toNat ≤ 95
              · have g2 : decide ((y.toNat : Int) ≤ 95) = true := by simp; omega
                rw [show (decide (64 ≤ y.toNat) && decide (y.toNat ≤ 95)) = true from by simp [hy1, hy2], if_pos rfl] at HE
                go_wp2_with fail
                go_ret2
                exact resc_end HE.out rfl rfl
              · have g2 : decide ((y.toNat : Int) ≤ 95) = false := by simp; omega
                rw [show (decide (64 ≤ y.toNat) && decide (y.toNat ≤ 95)) = false from by simp; omega, if_neg (by simp)] at HE
                go_wp2_with fail
                go_ret2
                exact resc_end HE.out rfl rfl
            · have g1 : decide ((y.toNat : Int) ≥ 64) = false := by simp; omega
              rw [show (decide (64 ≤ y.toNat) && decide (y.toNat ≤ 95)) = false from by simp; omega, if_neg (by simp)] at HE
              go_wp2_with fail
              go_ret2
              exact resc_end HE.out rfl rfl
          · have hi2 : decide ((s.size : Int) > 2) = false := by simp; omega
            have hat : atB L 1 = 0 := by rw [← HL.out, atB_none s 1 1 hl3]
            rw [hat] at HE
            go_wp2_with fail
            go_ret2
            exact resc_end HE.out rfl rfl
        have b94 : ((x.toNat : Int) == 94) = false := by rw [beq_eq_false_iff_ne]; omega
        have c94 : (x == 94) = false := by rw [beq_eq_false_iff_ne]; rintro rfl; exact h94 rfl
        rw [c94, if_neg (by simp)] at HE
        clear h94 c94
        by_cases h117 : x.toNat = 117
        · have b117 : ((x.toNat : Int) == 117) = true := by rw [beq_iff_eq]; omega
          have c117 : (x == 117) = true := by rw [u8_of h117]; rfl
          rw [c117, if_pos rfl] at HE
          clear h117 c117
          by_cases h5 : 5 < s.size
          · have hi5 : (5 : Int) < (s.size : Int) := by omega
            obtain ⟨y2, hy2⟩ : ∃ y : UInt8, s[2]'(by omega) = y := ⟨_, rfl⟩
            obtain ⟨y3, hy3⟩ : ∃ y : UInt8, s[3]'(by omega) = y := ⟨_, rfl⟩
            obtain ⟨y4, hy4⟩ : ∃ y : UInt8, s[4]'(by omega) = y := ⟨_, rfl⟩
            obtain ⟨y5, hy5⟩ : ∃ y : UInt8, s[5]'(by omega) = y := ⟨_, rfl⟩
            have hd2 : s.data.toList.drop (1 + 1) = y2 :: y3 :: y4 :: y5 :: s.data.toList.drop 6 := by
              rw [cell_u8 s (1 + 1) (by omega), cell_u8 s (1 + 1 + 1) (by omega), cell_u8 s (1 + 1 + 1 + 1) (by omega), cell_u8 s (1 + 1 + 1 + 1 + 1) (by omega)]
              exact congr (congrArg List.cons hy2) (congr (congrArg List.cons hy3) (congr (congrArg List.cons hy4) (congr (congrArg List.cons hy5) rfl)))
            have hext : (s.extract 2 6).data.toList = [y2, y3, y4, y5] := by
              rw [ext_take s 2 6 4 (by omega), show s.data.toList.drop 2 = s.data.toList.drop (1 + 1) from rfl, hd2]; rfl
            rw [hd2] at HE
            clear hd2
            have hbad : ∀ y ∈ [y2, y3, y4, y5], hexB y = false → basedP 16 4 (y2 :: y3 :: y4 :: y5 :: s.data.toList.drop 6) = -1 := fun y hy hf => by
              rw [based4, num_bad ⟨y, hy, by rw [hex_dig] at hf; simpa using hf⟩]
            have HBAD := Lib.hid hbad; clear hbad
            have HEXT := Lib.hid hext; clear hext
            obtain ⟨H2, hH2⟩ : ∃ H, hexI (y2.toNat : Int) = H := ⟨_, rfl⟩
            have HH2 : RowKit.Hid (hexB y2 = H2) := hH2
            obtain ⟨H3, hH3⟩ : ∃ H, hexI (y3.toNat : Int) = H := ⟨_, rfl⟩
            have HH3 : RowKit.Hid (hexB y3 = H3) := hH3
            obtain ⟨H4, hH4⟩ : ∃ H, hexI (y4.toNat : Int) = H := ⟨_, rfl⟩
            have HH4 : RowKit.Hid (hexB y4 = H4) := hH4
            obtain ⟨H5, hH5⟩ : ∃ H, hexI (y5.toNat : Int) = H := ⟨_, rfl⟩
            have HH5 : RowKit.Hid (hexB y5 = H5) := hH5
            go_wp2_with fail
            refine (rhex_any _ _).mono ?_
            rintro e w' ⟨rfl, rfl⟩
            rw [hH2]
            cases H2
            · have HB := Lib.hid (HBAD.out y2 (by simp) HH2.out)
              rw [HB.out, if_neg (by omega)] at HE
              go_wp2_with fail
              go_ret2
              exact resc_end HE.out rfl rfl
            · go_wp2_with fail
              refine (rhex_any _ _).mono ?_
              rintro e w' ⟨rfl, rfl⟩
              rw [hH3]
              cases H3
              · have HB := Lib.hid (HBAD.out y3 (by simp) HH3.out)
                rw [HB.out, if_neg (by omega)] at HE
                go_wp2_with fail
                go_ret2
                exact resc_end HE.out rfl rfl
              · go_wp2_with fail
                refine (rhex_any _ _).mono ?_
                rintro e w' ⟨rfl, rfl⟩
                rw [hH4]
                cases H4
                · have HB := Lib.hid (HBAD.out y4 (by simp) HH4.out)
                  rw [HB.out, if_neg (by omega)] at HE
                  go_wp2_with fail
                  go_ret2
                  exact resc_end HE.out rfl rfl
                · go_wp2_with fail
                  refine (rhex_any _ _).mono ?_
                  rintro e w' ⟨rfl, rfl⟩
                  rw [hH5]
                  cases H5
                  · have HB := Lib.hid (HBAD.out y5 (by simp) HH5.out)
                    rw [HB.out, if_neg (by omega)] at HE
                    go_wp2_with fail
                    go_ret2
                    exact resc_end HE.out rfl rfl
                  · have hall : ∀ c ∈ [y2, y3, y4, y5], digVal c < 16 := by
                      intro c hc
                      simp only [List.mem_cons, List.not_mem_nil, or_false] at hc
                      have e : hexB c = true := by rcases hc with rfl | rfl | rfl | rfl <;> first | exact HH2.out | exact HH3.out | exact HH4.out | exact HH5.out
                      rw [hex_dig] at e; simpa using e
                    obtain ⟨v, hv⟩ := numVal_all (n := 0) hall
                    have HV := Lib.hid hv
                    rw [based4, hv] at HE
                    clear hv hall
                    have hdc := Lib.hid (fun W => digits_any 16 (by omega) (s.extract 2 6) v W (by rw [ByteArray.size_extract]; omega) (by rw [HEXT.out]; exact HV.out))
                    go_wp2_with fail
                    refine (hdc.out _).mono ?_
                    rintro e w' ⟨rfl, rfl⟩
                    by_cases hv2 : 255 < v
                    · have hI : decide ((v : Int) < 256) = false := by simp; omega
                      simp only [if_pos hv2] at HE
                      rw [if_neg (by omega)] at HE
                      go_wp2_with fail
                      go_ret2
                      exact resc_end HE.out rfl rfl
                    · have hI : (v : Int) < 256 := by omega
                      simp only [if_neg hv2] at HE
                      rw [if_pos (by omega)] at HE
                      go_wp2_with fail
                      refine (hdc.out _).mono ?_
                      rintro e w' ⟨rfl, rfl⟩
                      go_wp2_with fail
                      go_ret2
                      exact resc_end HE.out rfl rfl
          · have hi5 : decide ((s.size : Int) > 5) = false := by simp; omega
            have hbs : basedP 16 4 (s.data.toList.drop (1 + 1)) = -1 := by
              unfold basedP; rw [if_pos (by rw [List.length_drop, ← Lib.size_eq]; omega)]
            rw [hbs, if_neg (by omega)] at HE
            go_wp2_with fail
            go_ret2
            exact resc_end HE.out rfl rfl
        have b117 : ((x.toNat : Int) == 117) = false := by rw [beq_eq_false_iff_ne]; omega
        have c117 : (x == 117) = false := by rw [beq_eq_false_iff_ne]; rintro rfl; exact h117 rfl
        rw [c117, if_neg (by simp)] at HE
        clear h117 c117
        obtain ⟨D, hD⟩ : ∃ D, digitI (x.toNat : Int) = D := ⟨_, rfl⟩
        rw [show digitB x = D from hD] at HE
        go_wp2_with fail
        refine (rDigit_any _ _).mono ?_
        rintro e w' ⟨rfl, rfl⟩
        rw [hD]
        cases D
        · rw [if_neg (by simp)] at HE
          clear hD
          obtain ⟨Bl, hBl⟩ : ∃ Bl, blankI (x.toNat : Int) = Bl := ⟨_, rfl⟩
          go_wp2_with fail
          refine (rBlank_any _ _).mono ?_
          rintro e w' ⟨rfl, rfl⟩
          rw [hBl]
          have HBl : RowKit.Hid (blankB x = Bl) := hBl
          clear hBl
          cases Bl
          · have h3 : cntB blankB L = 0 := by rw [HD.out]; simp only [cntB]; rw [if_neg (by rw [HBl.out]; decide)]
            rw [h3, if_neg (by simp)] at HE
            go_wp2_with fail
            go_ret2
            exact resc_end HE.out rfl rfl
          · obtain ⟨K, hK⟩ : ∃ K, cntB blankB L = K := ⟨_, rfl⟩
            rw [hK] at HE
            have hK1 : 0 < K := by rw [← hK, HD.out]; simp only [cntB]; rw [if_pos HBl.out]; omega
            have hK0 : RowKit.Hid (K = 0 + cntB blankB (s.data.toList.drop (1 + 0))) := by show _ = _; rw [Nat.zero_add, Nat.add_zero, HL.out]; exact hK.symm
            clear hK
            rw [show decide (0 < K) = true from by simp [hK1], Bool.true_and] at HE
            go_wp2_with fail
            go_loopw [6] (fun j wr => ∃ n m : Nat, j = .int .i64 (1 + n : Nat) ∧ wr = w.drewN m ∧ 1 + n ≤ s.size ∧ K = n + cntB blankB (s.data.toList.drop (1 + n))) (fun j _ => s.size - (intOf j).toNat)
            case atStart => exact ⟨0, _, rfl, rfl, by omega, hK0.out⟩
            case round =>
              clear hK0
              obtain ⟨n, m2, rfl, rfl, hn, hk⟩ := hrel
              have Hk := Lib.hid hk; clear hk
              by_cases hlt : 1 + n < s.size
              · have hln : (1 : Int) + n < (s.size : Int) := by omega
                have hln2 : ((1 : Int) + n).toNat = 1 + n := by omega
                obtain ⟨y, hy⟩ : ∃ y : UInt8, s[1 + n]'hlt = y := ⟨_, rfl⟩
                have hd := cell_u8 s (1 + n) hlt
                rw [hy] at hd
                have HDn := Lib.hid hd; clear hd
                obtain ⟨Q, hQ⟩ : ∃ Q, blankI (y.toNat : Int) = Q := ⟨_, rfl⟩
                have HQ : RowKit.Hid (blankB y = Q) := hQ
                have hy256 := y.toNat_lt
                go_wp2_with fail
                refine (rBlank_any _ _).mono ?_
                rintro e w' ⟨rfl, rfl⟩
                rw [hQ]
                clear hQ
                cases Q
                · have hKn : K = n := by rw [Hk.out, HDn.out]; simp only [cntB]; rw [if_neg (by rw [HQ.out]; decide)]; omega
                  have hat : atB L K = y := by rw [← HL.out, atB_drop s 1 K (by omega)]; simp only [hKn]; exact hy
                  rw [hat] at HE
                  have HKn := Lib.hid hKn; clear hKn hat
                  by_cases hy2 : y.toNat = 92
                  · have b92y : ((y.toNat : Int) == 92) = true := by rw [beq_iff_eq]; omega
                    rw [show (y == 92) = true from by rw [u8_of hy2]; rfl, if_pos rfl] at HE
                    clear hy2
                    go_wp2_with fail
                    go_ret2
                    exact resc_end HE.out rfl (by have := HKn.out; show _ = ((K + 1 + 1 : Nat) : Int); omega)
                  · have b92y : ((y.toNat : Int) == 92) = false := by rw [beq_eq_false_iff_ne]; omega
                    rw [show (y == 92) = false from by rw [beq_eq_false_iff_ne]; rintro rfl; exact hy2 rfl, if_neg (by simp)] at HE
                    clear hy2
                    go_wp2_with fail
                    go_ret2
                    exact resc_end HE.out rfl rfl
                · go_wp2_with fail
                  go_roundw
                  case rel => exact ⟨n + 1, _, by go_num, rfl, by omega, by rw [Hk.out, HDn.out]; simp only [cntB]; rw [if_pos HQ.out, show 1 + (n + 1) = 1 + n + 1 from rfl]; omega⟩
                  case measure => simp [intOf]; omega
              · have hln : decide ((1 : Int) + n < (s.size : Int)) = false := by simp; omega
                have hKn : K = n := by rw [Hk.out, List.drop_of_length_le (by rw [← Lib.size_eq]; omega)]; rfl
                have hat : atB L K = 0 := by rw [← HL.out]; exact atB_none s 1 K (by omega)
                rw [hat, if_neg (by decide)] at HE
                clear hat hKn
                go_wp2_with fail
                go_ret2
                exact resc_end HE.out rfl rfl
        · rw [if_pos rfl] at HE
          have HD1 : RowKit.Hid (digitB x = true) := hD
          clear hD
          by_cases h3 : 3 < s.size
          · have hi3 : (3 : Int) < (s.size : Int) := by omega
            obtain ⟨y2, hy2⟩ : ∃ y : UInt8, s[2]'(by omega) = y := ⟨_, rfl⟩
            obtain ⟨y3, hy3⟩ : ∃ y : UInt8, s[3]'(by omega) = y := ⟨_, rfl⟩
            have hd1 : L = x :: y2 :: y3 :: s.data.toList.drop 4 := by
              rw [HD.out, cell_u8 s (1 + 1) (by omega), cell_u8 s (1 + 1 + 1) (by omega)]
              exact congrArg (List.cons x) (congr (congrArg List.cons hy2) (congr (congrArg List.cons hy3) rfl))
            have hext : (s.extract 1 4).data.toList = [x, y2, y3] := by
              rw [ext_take s 1 4 3 (by omega), HL.out, hd1]; rfl
            have hbl : basedP 10 3 L = basedP 10 3 (x :: y2 :: y3 :: s.data.toList.drop 4) := by rw [← hd1]
            rw [hbl] at HE
            clear hd1 hbl
            have hbad : ∀ y ∈ [x, y2, y3], digitB y = false → basedP 10 3 (x :: y2 :: y3 :: s.data.toList.drop 4) = -1 := fun y hy hf => by
              rw [based3, num_bad ⟨y, hy, by rw [dig_dig] at hf; simpa using hf⟩]
            have HBAD := Lib.hid hbad; clear hbad
            have HEXT := Lib.hid hext; clear hext
            obtain ⟨H2, hH2⟩ : ∃ H, digitI (y2.toNat : Int) = H := ⟨_, rfl⟩
            have HH2 : RowKit.Hid (digitB y2 = H2) := hH2
            obtain ⟨H3, hH3⟩ : ∃ H, digitI (y3.toNat : Int) = H := ⟨_, rfl⟩
            have HH3 : RowKit.Hid (digitB y3 = H3) := hH3
            go_wp2_with fail
            refine (rDigit_any _ _).mono ?_
            rintro e w' ⟨rfl, rfl⟩
            rw [hH2]
            cases H2
            · have HB := Lib.hid (HBAD.out y2 (by simp) HH2.out)
              rw [HB.out, if_neg (by omega)] at HE
              go_wp2_with fail
              go_ret2
              exact resc_end HE.out rfl rfl
            · go_wp2_with fail
              refine (rDigit_any _ _).mono ?_
              rintro e w' ⟨rfl, rfl⟩
              rw [hH3]
              cases H3
              · have HB := Lib.hid (HBAD.out y3 (by simp) HH3.out)
                rw [HB.out, if_neg (by omega)] at HE
                go_wp2_with fail
                go_ret2
                exact resc_end HE.out rfl rfl
              · have hall : ∀ c ∈ [x, y2, y3], digVal c < 10 := by
                  intro c hc
                  simp only [List.mem_cons, List.not_mem_nil, or_false] at hc
                  have e : digitB c = true := by rcases hc with rfl | rfl | rfl <;> first | exact HD1.out | exact HH2.out | exact HH3.out
                  rw [dig_dig] at e; simpa using e
                obtain ⟨v, hv⟩ := numVal_all (n := 0) hall
                have HV := Lib.hid hv
                rw [based3, hv] at HE
                clear hv hall
                have hdc := Lib.hid (fun W => digits_any 10 (by omega) (s.extract 1 4) v W (by rw [ByteArray.size_extract]; omega) (by rw [HEXT.out]; exact HV.out))
                go_wp2_with fail
                refine (hdc.out _).mono ?_
                rintro e w' ⟨rfl, rfl⟩
                by_cases hv2 : 255 < v
                · have hI : decide ((v : Int) < 256) = false := by simp; omega
                  simp only [if_pos hv2] at HE
                  rw [if_neg (by omega)] at HE
                  go_wp2_with fail
                  go_ret2
                  exact resc_end HE.out rfl rfl
                · have hI : (v : Int) < 256 := by omega
                  simp only [if_neg hv2] at HE
                  rw [if_pos (by omega)] at HE
                  go_wp2_with fail
                  refine (hdc.out _).mono ?_
                  rintro e w' ⟨rfl, rfl⟩
                  go_wp2_with fail
                  go_ret2
                  exact resc_end HE.out rfl rfl
          · have hi3 : decide ((s.size : Int) > 3) = false := by simp; omega
            have hbs : basedP 10 3 L = -1 := by
              unfold basedP; rw [if_pos (by rw [← HL.out, List.length_drop, ← Lib.size_eq]; omega)]
            rw [hbs, if_neg (by omega)] at HE
            go_wp2_with fail
            go_ret2
            exact resc_end HE.out rfl rfl

end Go.Proofs.YtcogfalhodjmfaaGreatDoor
