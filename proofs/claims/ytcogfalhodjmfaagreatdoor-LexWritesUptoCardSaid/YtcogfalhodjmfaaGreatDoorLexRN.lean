/- The reference's number: what the call returns. Conditions: those of the theorem. -/
import Derived.Test.YtcogfalhodjmfaaGreatDoorLexC
import Derived.Test.YtcogfalhodjmfaaGreatDoorLexRB
namespace Go.Proofs.YtcogfalhodjmfaaGreatDoor
open Go.RowKit Kiln
open Go.Proofs

theorem nF_le (L : Bytes) : nF L ≤ 1 := by unfold nF; split <;> omega
theorem nE0_le (L : Bytes) : nE0 L ≤ L.length + 1 := by
  have h := nF_le L
  have := cntB_le digitB (L.drop (nF L))
  rw [List.length_drop] at this
  unfold nE0; omega
theorem nP_le (L : Bytes) : (nP L).1 ≤ L.length + 2 := by
  have h := nE0_le L
  have := cntB_le digitB (L.drop (nE0 L + 1))
  rw [List.length_drop] at this
  unfold nP; split <;> simp only [] <;> omega
theorem nP_kind (L : Bytes) : ((nP L).2 == 5) = nReal L := by
  unfold nP; cases nReal L <;> rfl
theorem nM_le (L : Bytes) : nM L ≤ L.length + 4 := by
  have h := nP_le L
  unfold nM; split <;> omega
theorem nM_eq (L : Bytes) : nM L = if atB L ((nP L).1 + 1) == 126 then (nP L).1 + 1 + 1 else (nP L).1 + 1 := by unfold nM; split <;> rfl

theorem u8_comm (x y : UInt8) : (x == y) = (y == x) := by rw [Bool.eq_iff_iff, beq_iff_eq, beq_iff_eq]; exact eq_comm

theorem pre2 (L : Bytes) (x y : UInt8) (hx : x ≠ 0) (hy : y ≠ 0) : [x, y].isPrefixOf L = (atB L 0 == x && atB L 1 == y) := by
  cases L with
  | nil => simp [atB, List.isPrefixOf, hx.symm]
  | cons a L =>
    cases L with
    | nil => simp [atB, List.isPrefixOf, hy.symm]
    | cons b L =>
      simp only [atB, List.isPrefixOf, List.getD_cons_zero, List.getD_cons_succ, Bool.and_true]
      rw [u8_comm x a, u8_comm y b]

theorem atB_add (L : Bytes) (a b : Nat) : atB (L.drop a) b = atB L (a + b) := by
  unfold atB; rw [List.getD_eq_getElem?_getD, List.getD_eq_getElem?_getD, List.getElem?_drop]

theorem nHex_eq (L : Bytes) : nHex L = (atB L (nF L) == 48 && atB L (nF L + 1) == 120 && decide (0 < cntB hexB (L.drop (nF L + 2)))) := by
  unfold nHex; rw [pre2 _ _ _ (by decide) (by decide), atB_add, atB_add, Nat.add_zero]

/-- what 'at' and 'run' give at L -/
structure RCalls (L : Bytes) (b : Nat) (w : World) : Prop where
  at' : ∀ (v : Int) (k m : Nat), v = k → k ≤ 2097152 → Calls Tryz.prog 22 #[.pointer (some ⟨b, 0, none⟩), .int .i64 v] (w.drewN m) fun e w' => e = .returned (.int .u8 (atB L k).toNat) ∧ ∃ m', w' = w.drewN m'
  run1 : ∀ (v : Int) (q m : Nat), v = q → q ≤ 1048600 → Calls Tryz.prog 49 #[.pointer (some ⟨b, 0, none⟩), .int .i64 v, .int .i64 1] (w.drewN m) fun e w' => e = .returned (.int .i64 (cntB wordB (L.drop q) : Nat)) ∧ ∃ m', w' = w.drewN m'
  run2 : ∀ (v : Int) (q m : Nat), v = q → q ≤ 1048600 → Calls Tryz.prog 49 #[.pointer (some ⟨b, 0, none⟩), .int .i64 v, .int .i64 2] (w.drewN m) fun e w' => e = .returned (.int .i64 (cntB signB (L.drop q) : Nat)) ∧ ∃ m', w' = w.drewN m'
  run3 : ∀ (v : Int) (q m : Nat), v = q → q ≤ 1048600 → Calls Tryz.prog 49 #[.pointer (some ⟨b, 0, none⟩), .int .i64 v, .int .i64 3] (w.drewN m) fun e w' => e = .returned (.int .i64 (cntB digitB (L.drop q) : Nat)) ∧ ∃ m', w' = w.drewN m'
  run4 : ∀ (v : Int) (q m : Nat), v = q → q ≤ 1048600 → Calls Tryz.prog 49 #[.pointer (some ⟨b, 0, none⟩), .int .i64 v, .int .i64 4] (w.drewN m) fun e w' => e = .returned (.int .i64 (cntB hexB (L.drop q) : Nat)) ∧ ∃ m', w' = w.drewN m'
  len : L.length ≤ 1048576

theorem RSc.calls {w : World} {s : ByteArray} {b i : Nat} (h : RSc w s b i) : RCalls (s.data.toList.drop i) b w :=
  ⟨fun v k m hv hk => by subst hv; exact at_any s b i k m w h hk, fun v q m hv hq => by subst hv; rw [List.drop_drop]; exact rrun1 s b i q m w h hq, fun v q m hv hq => by subst hv; rw [List.drop_drop]; exact rrun2 s b i q m w h hq,
   fun v q m hv hq => by subst hv; rw [List.drop_drop]; exact rrun3 s b i q m w h hq, fun v q m hv hq => by subst hv; rw [List.drop_drop]; exact rrun4 s b i q m w h hq, by have := h.sz; rw [List.length_drop, ← Lib.size_eq]; omega⟩

def NumPost (L : Bytes) (w : World) (e : Ending) (w' : World) : Prop :=
  e = .returned (.tuple #[.int .i64 (numEnd L).1, .bool ((numEnd L).2 == 5)]) ∧ ∃ m', w' = w.drewN m'
theorem num_end {L : Bytes} {w : World} {m : Nat} {a : Int} {x : Bool} {p : Nat × Nat} (h : numEnd L = p) (ha : a = p.1) (hx : x = (p.2 == 5)) : NumPost L w (.returned (.tuple #[.int .i64 a, .bool x])) (w.drewN m) := by
  subst h; subst ha; subst hx; exact ⟨rfl, m, rfl⟩

set_option maxRecDepth 100000 in
set_option maxHeartbeats 4000000 in
theorem rnumber_any (L : Bytes) (b m : Nat) (w : World) (hc : RCalls L b w) :
    Calls Tryz.prog 48 #[.pointer (some ⟨b, 0, none⟩)] (w.drewN m) (NumPost L w) := by
  have HC := Lib.hid hc
  have hlen := hc.len
  clear hc
  go_enter Tryz.func48, Tryz.ntmps48
  go_wp2_with fail
  refine (HC.out.at' _ 0 _ rfl (by omega)).mono ?_
  rintro e w' ⟨rfl, m1, rfl⟩
  obtain ⟨B, hB⟩ : ∃ B, (atB L 0 == 126) = B := ⟨_, rfl⟩
  have hb : ((UInt8.toNat (atB L 0) : Int) == 126) = B := (u8_beq (atB L 0) 126 (by omega)).trans hB
  have HB := Lib.hid hB; clear hB
  go_upto_if 12 with fail
  go_cut [4] (fun v wc => v = .int .i64 (nF L : Nat) ∧ ∃ m, wc = w.drewN m)
  case first =>
    cases B
    · go_wp2_with fail
      go_meet
      exact ⟨by unfold nF; rw [HB.out]; rfl, _, rfl⟩
    · go_wp2_with fail
      go_meet
      exact ⟨by unfold nF; rw [HB.out]; rfl, _, rfl⟩
  case rest =>
    obtain ⟨rfl, m2, rfl⟩ := hcut
    have hf := nF_le L
    have he0 := nE0_le L
    have hp1 := nP_le L
    have hm1 := nM_le L
    clear hb HB B
    have hhx := nHex_eq L
    have HNE := Lib.hid (numEnd_eq L)
    have HE0 : RowKit.Hid (nE0 L = nF L + cntB digitB (L.drop (nF L))) := rfl
    have hre : nReal L = (atB L (nE0 L) == 46 && decide (0 < cntB digitB (L.drop (nE0 L + 1)))) := rfl
    have HP : RowKit.Hid (nP L = if nReal L then (nE0 L + 1 + cntB digitB (L.drop (nE0 L + 1)), 5) else (nE0 L, 4)) := rfl
    have hex : nExp L = ((atB L (nP L).1 == 69 || atB L (nP L).1 == 101) && decide (0 < cntB digitB (L.drop (nM L)))) := rfl
    have HM := Lib.hid (nM_eq L)
    have HK := Lib.hid (nP_kind L)
    have HHX := Lib.hid hhx; clear hhx
    have HRE := Lib.hid hre; clear hre
    have HEX := Lib.hid hex; clear hex
    generalize nF L = f at *
    generalize nE0 L = e0 at *
    generalize nM L = mm at *
    generalize nP L = P at *
    obtain ⟨p1, p2⟩ := P
    simp only [] at hp1 HP HEX HM HK
    obtain ⟨x1, hx1⟩ : ∃ x, atB L f = x := ⟨_, rfl⟩
    have HA1 := Lib.hid (fun v m hv => HC.out.at' v f m hv (by omega))
    rw [hx1] at HA1
    rw [hx1] at HHX
    clear hx1
    obtain ⟨B1, hB1⟩ : ∃ B, (x1 == 48) = B := ⟨_, rfl⟩
    have hb1 : ((UInt8.toNat x1 : Int) == 48) = B1 := (u8_beq x1 48 (by omega)).trans hB1
    rw [hB1] at HHX
    clear hB1
    obtain ⟨x2, hx2⟩ : ∃ x, atB L (f + 1) = x := ⟨_, rfl⟩
    have HA2 := Lib.hid (fun v m hv => HC.out.at' v (f + 1) m hv (by omega))
    rw [hx2] at HA2
    rw [hx2] at HHX
    clear hx2
    obtain ⟨B2, hB2⟩ : ∃ B, (x2 == 120) = B := ⟨_, rfl⟩
    have hb2 : ((UInt8.toNat x2 : Int) == 120) = B2 := (u8_beq x2 120 (by omega)).trans hB2
    rw [hB2] at HHX
    clear hB2
    obtain ⟨k1, hk1⟩ : ∃ k, cntB hexB (L.drop (f + 2)) = k := ⟨_, rfl⟩
    have hk1l := cntB_le hexB (L.drop (f + 2))
    rw [List.length_drop, hk1] at hk1l
    rw [hk1] at HHX HNE
    have HR4 := Lib.hid (fun v m hv => HC.out.run4 v (f + 2) m hv (by omega))
    rw [hk1] at HR4
    clear hk1
    cases hH : nHex L
    · rw [hH] at HNE HHX
      clear hH
      go_upto_region 4 with fail
      go_cut [23] (fun v wc => v = .bool (B1 && B2) ∧ ∃ m, wc = w.drewN m)
      case first =>
        go_wp2_with fail
        refine (HA1.out _ _ (by omega)).mono ?_
        rintro e w' ⟨rfl, m3, rfl⟩
        cases B1
        · go_wp2_with fail
          go_meet
          exact ⟨rfl, _, rfl⟩
        · go_wp2_with fail
          refine (HA2.out _ _ (by omega)).mono ?_
          rintro e w' ⟨rfl, m4, rfl⟩
          go_wp2_with fail
          go_meet
          exact ⟨rfl, _, rfl⟩
      case rest =>
        obtain ⟨rfl, m3, rfl⟩ := hcut
        clear hb1 hb2
        generalize (B1 && B2) = B at *
        go_upto_if 23 with fail
        go_cut [5] (fun _ wc => ∃ m, wc = w.drewN m)
        case first =>
          cases B
          · go_wp2_with fail
            go_meet
            exact ⟨_, rfl⟩
          · have hk : k1 = 0 := by
              have := HHX.out
              simp at this; exact this
            have hk0 : decide ((0 : Int) < (k1 : Int)) = false := by simp; omega
            go_wp2_with fail
            refine (HR4.out _ _ (by omega)).mono ?_
            rintro e w' ⟨rfl, m5, rfl⟩
            go_wp2_with fail
            go_meet
            exact ⟨_, rfl⟩
        case rest =>
          obtain ⟨m4, rfl⟩ := hcut
          clear HHX HR4 hk1l
          rw [if_neg (by decide)] at HNE
          go_wp2_with fail
          refine (HC.out.run3 _ f _ rfl (by omega)).mono ?_
          rintro e w' ⟨rfl, m5, rfl⟩
          obtain ⟨c0, hc0⟩ : ∃ c, cntB digitB (L.drop f) = c := ⟨_, rfl⟩
          rw [hc0] at HE0 ⊢
          clear hc0
          have hce : e0 = f + c0 := HE0.out
          clear HE0
          subst hce
          go_wp2_with fail
          obtain ⟨x3, hx3⟩ : ∃ x, atB L (f + c0) = x := ⟨_, rfl⟩
          have HA3 := Lib.hid (fun v m hv => HC.out.at' v (f + c0) m hv (by omega))
          rw [hx3] at HA3
          rw [hx3] at HRE
          clear hx3
          refine (HA3.out _ _ (by omega)).mono ?_
          rintro e w' ⟨rfl, m6, rfl⟩
          obtain ⟨B3, hB3⟩ : ∃ B, (x3 == 46) = B := ⟨_, rfl⟩
          have hb3 : ((UInt8.toNat x3 : Int) == 46) = B3 := (u8_beq x3 46 (by omega)).trans hB3
          rw [hB3] at HRE
          clear hB3
          go_upto_if 42 with fail
          go_cut [4, 6] (fun v4 v6 wc => v4 = .int .i64 p1 ∧ v6 = .bool (p2 == 5) ∧ ∃ m, wc = w.drewN m)
          case first =>
            cases B3
            · have h4 : nReal L = false := HRE.out
              rw [h4] at HP
              have h5 := HP.out
              simp only [Bool.false_eq_true, if_false, Prod.mk.injEq] at h5
              obtain ⟨rfl, rfl⟩ := h5
              clear HP HRE h4
              go_wp2_with fail
              go_meet
              exact ⟨by go_num, rfl, _, rfl⟩
            · obtain ⟨k2, hk2⟩ : ∃ k, cntB digitB (L.drop (f + c0 + 1)) = k := ⟨_, rfl⟩
              have hk2l := cntB_le digitB (L.drop (f + c0 + 1))
              rw [List.length_drop, hk2] at hk2l
              have HR3 := Lib.hid (fun v m hv => HC.out.run3 v (f + c0 + 1) m hv (by omega))
              rw [hk2] at HR3 HRE HP
              clear hk2
              by_cases hk : 0 < k2
              · have h4 : nReal L = true := by rw [HRE.out]; simpa using hk
                rw [h4] at HP
                have h5 := HP.out
                simp only [if_true, Prod.mk.injEq] at h5
                obtain ⟨rfl, rfl⟩ := h5
                clear HP HRE h4
                have hk0 : (0 : Int) < (k2 : Int) := by omega
                go_wp2_with fail
                refine (HR3.out _ _ (by omega)).mono ?_
                rintro e w' ⟨rfl, m7, rfl⟩
                go_wp2_with fail
                go_meet
                exact ⟨by go_num, rfl, _, rfl⟩
              · have h4 : nReal L = false := by rw [HRE.out]; simp; omega
                rw [h4] at HP
                have h5 := HP.out
                simp only [Bool.false_eq_true, if_false, Prod.mk.injEq] at h5
                obtain ⟨rfl, rfl⟩ := h5
                clear HP HRE h4
                have hk0 : decide ((0 : Int) < (k2 : Int)) = false := by simp; omega
                go_wp2_with fail
                refine (HR3.out _ _ (by omega)).mono ?_
                rintro e w' ⟨rfl, m7, rfl⟩
                go_wp2_with fail
                go_meet
                exact ⟨by go_num, rfl, _, rfl⟩
          case rest =>
            obtain ⟨rfl, rfl, m7, rfl⟩ := hcut
            clear HP HRE hb3
            obtain ⟨x4, hx4⟩ : ∃ x, atB L p1 = x := ⟨_, rfl⟩
            have HA4 := Lib.hid (fun v m hv => HC.out.at' v p1 m hv (by omega))
            rw [hx4] at HA4
            rw [hx4] at HEX
            clear hx4
            obtain ⟨B4, hB4⟩ : ∃ B, (x4 == 69) = B := ⟨_, rfl⟩
            have hb4 : ((UInt8.toNat x4 : Int) == 69) = B4 := (u8_beq x4 69 (by omega)).trans hB4
            obtain ⟨B5, hB5⟩ : ∃ B, (x4 == 101) = B := ⟨_, rfl⟩
            have hb5 : ((UInt8.toNat x4 : Int) == 101) = B5 := (u8_beq x4 101 (by omega)).trans hB5
            rw [hB4, hB5] at HEX
            clear hB4 hB5
            go_upto_region 15 with fail
            go_cut [62] (fun v wc => v = .bool (B4 || B5) ∧ ∃ m, wc = w.drewN m)
            case first =>
              go_wp2_with fail
              refine (HA4.out _ _ (by omega)).mono ?_
              rintro e w' ⟨rfl, m3, rfl⟩
              cases B4
              · go_wp2_with fail
                refine (HA4.out _ _ (by omega)).mono ?_
                rintro e w' ⟨rfl, m4, rfl⟩
                go_wp2_with fail
                go_meet
                exact ⟨rfl, _, rfl⟩
              · go_wp2_with fail
                go_meet
                exact ⟨rfl, _, rfl⟩
            case rest =>
              obtain ⟨rfl, m8, rfl⟩ := hcut
              clear hb4 hb5
              generalize (B4 || B5) = B6 at *
              cases B6
              · have h4 : nExp L = false := HEX.out
                rw [h4, if_neg (by decide)] at HNE
                go_wp2_with fail
                go_ret2
                exact num_end HNE.out rfl rfl
              · go_wp2_with fail
                obtain ⟨x7, hx7⟩ : ∃ x, atB L (p1 + 1) = x := ⟨_, rfl⟩
                have HA7 := Lib.hid (fun v m hv => HC.out.at' v (p1 + 1) m hv (by omega))
                rw [hx7] at HA7
                rw [hx7] at HM
                clear hx7
                refine (HA7.out _ _ (by omega)).mono ?_
                rintro e w' ⟨rfl, m9, rfl⟩
                obtain ⟨B7, hB7⟩ : ∃ B, (x7 == 126) = B := ⟨_, rfl⟩
                have hb7 : ((UInt8.toNat x7 : Int) == 126) = B7 := (u8_beq x7 126 (by omega)).trans hB7
                rw [hB7] at HM
                clear hB7
                go_upto_if 68 with fail
                go_cut [8] (fun v wc => v = .int .i64 mm ∧ ∃ m, wc = w.drewN m)
                case first =>
                  cases B7
                  · have h5 := HM.out
                    simp only [Bool.false_eq_true, if_false] at h5
                    subst h5
                    go_wp2_with fail
                    go_meet
                    exact ⟨by go_num, _, rfl⟩
                  · have h5 := HM.out
                    simp only [if_true] at h5
                    subst h5
                    go_wp2_with fail
                    go_meet
                    exact ⟨by go_num, _, rfl⟩
                case rest =>
                  obtain ⟨rfl, m10, rfl⟩ := hcut
                  clear HM hb7
                  go_wp2_with fail
                  refine (HC.out.run3 _ mm _ rfl (by omega)).mono ?_
                  rintro e w' ⟨rfl, m11, rfl⟩
                  obtain ⟨k3, hk3⟩ : ∃ k, cntB digitB (L.drop mm) = k := ⟨_, rfl⟩
                  have hk3l := cntB_le digitB (L.drop mm)
                  rw [List.length_drop, hk3] at hk3l
                  rw [hk3] at HEX HNE ⊢
                  clear hk3
                  by_cases hk : 0 < k3
                  · have h4 : nExp L = true := by rw [HEX.out]; simpa using hk
                    rw [h4, if_pos rfl] at HNE
                    have hk0 : (0 : Int) < (k3 : Int) := by omega
                    go_wp2_with fail
                    go_ret2
                    exact num_end HNE.out (by go_num) rfl
                  · have h4 : nExp L = false := by rw [HEX.out]; simp; omega
                    rw [h4, if_neg (by decide)] at HNE
                    have hk0 : decide ((0 : Int) < (k3 : Int)) = false := by simp; omega
                    go_wp2_with fail
                    go_ret2
                    exact num_end HNE.out rfl rfl
    · rw [hH] at HNE HHX
      clear hH
      have h3 := HHX.out
      simp only [Bool.and_eq_true, Bool.true_eq] at h3
      obtain ⟨⟨rfl, rfl⟩, hk⟩ := h3
      have hk0 : (0 : Int) < (k1 : Int) := by simp at hk; omega
      rw [if_pos rfl] at HNE
      go_wp2_with fail
      refine (HA1.out _ _ (by omega)).mono ?_
      rintro e w' ⟨rfl, m3, rfl⟩
      go_wp2_with fail
      refine (HA2.out _ _ (by omega)).mono ?_
      rintro e w' ⟨rfl, m4, rfl⟩
      go_wp2_with fail
      refine (HR4.out _ _ (by omega)).mono ?_
      rintro e w' ⟨rfl, m5, rfl⟩
      go_wp2_with fail
      go_ret2
      exact num_end HNE.out (by go_num) rfl

end Go.Proofs.YtcogfalhodjmfaaGreatDoor
