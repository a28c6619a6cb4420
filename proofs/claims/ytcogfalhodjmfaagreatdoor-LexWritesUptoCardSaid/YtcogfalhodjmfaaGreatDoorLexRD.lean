/- The reference's digits: what the call returns. Conditions: those of the theorem. -/
import Derived.Test.YtcogfalhodjmfaaGreatDoorLexRA
import Derived.Test.YtcogfalhodjmfaaGreatDoorLexEsc
namespace Go.Proofs.YtcogfalhodjmfaaGreatDoor
open Go.RowKit Kiln
open Go.Proofs

theorem pow_le3 {acc k : Nat} (h : acc < 16 ^ k) (hk : k ≤ 3) : acc ≤ 4095 := by
  have : k = 0 ∨ k = 1 ∨ k = 2 ∨ k = 3 := by omega
  rcases this with rfl | rfl | rfl | rfl <;> simp at h <;> omega
theorem pow_step {acc base d k : Nat} (h : acc < 16 ^ k) (hb : base ≤ 16) (hd : d < base) : acc * base + d < 16 ^ (k + 1) := by
  have h1 : (acc + 1) * base ≤ 16 ^ k * 16 := Nat.mul_le_mul h hb
  rw [Nat.add_mul] at h1
  rw [Nat.pow_succ]; omega

theorem numVal_cons {base n v : Nat} {c : UInt8} {l : Bytes} (h : numVal base n (c :: l) = some v) : digVal c < base ∧ numVal base (n * base + digVal c) l = some v := by
  unfold numVal at h
  split at h
  · exact ⟨by assumption, h⟩
  · cases h

set_option maxRecDepth 100000 in
set_option maxHeartbeats 1000000 in
theorem digits_any (base : Nat) (hb : base ≤ 16) (s : ByteArray) (v : Nat) (w : World) (hs : s.size ≤ 4) (hv : numVal base 0 s.data.toList = some v) :
    Calls Tryz.prog 83 #[.string s, .int .i64 base] w fun e w' => e = .returned (.int .i64 v) ∧ w = w' := by
  have HV : RowKit.Hid (numVal base 0 (s.data.toList.drop 0) = some v) := hv
  clear hv
  go_enter Tryz.func83, Tryz.ntmps83
  go_wp2_with fail
  go_loop [5, 6] (fun n j => ∃ acc k : Nat, n = .int .i64 acc ∧ j = .int .i64 k ∧ k ≤ s.size ∧ acc < 16 ^ k ∧ numVal base acc (s.data.toList.drop k) = some v) (fun _ j => s.size - (intOf j).toNat)
  case atStart => exact ⟨0, 0, rfl, rfl, by omega, by decide, HV.out⟩
  case round =>
    clear HV
    obtain ⟨acc, k, rfl, rfl, hle, hacc, hk⟩ := hrel
    have Hk := Lib.hid hk; clear hk
    by_cases hlt : k < s.size
    · have hd := cell_u8 s k hlt
      obtain ⟨x, hx⟩ : ∃ x : UInt8, s[k]'hlt = x := ⟨_, rfl⟩
      rw [hx] at hd
      rw [hd] at Hk
      clear hd
      obtain ⟨hdv, hnv⟩ := numVal_cons Hk.out
      clear Hk
      have HA := Lib.hid (pow_step hacc hb hdv)
      have hac := pow_le3 hacc (by omega)
      clear hacc
      have HN := Lib.hid hnv; clear hnv
      obtain ⟨pr, hpr⟩ : ∃ pr, acc * base = pr := ⟨_, rfl⟩
      have hm : (acc : Int) * (base : Int) = (pr : Int) := by rw [← hpr]; simp
      have hprl : pr ≤ 65520 := by rw [← hpr]; exact Nat.le_trans (Nat.mul_le_mul hac hb) (by decide)
      rw [hpr] at HN HA
      clear hpr
      have hx256 := x.toNat_lt
      have HDV := Lib.hid hdv; clear hdv
      obtain ⟨D, hD⟩ : ∃ D, digitI (x.toNat : Int) = D := ⟨_, rfl⟩
      have HD : RowKit.Hid (digitB x = D) := hD
      go_wp2_with fail
      refine (rDigit_any _ _).mono ?_
      rintro e w' ⟨rfl, rfl⟩
      rw [hD]
      have hDD : D = true ↔ 48 ≤ x.toNat ∧ x.toNat ≤ 57 := by
        rw [← hD]; unfold digitI; simp; omega
      clear hD
      cases D
      · have hval : digVal x = if 97 ≤ x.toNat && x.toNat ≤ 122 then x.toNat - 87 else if 65 ≤ x.toNat && x.toNat ≤ 90 then x.toNat - 55 else 255 := by
          unfold digVal; rw [HD.out]; rfl
        have h3 := HDV.out
        rw [hval] at h3
        by_cases h97 : 97 ≤ x.toNat
        · have h122 : x.toNat ≤ 122 := by
            refine Classical.byContradiction fun h => ?_
            rw [if_neg (by simp; omega), if_neg (by simp; omega)] at h3
            omega
          rw [if_pos (by simp; omega)] at hval h3
          have hI : decide ((x.toNat : Int) ≥ 97) = true := by simp; omega
          have HVL := Lib.hid hval; clear hval hDD
          go_wp2_with fail
          go_round
          case rel => exact ⟨pr + digVal x, k + 1, by rw [HVL.out]; go_num, by go_num, by omega, HA.out, HN.out⟩
          case measure => simp [intOf]; omega
        · rw [if_neg (by simp; omega)] at hval h3
          have h65 : 65 ≤ x.toNat ∧ x.toNat ≤ 90 := by
            refine Classical.byContradiction fun h => ?_
            rw [if_neg (by simp; omega)] at h3
            omega
          rw [if_pos (by simp; omega)] at hval h3
          have hI : decide ((x.toNat : Int) ≥ 97) = false := by simp; omega
          have HVL := Lib.hid hval; clear hval hDD
          go_wp2_with fail
          go_round
          case rel => exact ⟨pr + digVal x, k + 1, by rw [HVL.out]; go_num, by go_num, by omega, HA.out, HN.out⟩
          case measure => simp [intOf]; omega
      · have h4 := hDD.1 rfl
        have HVL : RowKit.Hid (digVal x = x.toNat - 48) := by show _ = _; unfold digVal; rw [HD.out]; rfl
        clear hDD
        go_wp2_with fail
        go_round
        case rel => exact ⟨pr + digVal x, k + 1, by rw [HVL.out]; go_num, by go_num, by omega, HA.out, HN.out⟩
        case measure => simp [intOf]; omega
    · have HE : RowKit.Hid (acc = v) := by
        show _ = _
        have := Hk.out
        rw [List.drop_of_length_le (by rw [← Lib.size_eq]; omega)] at this
        simpa [numVal] using this
      go_wp2_with fail
      go_ret
      exact ⟨ret_int (by rw [HE.out]), rfl⟩

end Go.Proofs.YtcogfalhodjmfaaGreatDoor
