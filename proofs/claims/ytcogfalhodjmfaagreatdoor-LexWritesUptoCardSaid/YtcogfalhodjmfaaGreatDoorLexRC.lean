/- The reference's comment: what the call returns. Conditions: those of the theorem. -/
import Derived.Test.YtcogfalhodjmfaaGreatDoorLexC
import Derived.Test.YtcogfalhodjmfaaGreatDoorLexRA
namespace Go.Proofs.YtcogfalhodjmfaaGreatDoor
open Go.RowKit Kiln
open Go.Proofs

theorem beq2 (a b x y : UInt8) : (([a, b] : List UInt8) == [x, y]) = (x == a && y == b) := by
  rw [Bool.eq_iff_iff, beq_iff_eq, Bool.and_eq_true, beq_iff_eq, beq_iff_eq]
  constructor
  · intro h
    injection h with h1 h2
    injection h2 with h2
    exact ⟨h1.symm, h2.symm⟩
  · rintro ⟨rfl, rfl⟩; rfl

theorem two_eq {s : ByteArray} {i : Nat} (h : i + 2 ≤ s.size) (x y : UInt8) : ((s.extract i (i + 2)).toList == [x, y]) = [x, y].isPrefixOf (s.data.toList.drop i) := by
  rw [Lib.toList_data, ext_take _ _ _ 2 rfl, cell_u8 s i (by omega), cell_u8 s (i + 1) (by omega)]
  simp only [List.take_succ_cons, List.take_zero, List.isPrefixOf, Bool.and_true]
  exact beq2 _ _ _ _

theorem prefix_short {s : ByteArray} {i : Nat} (h : s.size ≤ i + 1) (x y : UInt8) : [x, y].isPrefixOf (s.data.toList.drop i) = false := by
  cases hp : [x, y].isPrefixOf (s.data.toList.drop i)
  · rfl
  · have := prefix_len hp; omega

theorem commC_short {s : ByteArray} {i d n : Nat} (h : s.size ≤ i + 1) : commC d n (s.data.toList.drop i) = none := by
  by_cases hlt : i < s.size
  · have h1 := prefix_short h 40 42
    have h2 := prefix_short h 42 41
    rw [cell_u8 s i hlt] at *
    rw [commC_step h1 h2, List.drop_of_length_le (by rw [← Lib.size_eq]; omega)]; rfl
  · rw [List.drop_of_length_le (by rw [← Lib.size_eq]; omega)]; rfl

theorem ret_pair {a b : Int} {x y : Bool} (h : a = b) (h2 : x = y) : Ending.returned (.tuple #[.int .i64 a, .bool x]) = .returned (.tuple #[.int .i64 b, .bool y]) := by rw [h, h2]

set_option maxRecDepth 100000 in
set_option maxHeartbeats 1000000 in
theorem rcomment_any (s : ByteArray) (b i0 : Nat) (w : World) (h : RSc w s b i0) (hpre : [40, 42].isPrefixOf (s.data.toList.drop i0) = true) :
    Calls Tryz.prog 23 #[.pointer (some ⟨b, 0, none⟩)] w fun e w' => e = .returned (.tuple #[.int .i64 (commV i0 (commC 0 0 (s.data.toList.drop i0))), .bool (commC 0 0 (s.data.toList.drop i0)).isSome]) ∧ w = w' := by
  have hs := h.txt
  have ha := h.pos
  have hz := h.sz
  clear h
  obtain ⟨r, hr⟩ : ∃ r, commC 0 0 (s.data.toList.drop i0) = r := ⟨_, rfl⟩
  rw [hr]
  have hst : CSt s i0 r i0 0 := ⟨Nat.le_refl _, by have := prefix_len hpre; omega, Nat.zero_le _, .inl rfl, by rw [Nat.sub_self]; exact hr.symm⟩
  have HST := Lib.hid hst; clear hst hr
  have HP := Lib.hid hpre; clear hpre
  go_enter Tryz.func23, Tryz.ntmps23
  go_wp2_with fail
  go_loop [4, 5] (fun v5 v1 => ∃ i d : Nat, v1 = .int .i64 i ∧ v5 = .int .i64 d ∧ CSt s i0 r i d) (fun _ v1 => s.size - (intOf v1).toNat)
  case atStart => exact ⟨i0, 0, rfl, rfl, HST.out⟩
  case round =>
    clear HST
    obtain ⟨i, d, rfl, rfl, hst⟩ := hrel
    have hle := hst.le
    have hsz := hst.sz
    have hdle := hst.dle
    have HS := Lib.hid hst; clear hst
    by_cases hlt : i + 1 < s.size
    · have hd := cell_u8 s i (by omega)
      obtain ⟨x, hx⟩ : ∃ x : UInt8, s[i]'(by omega) = x := ⟨_, rfl⟩
      rw [hx] at hd
      have hlz : decide ((i : Int) + 1 < (s.size : Int)) = true := by simp; omega
      have t1 := two_eq (s := s) (i := i) (by omega) 40 42
      have t2 := two_eq (s := s) (i := i) (by omega) 42 41
      obtain ⟨A, hA⟩ : ∃ A, [40, 42].isPrefixOf (s.data.toList.drop i) = A := ⟨_, rfl⟩
      obtain ⟨B, hB⟩ : ∃ B, [42, 41].isPrefixOf (s.data.toList.drop i) = B := ⟨_, rfl⟩
      rw [hA] at t1
      rw [hB] at t2
      have HA := Lib.hid hA; clear hA
      have HB := Lib.hid hB; clear hB
      have HD := Lib.hid hd; clear hd
      cases A
      · have HP1 : RowKit.Hid (0 < d) := by
          rcases HS.out.pos with h | h
          · subst h; have := HP.out; rw [HA.out] at this; cases this
          · exact h
        cases B
        · go_wp2_with fail
          go_round
          case rel => exact ⟨i + 1, d, by go_num, rfl, by omega, by omega, by omega, .inr HP1.out, by rw [HS.out.eq, HD.out, commC_step (by rw [← HD.out]; exact HA.out) (by rw [← HD.out]; exact HB.out), show i + 1 - i0 = i - i0 + 1 from by omega]⟩
          case measure => simp [intOf]; omega
        · by_cases h1 : d = 1
          · subst h1
            have HE := Lib.hid (show r = some (i - i0 + 2) by rw [HS.out.eq, HD.out, commC_last (by rw [← HD.out]; exact HA.out) (by rw [← HD.out]; exact HB.out)])
            go_wp2_with fail
            go_ret2
            exact ⟨ret_pair (by rw [HE.out]; simp only [commV]; omega) (by rw [HE.out]; rfl), rfl⟩
          · have b1 : ((d : Int) - 1 == 0) = false := by rw [beq_eq_false_iff_ne]; omega
            have HN := Lib.hid h1; clear h1
            go_wp2_with fail
            go_round
            case rel => exact ⟨i + 2, d - 1, by go_num, by have := HP1.out; go_num, by omega, by omega, by omega, .inr (by have := HP1.out; have := HN.out; omega), by rw [HS.out.eq, HD.out, commC_close (by rw [← HD.out]; exact HA.out) (by rw [← HD.out]; exact HB.out) HN.out, List.drop_drop, show i + 2 - i0 = i - i0 + 2 from by omega]⟩
            case measure => simp [intOf]; omega
      · go_wp2_with fail
        go_round
        case rel => exact ⟨i + 2, d + 1, by go_num, by go_num, by omega, by omega, by omega, .inr (by omega), by rw [HS.out.eq, HD.out, commC_open (by rw [← HD.out]; exact HA.out), List.drop_drop, show i + 2 - i0 = i - i0 + 2 from by omega]⟩
        case measure => simp [intOf]; omega
    · have HE := Lib.hid (show r = none by rw [HS.out.eq]; exact commC_short (by omega))
      have hlz : decide ((i : Int) + 1 < (s.size : Int)) = false := by simp; omega
      go_wp2_with fail
      go_ret2
      exact ⟨ret_pair (by rw [HE.out]; rfl) (by rw [HE.out]; rfl), rfl⟩

end Go.Proofs.YtcogfalhodjmfaaGreatDoor
