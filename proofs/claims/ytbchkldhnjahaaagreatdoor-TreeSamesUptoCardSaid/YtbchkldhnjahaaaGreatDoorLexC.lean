/- The scanner's choice of a reader, and comments: what each call returns. Conditions: those of each theorem. -/
import Derived.Test.YtbchkldhnjahaaaGreatDoorLexW
namespace Go.Proofs.YtbchkldhnjahaaaGreatDoor
open Go.RowKit Kiln
open Go.Proofs

/-- the program's choice by the first byte, as a function's number -/
def readerId (c : UInt8) : Nat :=
  if letterB c then 41 else if digitB c then 43 else if c == 126 || signB c then 45
  else if c == 34 then 46 else if c == 39 then 47 else 48

theorem u8_beq (c : UInt8) (n : Nat) (h : n < 256) : ((c.toNat : Int) == (n : Nat)) = (c == n.toUInt8) := by
  by_cases hc : c.toNat = n
  · rw [u8_of hc]
    have : n.toUInt8.toNat = n := by simp; omega
    rw [this]; simp
  · have h1 : ((c.toNat : Int) == (n : Nat)) = false := by rw [beq_eq_false_iff_ne]; omega
    have h2 : (c == n.toUInt8) = false := by
      rw [beq_eq_false_iff_ne]; rintro rfl; apply hc; simp; omega
    rw [h1, h2]

theorem ret_fun {a b : Nat} (h : a = b) : Ending.returned (.func (.func a) #[] #[]) = .returned (.func (.func b) #[] #[]) := by rw [h]

set_option maxRecDepth 100000 in
set_option maxHeartbeats 400000 in
theorem readers_any (c : UInt8) (w : World) :
    Calls Tryz.prog 26 #[.int .u8 c.toNat] w fun e w' => e = .returned (.func (.func (readerId c)) #[] #[]) ∧ w = w' := by
  have e126 : ((c.toNat : Int) == 126) = (c == 126) := u8_beq c 126 (by omega)
  have e34 : ((c.toNat : Int) == 34) = (c == 34) := u8_beq c 34 (by omega)
  have e39 : ((c.toNat : Int) == 39) = (c == 39) := u8_beq c 39 (by omega)
  have hR : RowKit.Hid (∀ a1 a2 a3 a4 a5 a6, letterB c = a1 → digitB c = a2 → (c == 126) = a3 → signB c = a4 → (c == 34) = a5 → (c == 39) = a6 → readerId c = if a1 then 41 else if a2 then 43 else if a3 || a4 then 45 else if a5 then 46 else if a6 then 47 else 48) := by
    rintro _ _ _ _ _ _ rfl rfl rfl rfl rfl rfl; rfl
  have hR2 := Lib.hid (hR.out (letterI c.toNat) (digitI c.toNat) _ _ _ _ rfl rfl rfl rfl rfl rfl); clear hR
  generalize (c == 126) = a3 at *
  generalize (c == 34) = a5 at *
  generalize (c == 39) = a6 at *
  generalize readerId c = R at *
  have HS := Lib.hid (fun w => inSign_any c w)
  generalize signB c = a4 at *
  go_enter Tryz.func26, Tryz.ntmps26
  go_wp2_with fail
  refine (letter_any _ _).mono ?_
  rintro e w' ⟨rfl, rfl⟩
  generalize letterI c.toNat = a1 at *
  cases a1
  · go_wp2_with fail
    refine (digit_any _ _).mono ?_
    rintro e w' ⟨rfl, rfl⟩
    generalize digitI c.toNat = a2 at *
    cases a2
    · cases a3
      · go_wp2_with fail
        refine (HS.out _).mono ?_
        rintro e w' ⟨rfl, rfl⟩
        cases a4
        · cases a5
          · cases a6
            · go_wp2_with fail
              go_ret
              exact ⟨ret_fun hR2.out.symm, rfl⟩
            · go_wp2_with fail
              go_ret
              exact ⟨ret_fun hR2.out.symm, rfl⟩
          · go_wp2_with fail
            go_ret
            exact ⟨ret_fun hR2.out.symm, rfl⟩
        · go_wp2_with fail
          go_ret
          exact ⟨ret_fun hR2.out.symm, rfl⟩
      · go_wp2_with fail
        go_ret
        exact ⟨ret_fun hR2.out.symm, rfl⟩
    · go_wp2_with fail
      go_ret
      exact ⟨ret_fun hR2.out.symm, rfl⟩
  · go_wp2_with fail
    go_ret
    exact ⟨ret_fun hR2.out.symm, rfl⟩

theorem reader_any (s : ByteArray) (b i : Nat) (w : World) (hg : Gl w) (hs : w.cell? ⟨b, 0, none⟩ = some (.string s)) (ha : w.cell? ⟨b, 1, none⟩ = some (.int .i64 i)) (hz : s.size ≤ 1048576) (hi : i < s.size) :
    Calls Tryz.prog (readerId (s[i]'hi)) #[.pointer (some ⟨b, 0, none⟩)] w (RdPost (readP (s.data.toList.drop i)) i w) := by
  have hat := atB_drop s i 0 (by omega)
  simp only [Nat.add_zero] at hat
  unfold readP readerId
  rw [hat]
  simp only []
  split
  · exact word_any s b i w hg hs ha hz hi
  · split
    · exact number_any s b i w hs ha hz hi
    · split
      · exact sign_any s b i w hg hs ha hz hi
      · split
        · exact text_any s b i w hg hs ha hz hi
        · split
          · exact tyvar_any s b i w hg hs ha hz hi
          · exact other_any s b i w hg hs ha hz hi

/- commP without its fuel -/
theorem commP_fuel : ∀ (f g d n : Nat) (l : Bytes), l.length < f → l.length < g → commP f d n l = commP g d n l
  | 0, _, _, _, _, h, _ => by omega
  | _, 0, _, _, _, _, h => by omega
  | f + 1, g + 1, _, _, [], _, _ => rfl
  | f + 1, g + 1, d, n, c :: l, hf, hg => by
    simp only [List.length_cons] at hf hg
    have h1 := commP_fuel f g (d + 1) (n + 2) (l.drop 1) (by rw [List.length_drop]; omega) (by rw [List.length_drop]; omega)
    have h2 := commP_fuel f g (d - 1) (n + 2) (l.drop 1) (by rw [List.length_drop]; omega) (by rw [List.length_drop]; omega)
    have h3 := commP_fuel f g d (n + 1) l (by omega) (by omega)
    simp only [commP, h1, h2, h3]

def commC (d n : Nat) (l : Bytes) : Option Nat := commP (l.length + 1) d n l

theorem commC_nil (d n : Nat) : commC d n [] = none := rfl
theorem commC_open {d n : Nat} {c : UInt8} {l : Bytes} (h : [40, 42].isPrefixOf (c :: l) = true) : commC d n (c :: l) = commC (d + 1) (n + 2) (l.drop 1) := by
  unfold commC
  rw [commP, if_pos h]
  exact commP_fuel _ _ _ _ _ (by rw [List.length_drop, List.length_cons]; omega) (by omega)
theorem commC_last {n : Nat} {c : UInt8} {l : Bytes} (h : [40, 42].isPrefixOf (c :: l) = false) (h2 : [42, 41].isPrefixOf (c :: l) = true) : commC 1 n (c :: l) = some (n + 2) := by
  unfold commC
  rw [commP, if_neg (by rw [h]; decide), if_pos h2, if_pos rfl]
theorem commC_close {d n : Nat} {c : UInt8} {l : Bytes} (h : [40, 42].isPrefixOf (c :: l) = false) (h2 : [42, 41].isPrefixOf (c :: l) = true) (hd : d ≠ 1) : commC d n (c :: l) = commC (d - 1) (n + 2) (l.drop 1) := by
  unfold commC
  rw [commP, if_neg (by rw [h]; decide), if_pos h2, if_neg hd]
  exact commP_fuel _ _ _ _ _ (by rw [List.length_drop, List.length_cons]; omega) (by omega)
theorem commC_step {d n : Nat} {c : UInt8} {l : Bytes} (h : [40, 42].isPrefixOf (c :: l) = false) (h2 : [42, 41].isPrefixOf (c :: l) = false) : commC d n (c :: l) = commC d (n + 1) l := by
  unfold commC
  rw [commP, if_neg (by rw [h]; decide), if_neg (by rw [h2]; decide)]
  exact commP_fuel _ _ _ _ _ (by rw [List.length_cons]; omega) (by omega)

/-- what 'comment' answers -/
def commV (i : Nat) : Option Nat → Int
  | none => 0
  | some n => (i + n : Nat)

/-- the loop's state -/
structure CSt (s : ByteArray) (i0 : Nat) (r : Option Nat) (i d : Nat) : Prop where
  le : i0 ≤ i
  sz : i ≤ s.size
  dle : d ≤ i
  pos : i = i0 ∨ 0 < d
  eq : r = commC d (i - i0) (s.data.toList.drop i)

theorem prefix_len {s : ByteArray} {i : Nat} {x y : UInt8} (h : [x, y].isPrefixOf (s.data.toList.drop i) = true) : i + 2 ≤ s.size := by
  have := (List.isPrefixOf_iff_prefix.1 h).length_le
  rw [List.length_drop, ← Lib.size_eq] at this
  simp at this; omega

set_option maxRecDepth 100000 in
set_option maxHeartbeats 1000000 in
theorem comment_any (s : ByteArray) (b i0 : Nat) (w : World) (hs : w.cell? ⟨b, 0, none⟩ = some (.string s)) (hz : s.size ≤ 1048576) (hpre : [40, 42].isPrefixOf (s.data.toList.drop i0) = true) :
    Calls Tryz.prog 25 #[.pointer (some ⟨b, 0, none⟩), .int .i64 i0] w fun e w' => e = .returned (.int .i64 (commV i0 (commC 0 0 (s.data.toList.drop i0)))) ∧ w = w' := by
  obtain ⟨r, hr⟩ : ∃ r, commC 0 0 (s.data.toList.drop i0) = r := ⟨_, rfl⟩
  rw [hr]
  have hst : CSt s i0 r i0 0 := ⟨Nat.le_refl _, by have := prefix_len hpre; omega, Nat.zero_le _, .inl rfl, by rw [Nat.sub_self]; exact hr.symm⟩
  have HST := Lib.hid hst; clear hst hr
  have HP := Lib.hid hpre; clear hpre
  go_enter Tryz.func25, Tryz.ntmps25
  go_wp2_with fail
  go_loop [1, 5] (fun v1 v5 => ∃ i d : Nat, v1 = .int .i64 i ∧ v5 = .int .i64 d ∧ CSt s i0 r i d) (fun v1 _ => s.size - (intOf v1).toNat)
  case atStart => exact ⟨i0, 0, rfl, rfl, HST.out⟩
  case round =>
    clear HST
    obtain ⟨i, d, rfl, rfl, hst⟩ := hrel
    have hle := hst.le
    have hsz := hst.sz
    have hdle := hst.dle
    have HS := Lib.hid hst; clear hst
    by_cases hlt : i < s.size
    · have hd := cell_u8 s i hlt
      obtain ⟨x, hx⟩ : ∃ x : UInt8, s[i]'hlt = x := ⟨_, rfl⟩
      rw [hx] at hd
      have hlz : decide ((i : Int) < (s.size : Int)) = true := by simp; omega
      obtain ⟨A, hA⟩ : ∃ A, [40, 42].isPrefixOf (s.data.toList.drop i) = A := ⟨_, rfl⟩
      obtain ⟨B, hB⟩ : ∃ B, [42, 41].isPrefixOf (s.data.toList.drop i) = B := ⟨_, rfl⟩
      have HA := Lib.hid hA
      have HB := Lib.hid hB
      have HD := Lib.hid hd; clear hd
      go_wp2_with fail
      refine (starts_any s ⟨#[40, 42]⟩ b i _ hs (by unfold maxLen; omega) (by omega)).mono ?_
      rintro e w' ⟨rfl, rfl⟩
      simp only [hA]
      clear hA
      cases A
      · go_wp2_with fail
        refine (starts_any s ⟨#[42, 41]⟩ b i _ hs (by unfold maxLen; omega) (by omega)).mono ?_
        rintro e w' ⟨rfl, rfl⟩
        simp only [hB]
        clear hB
        have HP1 : RowKit.Hid (0 < d) := by
          rcases HS.out.pos with h | h
          · subst h; have := HP.out; rw [HA.out] at this; cases this
          · exact h
        cases B
        · go_wp2_with fail
          go_round
          case rel => exact ⟨i + 1, d, by go_num, rfl, by omega, by omega, by omega, .inr HP1.out, by rw [HS.out.eq, HD.out, commC_step (by rw [← HD.out]; exact HA.out) (by rw [← HD.out]; exact HB.out), show i + 1 - i0 = i - i0 + 1 from by omega]⟩
          case measure => simp [intOf]; omega
        · have hp2 := prefix_len HB.out
          by_cases h1 : d = 1
          · subst h1
            have HE := Lib.hid (show r = some (i - i0 + 2) by rw [HS.out.eq, HD.out, commC_last (by rw [← HD.out]; exact HA.out) (by rw [← HD.out]; exact HB.out)])
            go_wp2_with fail
            go_ret
            exact ⟨ret_int (by rw [HE.out]; simp only [commV]; omega), rfl⟩
          · have b1 : ((d : Int) - 1 == 0) = false := by rw [beq_eq_false_iff_ne]; omega
            have HN := Lib.hid h1; clear h1
            go_wp2_with fail
            go_round
            case rel => exact ⟨i + 2, d - 1, by go_num, by have := HP1.out; go_num, by omega, by omega, by omega, .inr (by have := HP1.out; have := HN.out; omega), by rw [HS.out.eq, HD.out, commC_close (by rw [← HD.out]; exact HA.out) (by rw [← HD.out]; exact HB.out) HN.out, List.drop_drop, show i + 2 - i0 = i - i0 + 2 from by omega]⟩
            case measure => simp [intOf]; omega
      · clear hB
        have hp2 := prefix_len HA.out
        go_wp2_with fail
        go_round
        case rel => exact ⟨i + 2, d + 1, by go_num, by go_num, by omega, by omega, by omega, .inr (by omega), by rw [HS.out.eq, HD.out, commC_open (by rw [← HD.out]; exact HA.out), List.drop_drop, show i + 2 - i0 = i - i0 + 2 from by omega]⟩
        case measure => simp [intOf]; omega
    · have HE := Lib.hid (show r = none by rw [HS.out.eq, List.drop_of_length_le (by rw [← Lib.size_eq]; omega)]; rfl)
      go_wp2_with fail
      go_ret
      exact ⟨ret_int (by rw [HE.out]; rfl), rfl⟩

end Go.Proofs.YtbchkldhnjahaaaGreatDoor
