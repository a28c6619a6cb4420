/- The leaves of the package kilnref04: kinds of bytes, in, at, run: what each call returns. Conditions: those of each theorem. -/
import Derived.Test.YtcogfalhodjmfaaGreatDoorLexA
namespace Go.Proofs.YtcogfalhodjmfaaGreatDoor
open Go.RowKit Kiln
open Go.Proofs

set_option maxHeartbeats 400000 in
theorem rBlank_any (c : Int) (w : World) : Calls Tryz.prog 21 #[.int .u8 c] w fun e w' => e = .returned (.bool (blankI c)) ∧ w = w' := by
  go_enter Tryz.func21, Tryz.ntmps21
  go_wp2
  all_goals (go_ret; exact ⟨by simp_all [blankI], rfl⟩)

set_option maxHeartbeats 400000 in
theorem rDigit_any (c : Int) (w : World) : Calls Tryz.prog 47 #[.int .u8 c] w fun e w' => e = .returned (.bool (digitI c)) ∧ w = w' := by
  go_enter Tryz.func47, Tryz.ntmps47
  go_wp2
  all_goals (go_ret; exact ⟨by (try simp_all [digitI]) <;> omega, rfl⟩)

set_option maxHeartbeats 400000 in
theorem rLetter_any (c : Int) (w : World) : Calls Tryz.prog 51 #[.int .u8 c] w fun e w' => e = .returned (.bool (letterI c)) ∧ w = w' := by
  go_enter Tryz.func51, Tryz.ntmps51
  go_wp2
  all_goals (go_ret; exact ⟨by (try simp_all [letterI]) <;> omega, rfl⟩)

set_option maxHeartbeats 400000 in
theorem rWord_any (c : Int) (w : World) : Calls Tryz.prog 66 #[.int .u8 c] w fun e w' => e = .returned (.bool (wordI c)) ∧ w = w' := by
  go_enter Tryz.func66, Tryz.ntmps66
  go_wp2_with (first | (go_at_call 51; refine (rLetter_any _ _).mono ?_; rintro e w' ⟨rfl, rfl⟩) | (go_at_call 47; refine (rDigit_any _ _).mono ?_; rintro e w' ⟨rfl, rfl⟩))
  all_goals (go_ret; exact ⟨by simp_all [wordI], rfl⟩)

set_option maxHeartbeats 400000 in
theorem rhex_any (c : Int) (w : World) : Calls Tryz.prog 67 #[.int .u8 c] w fun e w' => e = .returned (.bool (hexI c)) ∧ w = w' := by
  go_enter Tryz.func67, Tryz.ntmps67
  go_wp2_with (first | (go_at_call 47; refine (rDigit_any _ _).mono ?_; rintro e w' ⟨rfl, rfl⟩))
  all_goals (go_ret; exact ⟨by (try simp_all [hexI]) <;> omega, rfl⟩)

set_option maxRecDepth 100000 in
set_option maxHeartbeats 400000 in
theorem in_any (c : UInt8) (s : ByteArray) (w : World) (hz : s.size ≤ 1048576) : Calls Tryz.prog 50 #[.int .u8 c.toNat, .string s] w fun e w' => e = .returned (.bool (s.data.toList.contains c)) ∧ w = w' := by
  obtain ⟨C, hC⟩ : ∃ C, s.data.toList.contains c = C := ⟨_, rfl⟩
  rw [hC]
  have HC := Lib.hid hC.symm; clear hC
  go_enter Tryz.func50, Tryz.ntmps50
  go_wp2
  go_loop [5] (fun j => ∃ k : Nat, j = .int .i64 k ∧ C = (s.data.toList.drop k).contains c) (fun j => s.size - (intOf j).toNat)
  case atStart => exact ⟨0, rfl, HC.out⟩
  case round =>
    obtain ⟨k, rfl, hk⟩ := hrel
    have Hk := Lib.hid hk; clear hk
    by_cases hlt : k < s.size
    · have hd := cell_u8 s k hlt
      obtain ⟨x, hx⟩ : ∃ x : UInt8, s[k]'hlt = x := ⟨_, rfl⟩
      rw [hx] at hd
      have Hd := Lib.hid hd; clear hd
      by_cases hc : x.toNat = c.toNat
      · have hb : ((x.toNat : Int) == c.toNat) = true := by rw [beq_iff_eq]; omega
        go_wp2_with fail
        go_ret
        refine ⟨ret_bool ?_, rfl⟩
        rw [Hk.out, Hd.out, show c = x from by rw [← UInt8.toNat_inj]; exact hc.symm]; simp
      · have hb : ((x.toNat : Int) == c.toNat) = false := by rw [beq_eq_false_iff_ne]; omega
        go_wp2_with fail
        go_round
        case rel => exact ⟨k + 1, by go_num, by rw [Hk.out, Hd.out, List.contains_cons, show (c == x) = false from by rw [beq_eq_false_iff_ne]; rintro rfl; exact hc rfl, Bool.false_or]⟩
        case measure => simp [intOf]; omega
    · go_wp2
      go_ret
      refine ⟨ret_bool ?_, rfl⟩
      rw [Hk.out, List.drop_of_length_le (by rw [← Lib.size_eq]; omega)]; rfl

theorem in_sign (c : UInt8) (w : World) : Calls Tryz.prog 50 #[.int .u8 c.toNat, .string ⟨#[33, 37, 38, 36, 35, 43, 45, 47, 58, 60, 61, 62, 63, 64, 92, 126, 96, 94, 124, 42]⟩] w fun e w' => e = .returned (.bool (signB c)) ∧ w = w' :=
  (in_any c _ w (by decide)).mono fun _ _ h => ⟨h.1.trans rfl, h.2⟩

set_option maxHeartbeats 400000 in
theorem rSign_any (c : UInt8) (w : World) : Calls Tryz.prog 52 #[.int .u8 c.toNat] w fun e w' => e = .returned (.bool (signB c)) ∧ w = w' := by
  go_enter Tryz.func52, Tryz.ntmps52
  go_wp2_with fail
  refine (in_sign c _).mono ?_
  rintro e w' ⟨rfl, rfl⟩
  go_wp2_with fail
  go_ret
  exact ⟨rfl, rfl⟩

theorem atB_drop' (s : ByteArray) (i k : Nat) (h : i + k < s.size) : atB (s.data.toList.drop i) k = s[i + k]'h := by
  unfold atB
  rw [List.getD_eq_getElem?_getD, List.getElem?_drop, Lib.data_getElem? s (i + k) h]; rfl
theorem atB_none' (s : ByteArray) (i k : Nat) (h : ¬ i + k < s.size) : atB (s.data.toList.drop i) k = 0 := by
  unfold atB
  rw [List.getD_eq_getElem?_getD, List.getElem?_eq_none (by rw [List.length_drop, ← Lib.size_eq]; omega)]; rfl

/-- the reference's scanner: its text, and where it stands -/
structure RSc (w : World) (s : ByteArray) (b i : Nat) : Prop where
  txt : w.cell? ⟨b, 0, none⟩ = some (.string s)
  pos : w.cell? ⟨b, 1, none⟩ = some (.int .i64 i)
  sz : s.size ≤ 1048576
  le : i ≤ s.size

theorem RSc.later {w w' : World} {s : ByteArray} {b i : Nat} (h : RSc w s b i) (hb : Below w.heap.size w w') : RSc w' s b i := ⟨cell_later hb h.txt, cell_later hb h.pos, h.sz, h.le⟩
theorem RSc.drew {w : World} {s : ByteArray} {b i : Nat} (h : RSc w s b i) (m : Nat) : RSc (w.drewN m) s b i := ⟨h.txt, h.pos, h.sz, h.le⟩

set_option maxRecDepth 100000 in
set_option maxHeartbeats 400000 in
theorem at_any (s : ByteArray) (b i k m : Nat) (w : World) (h : RSc w s b i) (hk : k ≤ 2097152) :
    Calls Tryz.prog 22 #[.pointer (some ⟨b, 0, none⟩), .int .i64 k] (w.drewN m) fun e w' => e = .returned (.int .u8 (atB (s.data.toList.drop i) k).toNat) ∧ ∃ m', w' = w.drewN m' := by
  have hs : ∀ m, (w.drewN m).cell? ⟨b, 0, none⟩ = some (.string s) := fun m => h.txt
  have ha : ∀ m, (w.drewN m).cell? ⟨b, 1, none⟩ = some (.int .i64 i) := fun m => h.pos
  have hz := h.sz
  have hi := h.le
  clear h
  have hsum : IntKind.i64.wrap ((i : Int) + k) = (i : Int) + k := IntWalk.i64_in _ (by omega)
  by_cases hlt : i + k < s.size
  · have hlz : (i : Int) + k < (s.size : Int) := by omega
    have hat := atB_drop' s i k hlt
    obtain ⟨x, hx⟩ : ∃ x : UInt8, s[i + k]'hlt = x := ⟨_, rfl⟩
    rw [hx] at hat
    rw [hat]; clear hat
    have hsn : ((i : Int) + k).toNat = i + k := by omega
    go_enter Tryz.func22, Tryz.ntmps22
    go_wp2_with fail
    go_quiet (fail)
    go_wp2_with fail
    go_quiet (fail)
    go_wp2_with fail
    go_ret
    exact ⟨rfl, _, by simp only [World.drewN_drewN]; rfl⟩
  · have hlz : decide ((i : Int) + k < (s.size : Int)) = false := by simp; omega
    rw [atB_none' s i k hlt]
    go_enter Tryz.func22, Tryz.ntmps22
    go_wp2_with fail
    go_quiet (fail)
    go_wp2_with fail
    go_ret
    exact ⟨rfl, _, by simp only [World.drewN_drewN]; rfl⟩

end Go.Proofs.YtcogfalhodjmfaaGreatDoor
