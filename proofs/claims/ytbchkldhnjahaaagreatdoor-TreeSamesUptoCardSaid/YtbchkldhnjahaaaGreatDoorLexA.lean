/- The leaves of the package lex: kinds of bytes, run, starts: what each call returns; the world stays. Conditions: those of each theorem. -/
import Derived.Test.YtbchkldhnjahaaaGreatDoorRows
import Derived.Test.YtbchkldhnjahaaaGreatDoorShelf
import Derived.Test.YtbchkldhnjahaaaGreatDoorLexSpec
import Derived.WalkKit
import Derived.WalkSpells
import Derived.WalkLawsBesides
import Derived.BigQuiet
import Derived.Deep.QuietTactic
import Derived.Lib.Hide
import Derived.Lib.IndexBytes
namespace Go.Proofs.YtbchkldhnjahaaaGreatDoor
open Go.RowKit Kiln
open Go.Proofs

/- a call inside a region that draws: the caller's world on the left (L) or on the right (R); '2': behind an earlier region -/
theorem quietL {P : Program} {f : FuncId} {args : Array Value} {w : World} {n : Nat} {v : Value}
    (h : Calls P f args (w.drewN n) fun e x => e = .returned v ∧ w.drewN n = x) : Calls P f args (w.drewN n) fun e x => e = .returned v ∧ ∃ m, x = w.drewN m :=
  h.mono fun _ _ hh => ⟨hh.1, n, hh.2.symm⟩
theorem quietR {P : Program} {f : FuncId} {args : Array Value} {w : World} {n : Nat} {v : Value}
    (h : Calls P f args (w.drewN n) fun e x => e = .returned v ∧ x = w.drewN n) : Calls P f args (w.drewN n) fun e x => e = .returned v ∧ ∃ m, x = w.drewN m :=
  h.mono fun _ _ hh => ⟨hh.1, n, hh.2⟩
theorem quietL2 {P : Program} {f : FuncId} {args : Array Value} {w : World} {a n : Nat} {v : Value}
    (h : Calls P f args (w.drewN (a + n)) fun e x => e = .returned v ∧ w.drewN (a + n) = x) : Calls P f args (w.drewN (a + n)) fun e x => e = .returned v ∧ ∃ m, x = w.drewN (a + m) :=
  h.mono fun _ _ hh => ⟨hh.1, n, hh.2.symm⟩
theorem quietR2 {P : Program} {f : FuncId} {args : Array Value} {w : World} {a n : Nat} {v : Value}
    (h : Calls P f args (w.drewN (a + n)) fun e x => e = .returned v ∧ x = w.drewN (a + n)) : Calls P f args (w.drewN (a + n)) fun e x => e = .returned v ∧ ∃ m, x = w.drewN (a + m) :=
  h.mono fun _ _ hh => ⟨hh.1, n, hh.2⟩
theorem ret_int {k : IntKind} {a b : Int} (h : a = b) : Ending.returned (.int k a) = .returned (.int k b) := by rw [h]
theorem ret_bool {a b : Bool} (h : a = b) : Ending.returned (.bool a) = .returned (.bool b) := by rw [h]

set_option maxHeartbeats 400000 in
theorem blank_any (c : Int) (w : World) : Calls Tryz.prog 23 #[.int .u8 c] w fun e w' => e = .returned (.bool (blankI c)) ∧ w = w' := by
  go_enter Tryz.func23, Tryz.ntmps23
  go_wp2
  all_goals (go_ret; exact ⟨by simp_all [blankI], rfl⟩)

set_option maxHeartbeats 400000 in
theorem digit_any (c : Int) (w : World) : Calls Tryz.prog 42 #[.int .u8 c] w fun e w' => e = .returned (.bool (digitI c)) ∧ w = w' := by
  go_enter Tryz.func42, Tryz.ntmps42
  go_wp2
  all_goals (go_ret; exact ⟨by (try simp_all [digitI]) <;> omega, rfl⟩)

set_option maxHeartbeats 400000 in
theorem letter_any (c : Int) (w : World) : Calls Tryz.prog 40 #[.int .u8 c] w fun e w' => e = .returned (.bool (letterI c)) ∧ w = w' := by
  go_enter Tryz.func40, Tryz.ntmps40
  go_wp2
  all_goals (go_ret; exact ⟨by (try simp_all [letterI]) <;> omega, rfl⟩)

set_option maxHeartbeats 400000 in
theorem inWord_any (c : Int) (w : World) : Calls Tryz.prog 75 #[.int .u8 c] w fun e w' => e = .returned (.bool (wordI c)) ∧ w = w' := by
  go_enter Tryz.func75, Tryz.ntmps75
  go_wp2_with (first | (go_at_call 40; refine (letter_any _ _).mono ?_; rintro e w' ⟨rfl, rfl⟩) | (go_at_call 42; refine (digit_any _ _).mono ?_; rintro e w' ⟨rfl, rfl⟩))
  all_goals (go_ret; exact ⟨by simp_all [wordI], rfl⟩)

set_option maxHeartbeats 400000 in
theorem hex_any (c : Int) (w : World) : Calls Tryz.prog 77 #[.int .u8 c] w fun e w' => e = .returned (.bool (hexI c)) ∧ w = w' := by
  go_enter Tryz.func77, Tryz.ntmps77
  go_wp2_with (first | (go_at_call 42; refine (digit_any _ _).mono ?_; rintro e w' ⟨rfl, rfl⟩))
  all_goals (go_ret; exact ⟨by (try simp_all [hexI]) <;> omega, rfl⟩)

set_option maxHeartbeats 400000 in
theorem inSign_any (c : UInt8) (w : World) : Calls Tryz.prog 44 #[.int .u8 c.toNat] w fun e w' => e = .returned (.bool (signB c)) ∧ w = w' := by
  go_enter Tryz.func44, Tryz.ntmps44
  go_wp2_with (first | (go_at_call 78; refine (Tryz.strings_IndexByte _ _ _).mono ?_; rintro e w' ⟨rfl, rfl⟩))
  all_goals (go_ret; exact ⟨ret_bool (indexByte_contains signL c).symm, rfl⟩)

theorem cell_u8 (s : ByteArray) (k : Nat) (h : k < s.size) : s.data.toList.drop k = s[k] :: s.data.toList.drop (k + 1) := by
  obtain ⟨hlt, he⟩ := List.getElem?_eq_some_iff.1 (Lib.data_getElem? s k h)
  rw [List.drop_eq_getElem_cons hlt, he]

set_option maxRecDepth 100000 in
set_option maxHeartbeats 400000 in
theorem run_any (F : Nat) (p : UInt8 → Bool) (eg : ∀ (args : Array Value) (w : World), (callFunc F args).run Tryz.prog w = .ok (.enter F args) w) (hF : ∀ (c : UInt8) (w : World), Calls Tryz.prog F #[.int .u8 c.toNat] w fun e w' => e = .returned (.bool (p c)) ∧ w = w')
    (s : ByteArray) (b i : Nat) (w : World) (hs : w.cell? ⟨b, 0, none⟩ = some (.string s)) (hz : s.size ≤ maxLen) :
    Calls Tryz.prog 74 #[.pointer (some ⟨b, 0, none⟩), .int .i64 i, .func (.func F) #[] #[]] w fun e w' => e = .returned (.int .i64 (i + cntB p (s.data.toList.drop i) : Nat)) ∧ w = w' := by
  unfold maxLen at hz
  have HF := Lib.hid hF; clear hF
  go_enter Tryz.func74, Tryz.ntmps74
  go_wp2
  go_loop [1] (fun j => ∃ k : Nat, j = .int .i64 k ∧ i + cntB p (s.data.toList.drop i) = k + cntB p (s.data.toList.drop k)) (fun j => s.size - (intOf j).toNat)
  case atStart => exact ⟨i, rfl, rfl⟩
  case round =>
    obtain ⟨k, rfl, hk⟩ := hrel
    have Hk := Lib.hid hk; clear hk
    by_cases hlt : k < s.size
    · have hd := cell_u8 s k hlt
      have Hd := Lib.hid hd; clear hd
      go_wp2_with (first | ((with_reducible refine (HF.out _ _).mono ?_); rintro e w' ⟨rfl, rfl⟩))
      · go_round
        case rel => exact ⟨k + 1, by go_num, by rw [Hk.out, Hd.out]; simp only [cntB]; rw [if_pos (by assumption)]; omega⟩
        case measure => simp [intOf]; omega
      · go_ret
        have h0 : cntB p (s.data.toList.drop k) = 0 := by rw [Hd.out]; simp only [cntB]; rw [if_neg (by simp_all)]
        exact ⟨ret_int (by have := Hk.out; omega), rfl⟩
    · go_wp2
      go_ret
      have h0 : cntB p (s.data.toList.drop k) = 0 := by rw [List.drop_of_length_le (by rw [← Lib.size_eq]; omega)]; rfl
      exact ⟨ret_int (by have := Hk.out; omega), rfl⟩

set_option maxHeartbeats 400000 in
theorem starts_any (s p : ByteArray) (b i : Nat) (w : World) (hs : w.cell? ⟨b, 0, none⟩ = some (.string s)) (_hz : s.size ≤ maxLen) (hi : i ≤ s.size) :
    Calls Tryz.prog 24 #[.pointer (some ⟨b, 0, none⟩), .int .i64 i, .string p] w fun e w' => e = .returned (.bool (p.data.toList.isPrefixOf (s.data.toList.drop i))) ∧ w = w' := by
  unfold maxLen at _hz
  go_enter Tryz.func24, Tryz.ntmps24
  go_wp2_with (first | (go_at_call 39; refine (Tryz.strings_HasPrefix _ _ _).mono ?_; rintro e w' ⟨rfl, rfl⟩))
  go_ret
  exact ⟨ret_bool (by rw [List.take_of_length_le (by rw [List.length_drop, ← Lib.size_eq]; omega)]; rfl), rfl⟩

end Go.Proofs.YtbchkldhnjahaaaGreatDoor
