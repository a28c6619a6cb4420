/- strconv.ParseUint at base 10 and 16, 16 bits, short texts: the number, or an error. -/
import Derived.Test.YtbchkldhnjahaaaGreatDoorLexLib
import Derived.Lib.ConvBytes
namespace Go.Proofs.YtbchkldhnjahaaaGreatDoor
open Go.RowKit Kiln
open Go.Proofs

/-- what '[]byte(s)' leaves -/
theorem conv_bytes (s : ByteArray) (w : World) : ∃ C W, (convert 9 129 (.string s)).run Tryz.prog w = .ok (.slice (some ⟨w.heap.size, 0, none⟩) s.size C) W ∧
    (∀ j (hj : j < s.size), W.cell? ⟨w.heap.size, j, none⟩ = some (.int .u8 (s[j]'hj).toNat)) ∧ Below w.heap.size w W := by
  refine ⟨_, _, Lib.run_convert_string_bytes w _ _ 5 s (u := .string) (by kernel_rfl) (by kernel_rfl) (by kernel_rfl), ?_, ?_⟩
  · intro j hj
    rw [Lib.bytesWorld_cell w _ s j hj, List.getD_eq_getElem?_getD, Lib.data_getElem? s j hj]; rfl
  · refine ⟨?_, ?_, ?_, by rw [Lib.bytesWorld_size]; omega, fun k hk => Lib.bytesWorld_at_old w _ s k hk⟩
    all_goals (unfold Lib.bytesWorld World.freeze; rw [if_neg (by decide)]; rfl)

/-- what the inner ParseUint returns -/
def PuPost (base : Nat) (s : ByteArray) (w : World) (e : Ending) (w' : World) : Prop :=
  Below w.heap.size w w' ∧ match numVal base 0 s.data.toList with
  | some v => e = .returned (.tuple #[.int .u64 v, .nilIface])
  | none => e = .returned (.tuple #[.int .u64 0, .iface 199 (.int .i64 2)])

theorem lower_or : ∀ x : UInt8, bits .or .u8 x.toNat 32 = ((x ||| 32).toNat : Int) := by
  have h : ∀ n : Fin 256, bits .or .u8 (UInt8.ofNat n.val).toNat 32 = ((UInt8.ofNat n.val ||| 32).toNat : Int) := by decide +kernel
  intro x
  have := h ⟨x.toNat, x.toNat_lt⟩
  simpa using this

/-- the digits' values, as the loop reckons them -/
theorem dig_cases : ∀ x : UInt8, (48 ≤ x.toNat ∧ x.toNat ≤ 57 ∧ digVal x = x.toNat - 48) ∨
    ((x.toNat < 48 ∨ 57 < x.toNat) ∧ 97 ≤ (x ||| 32).toNat ∧ (x ||| 32).toNat ≤ 122 ∧ digVal x = (x ||| 32).toNat - 87 ∧ x.toNat ≠ 95) ∨
    ((x.toNat < 48 ∨ 57 < x.toNat) ∧ ((x ||| 32).toNat < 97 ∨ 122 < (x ||| 32).toNat) ∧ digVal x = 255) := by
  have h : ∀ n : Fin 256, (48 ≤ (UInt8.ofNat n.val).toNat ∧ (UInt8.ofNat n.val).toNat ≤ 57 ∧ digVal (UInt8.ofNat n.val) = (UInt8.ofNat n.val).toNat - 48) ∨
    (((UInt8.ofNat n.val).toNat < 48 ∨ 57 < (UInt8.ofNat n.val).toNat) ∧ 97 ≤ (UInt8.ofNat n.val ||| 32).toNat ∧ (UInt8.ofNat n.val ||| 32).toNat ≤ 122 ∧ digVal (UInt8.ofNat n.val) = (UInt8.ofNat n.val ||| 32).toNat - 87 ∧ (UInt8.ofNat n.val).toNat ≠ 95) ∨
    (((UInt8.ofNat n.val).toNat < 48 ∨ 57 < (UInt8.ofNat n.val).toNat) ∧ ((UInt8.ofNat n.val ||| 32).toNat < 97 ∨ 122 < (UInt8.ofNat n.val ||| 32).toNat) ∧ digVal (UInt8.ofNat n.val) = 255) := by decide +kernel
  intro x
  have := h ⟨x.toNat, x.toNat_lt⟩
  simpa using this

/-- behind k digits the number is n -/
def NumAt (base : Nat) (s : ByteArray) (k n : Nat) : Prop := numVal base 0 s.data.toList = numVal base n (s.data.toList.drop k) ∧ n + 1 ≤ 16 ^ k

theorem numAt_zero (base : Nat) (s : ByteArray) : NumAt base s 0 0 := ⟨rfl, by simp⟩

theorem NumAt.small {base : Nat} {s : ByteArray} {k n : Nat} (h : NumAt base s k n) (hk : k ≤ 3) : n ≤ 4095 := by
  have h1 : 16 ^ k ≤ 16 ^ 3 := Nat.pow_le_pow_right (by omega) hk
  have := h.2
  simp at h1; omega

theorem NumAt.step {base : Nat} {s : ByteArray} {k n : Nat} {x : UInt8} (h : NumAt base s k n) (hb : base ≤ 16) (hk : k < s.size) (hx : s[k]'hk = x) (hd : digVal x < base) : NumAt base s (k + 1) (n * base + digVal x) := by
  refine ⟨?_, ?_⟩
  · rw [h.1, cell_u8 s k hk, hx, numVal, if_pos hd]
  · have h1 := h.2
    have h2 : n * base ≤ n * 16 := Nat.mul_le_mul_left _ hb
    rw [Nat.pow_succ]; omega

theorem NumAt.bad {base : Nat} {s : ByteArray} {k n : Nat} {x : UInt8} (h : NumAt base s k n) (hk : k < s.size) (hx : s[k]'hk = x) (hd : ¬ digVal x < base) : numVal base 0 s.data.toList = none := by
  rw [h.1, cell_u8 s k hk, hx, numVal, if_neg hd]

theorem NumAt.last {base : Nat} {s : ByteArray} {k n : Nat} (h : NumAt base s k n) (hk : ¬ k < s.size) : numVal base 0 s.data.toList = some n := by
  rw [h.1, List.drop_of_length_le (by rw [← Lib.size_eq]; omega)]; rfl

theorem pu_bad {base : Nat} {s : ByteArray} {w w' : World} (h : numVal base 0 s.data.toList = none) (hb : Below w.heap.size w w') :
    PuPost base s w (.returned (.tuple #[.int .u64 0, .iface 199 (.int .i64 2)])) w' := by
  refine ⟨hb, ?_⟩; rw [h]
theorem pu_good {base v : Nat} {s : ByteArray} {w w' : World} (h : numVal base 0 s.data.toList = some v) (hb : Below w.heap.size w w') :
    PuPost base s w (.returned (.tuple #[.int .u64 v, .nilIface])) w' := by
  refine ⟨hb, ?_⟩; rw [h]
theorem val_int {k : IntKind} {a b : Int} (h : a = b) : Value.int k a = .int k b := by rw [h]

set_option maxRecDepth 100000 in
set_option maxHeartbeats 2000000 in
theorem parseUint_10 (s : ByteArray) (h0 : 0 < s.size) (h4 : s.size ≤ 4) (w : World) :
    Calls Tryz.prog 190 #[.string s, .int .i64 10, .int .i64 16] w (PuPost 10 s w) := by
  have hemp : s.toList.isEmpty = false := by
    rw [Lib.toList_data]
    cases h : s.data.toList with
    | nil => have := Lib.size_eq s; rw [h, List.length_nil] at this; omega
    | cons _ _ => rfl
  obtain ⟨C, W, hconv, hcell, hbel⟩ := conv_bytes s w
  have HC := Lib.hid hcell; clear hcell
  go_enter Tryz.func190, Tryz.ntmps190
  go_wp2_with fail
  obtain ⟨cut, hcut⟩ : ∃ c : Int, c = 1844674407370955162 := ⟨_, rfl⟩
  rw [← hcut]
  have hcut2 : 5000 ≤ cut := by omega
  clear hcut
  go_loop [12, 13, 101] (fun u v i => u = .bool false ∧ ∃ k n : Nat, i = .int .i64 k ∧ v = .int .u64 n ∧ k ≤ s.size ∧ NumAt 10 s k n) (fun _ _ i => s.size - (intOf i).toNat)
  case atStart => exact ⟨rfl, 0, 0, rfl, rfl, Nat.zero_le _, numAt_zero _ s⟩
  case round =>
    obtain ⟨rfl, k, n, rfl, rfl, hk, hat⟩ := hrel
    have HAt := Lib.hid hat
    by_cases hlt : k < s.size
    · obtain ⟨x, hx⟩ : ∃ x : UInt8, s[k]'hlt = x := ⟨_, rfl⟩
      have hc := HC.out k hlt
      rw [hx] at hc
      have hn := hat.small (by omega)
      clear hat
      have hq := lower_or x
      have Hx := Lib.hid hx; clear hx
      generalize hqq : (x ||| 32).toNat = q at hq
      have Hd := Lib.hid (dig_cases x)
      rw [hqq] at Hd
      have hx256 := x.toNat_lt
      have hq256 := (x ||| 32).toNat_lt
      rw [hqq] at hq256
      clear hqq
      rcases Hd.out with ⟨h1, h2, hd⟩ | ⟨h1, h2, h3, hd, h95⟩ | ⟨h1, h2, hd⟩
      · clear hq
        have HD := Lib.hid hd; clear hd Hd
        by_cases hlow : x.toNat - 48 < 10
        · go_wp2_with (go_at_call 234; refine (Tryz.internal_strconv_lower _ _).mono ?_; rintro e w' ⟨rfl, rfl⟩)
          go_round
          case rel => exact ⟨rfl, k + 1, n * 10 + digVal x, by go_num, val_int (by have := HD.out; omega), by omega, HAt.out.step (by omega) hlt Hx.out (by have := HD.out; omega)⟩
          case measure => simp [intOf]; omega
        · exfalso; omega
      · have HD := Lib.hid hd; clear hd Hd
        rcases h1 with h1 | h1
        all_goals
          by_cases hlow : q - 87 < 10
          · first
              | (exfalso; omega)
              | (go_wp2_with (go_at_call 234; refine (Tryz.internal_strconv_lower _ _).mono ?_; rintro e w' ⟨rfl, rfl⟩)
                 go_round
                 case rel => exact ⟨rfl, k + 1, n * 10 + digVal x, by go_num, val_int (by have := HD.out; omega), by omega, HAt.out.step (by omega) hlt Hx.out (by have := HD.out; omega)⟩
                 case measure => simp [intOf]; omega)
          · have HB := Lib.hid (HAt.out.bad hlt Hx.out (by have := HD.out; omega))
            go_wp2_with (go_at_call 234; refine (Tryz.internal_strconv_lower _ _).mono ?_; rintro e w' ⟨rfl, rfl⟩)
            go_ret2
            exact pu_bad HB.out hbel
      · have HB := Lib.hid (HAt.out.bad hlt Hx.out (by omega))
        clear hd Hd
        rcases h1 with h1 | h1 <;> rcases h2 with h2 | h2
        all_goals
          go_wp2_with (go_at_call 234; refine (Tryz.internal_strconv_lower _ _).mono ?_; rintro e w' ⟨rfl, rfl⟩)
          all_goals
            go_ret2
            exact pu_bad HB.out hbel
    · have HG := Lib.hid (hat.last hlt); clear hat
      go_wp2_with fail
      go_ret2
      exact pu_good HG.out hbel

set_option maxRecDepth 100000 in
set_option maxHeartbeats 2000000 in
theorem parseUint_16 (s : ByteArray) (h0 : 0 < s.size) (h4 : s.size ≤ 4) (w : World) :
    Calls Tryz.prog 190 #[.string s, .int .i64 16, .int .i64 16] w (PuPost 16 s w) := by
  have hemp : s.toList.isEmpty = false := by
    rw [Lib.toList_data]
    cases h : s.data.toList with
    | nil => have := Lib.size_eq s; rw [h, List.length_nil] at this; omega
    | cons _ _ => rfl
  obtain ⟨C, W, hconv, hcell, hbel⟩ := conv_bytes s w
  have HC := Lib.hid hcell; clear hcell
  go_enter Tryz.func190, Tryz.ntmps190
  go_wp2_with fail
  obtain ⟨cut, hcut⟩ : ∃ c : Int, c = 1152921504606846976 := ⟨_, rfl⟩
  rw [← hcut]
  have hcut2 : 5000 ≤ cut := by omega
  clear hcut
  go_loop [12, 13, 101] (fun u v i => u = .bool false ∧ ∃ k n : Nat, i = .int .i64 k ∧ v = .int .u64 n ∧ k ≤ s.size ∧ NumAt 16 s k n) (fun _ _ i => s.size - (intOf i).toNat)
  case atStart => exact ⟨rfl, 0, 0, rfl, rfl, Nat.zero_le _, numAt_zero _ s⟩
  case round =>
    obtain ⟨rfl, k, n, rfl, rfl, hk, hat⟩ := hrel
    have HAt := Lib.hid hat
    by_cases hlt : k < s.size
    · obtain ⟨x, hx⟩ : ∃ x : UInt8, s[k]'hlt = x := ⟨_, rfl⟩
      have hc := HC.out k hlt
      rw [hx] at hc
      have hn := hat.small (by omega)
      clear hat
      have hq := lower_or x
      have Hx := Lib.hid hx; clear hx
      generalize hqq : (x ||| 32).toNat = q at hq
      have Hd := Lib.hid (dig_cases x)
      rw [hqq] at Hd
      have hx256 := x.toNat_lt
      have hq256 := (x ||| 32).toNat_lt
      rw [hqq] at hq256
      clear hqq
      rcases Hd.out with ⟨h1, h2, hd⟩ | ⟨h1, h2, h3, hd, h95⟩ | ⟨h1, h2, hd⟩
      · clear hq
        have HD := Lib.hid hd; clear hd Hd
        by_cases hlow : x.toNat - 48 < 16
        · go_wp2_with (go_at_call 234; refine (Tryz.internal_strconv_lower _ _).mono ?_; rintro e w' ⟨rfl, rfl⟩)
          go_round
          case rel => exact ⟨rfl, k + 1, n * 16 + digVal x, by go_num, val_int (by have := HD.out; omega), by omega, HAt.out.step (by omega) hlt Hx.out (by have := HD.out; omega)⟩
          case measure => simp [intOf]; omega
        · exfalso; omega
      · have HD := Lib.hid hd; clear hd Hd
        rcases h1 with h1 | h1
        all_goals
          by_cases hlow : q - 87 < 16
          · first
              | (exfalso; omega)
              | (go_wp2_with (go_at_call 234; refine (Tryz.internal_strconv_lower _ _).mono ?_; rintro e w' ⟨rfl, rfl⟩)
                 go_round
                 case rel => exact ⟨rfl, k + 1, n * 16 + digVal x, by go_num, val_int (by have := HD.out; omega), by omega, HAt.out.step (by omega) hlt Hx.out (by have := HD.out; omega)⟩
                 case measure => simp [intOf]; omega)
          · have HB := Lib.hid (HAt.out.bad hlt Hx.out (by have := HD.out; omega))
            go_wp2_with (go_at_call 234; refine (Tryz.internal_strconv_lower _ _).mono ?_; rintro e w' ⟨rfl, rfl⟩)
            go_ret2
            exact pu_bad HB.out hbel
      · have HB := Lib.hid (HAt.out.bad hlt Hx.out (by omega))
        clear hd Hd
        rcases h1 with h1 | h1 <;> rcases h2 with h2 | h2
        all_goals
          go_wp2_with (go_at_call 234; refine (Tryz.internal_strconv_lower _ _).mono ?_; rintro e w' ⟨rfl, rfl⟩)
          all_goals
            go_ret2
            exact pu_bad HB.out hbel
    · have HG := Lib.hid (hat.last hlt); clear hat
      go_wp2_with fail
      go_ret2
      exact pu_good HG.out hbel

end Go.Proofs.YtbchkldhnjahaaaGreatDoor
