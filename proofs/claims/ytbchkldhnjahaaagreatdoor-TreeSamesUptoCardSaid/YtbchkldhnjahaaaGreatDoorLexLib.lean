/- Library functions that the scanner calls, where the shelf has no contract: strings.IndexRune at a rune that is no ASCII, strings.ContainsAny on short texts, strconv.ParseUint at base 10 and 16. -/
import Derived.Test.YtbchkldhnjahaaaGreatDoorLexA
import Derived.Lib.OthersKept
import Derived.Lib.TrimU
import Derived.Lib.DecodeN
import Derived.Laws.Runes
import Derived.Laws.RangeString
import Derived.Deep.LoopGhost
import Derived.Lib.IndexAny
namespace Go.Proofs.YtbchkldhnjahaaaGreatDoor
open Go.RowKit Kiln
open Go.Proofs

theorem indexByte_far {l : List UInt8} {x : UInt8} (h : ∀ b ∈ l, b.toNat < 128) (hx : 128 ≤ x.toNat) : Lib.indexByte l x = -1 := by
  have h1 : l.contains x = false := by
    rw [← Bool.not_eq_true, List.contains_iff_mem]; intro hm; have := h x hm; omega
  have h2 := Lib.indexByte_ge l x
  rw [indexByte_contains] at h1
  simp at h1; omega

theorem byte_ascii {s : ByteArray} (h : ∀ b ∈ s.data.toList, b.toNat < 128) (i : Nat) (hi : i < s.size) : (s[i]'hi).toNat < 128 :=
  h _ (List.mem_of_getElem? (Lib.data_getElem? s i hi))

set_option maxRecDepth 100000 in
set_option maxHeartbeats 1000000 in
theorem indexRune_far (s : ByteArray) (h3 : s.size = 3) (hasc : ∀ b ∈ s.data.toList, b.toNat < 128) (r : Int) (hr : 128 ≤ r) (hr2 : r ≤ 1114111) (hne : (r == 65533) = false) (w : World) :
    Calls Tryz.prog 230 #[.string s, .int .i32 r] w fun e w' => e = .returned (.int .i64 (-1)) ∧ Below w.heap.size w w' := by
  have HA := Lib.hid hasc; clear hasc
  cases hv : Lib.validRune r
  · go_enter Tryz.func230, Tryz.ntmps230
    go_wp2_with (go_at_call 266; refine (Tryz.utf8_ValidRune _ _).mono ?_; rintro e w' ⟨rfl, hw⟩; rw [hw, hv])
    go_ret
    exact ⟨rfl, Below.refl _ _⟩
  · go_enter Tryz.func230, Tryz.ntmps230
    go_wp2_with (go_at_call 266; refine (Tryz.utf8_ValidRune _ _).mono ?_; rintro e w' ⟨rfl, hw⟩; rw [hw, hv])
    have hu : Utf8.valid r = true := by
      rw [Go.validRune_eq]; simpa [Go.validRune, Lib.validRune] using hv
    obtain ⟨hR2, hR4, hRl⟩ := encode_facts r hu hr
    obtain ⟨R, hR⟩ : ∃ R, Utf8.encode r = R := ⟨_, rfl⟩
    rw [hR] at hR2 hR4 hRl
    go_step3
    have hc : R.size = 2 ∨ R.size = 3 ∨ R.size = 4 := by omega
    rcases hc with hc | hc | hc
    · obtain ⟨x, hx⟩ : ∃ x, R[1]'(by omega) = x := ⟨_, rfl⟩
      obtain ⟨y, hy⟩ : ∃ y, s[1]'(by omega) = y := ⟨_, rfl⟩
      have hxl : 128 ≤ x.toNat := by have := hRl (by omega); simp only [hc] at this; rw [← hx]; exact this
      have hyl : y.toNat < 128 := by rw [← hy]; exact byte_ascii HA.out 1 _
      have hne : ((y.toNat : Int) != (x.toNat : Int)) = true := by rw [bne_iff_ne]; omega
      have hin : ∀ a b : Nat, Lib.indexByte ((s.data.toList.drop a).take b) x = -1 := fun a b => indexByte_far (fun c hb => HA.out c (List.mem_of_mem_drop (List.mem_of_mem_take hb))) hxl
      clear hRl
      go_wp2_with fail
      refine wp_loop_rounds 1 ?_
      rw [rounds_succ]
      go_wp2_with fail
      go_step3
      go_wp2_with fail
      go_quiet (fail)
      go_wp2_with fail
      go_quiet ((go_at_call 78; exact quietR2 (Tryz.strings_IndexByte _ _ _)))
      go_wp2_with fail
      simp only [Exit.noGoto_ret, Exit.inBlock, Exit.then]
      go_ret
      exact ⟨rfl, below_drewN (Below.refl _ _) _⟩
    · obtain ⟨x, hx⟩ : ∃ x, R[2]'(by omega) = x := ⟨_, rfl⟩
      obtain ⟨y, hy⟩ : ∃ y, s[2]'(by omega) = y := ⟨_, rfl⟩
      have hxl : 128 ≤ x.toNat := by have := hRl (by omega); simp only [hc] at this; rw [← hx]; exact this
      have hyl : y.toNat < 128 := by rw [← hy]; exact byte_ascii HA.out 2 _
      have hne : ((y.toNat : Int) != (x.toNat : Int)) = true := by rw [bne_iff_ne]; omega
      have hin : ∀ a b : Nat, Lib.indexByte ((s.data.toList.drop a).take b) x = -1 := fun a b => indexByte_far (fun c hb => HA.out c (List.mem_of_mem_drop (List.mem_of_mem_take hb))) hxl
      clear hRl
      go_wp2_with fail
      refine wp_loop_rounds 1 ?_
      rw [rounds_succ]
      go_wp2_with fail
      go_step3
      go_wp2_with fail
      go_quiet (fail)
      go_wp2_with fail
      go_quiet ((go_at_call 78; exact quietR2 (Tryz.strings_IndexByte _ _ _)))
      go_wp2_with fail
      simp only [Exit.noGoto_ret, Exit.inBlock, Exit.then]
      go_ret
      exact ⟨rfl, below_drewN (Below.refl _ _) _⟩
    · go_wp2_with fail
      refine wp_loop_rounds 1 ?_
      rw [rounds_succ]
      go_wp2_with fail
      rw [Exit.noGoto_ret]
      go_ret
      exact ⟨rfl, Below.refl _ _⟩

set_option maxRecDepth 100000 in
set_option maxHeartbeats 1000000 in
theorem indexRune_err (s : ByteArray) (hasc : ∀ b ∈ s.data.toList, b.toNat < 128) (w : World) :
    Calls Tryz.prog 230 #[.string s, .int .i32 65533] w fun e w' => e = .returned (.int .i64 (-1)) ∧ Below w.heap.size w w' := by
  have HA := Lib.hid hasc; clear hasc
  go_enter Tryz.func230, Tryz.ntmps230
  go_wp2_with fail
  go_loopg [] s.size (fun g wx => ∃ i : Nat, i + g = s.size ∧ wx = w.iter s i)
  case atStart => exact ⟨0, by omega, rfl⟩
  case round =>
    obtain ⟨i, hig, rfl⟩ := hrel
    cases gk with
    | zero =>
      obtain rfl : i = s.size := by omega
      have hnx := run_next_end (P := Tryz.prog) w s s.size
      go_wp2
      go_ret
      exact ⟨rfl, (Below.refl _ w).alloc (Nat.le_refl _) _⟩
    | succ g =>
      have hi : i < s.size := by omega
      obtain ⟨x, hx⟩ : ∃ x : UInt8, s[i]'hi = x := ⟨_, rfl⟩
      have hx128 : x.toNat < 128 := by rw [← hx]; exact byte_ascii HA.out i _
      have hnx := fun ty => run_next_ascii (P := Tryz.prog) w s i ty hi (by rw [hx]; exact hx128)
      rw [hx] at hnx
      clear hx
      go_wp2
      go_roundg g
      case measure => omega
      case rel => exact ⟨i + 1, by omega, rfl⟩

theorem decodeN_far (n b0 b1 b2 b3 : Nat) (h : 128 ≤ b0) : 128 ≤ (Lib.decodeN n b0 b1 b2 b3).1 := by
  unfold Lib.decodeN
  repeat' split
  all_goals (try simp only [])
  all_goals omega

theorem decode_far (s : ByteArray) (i : Nat) (hi : i < s.size) (h : 128 ≤ (s[i]'hi).toNat) : 128 ≤ (Utf8.decode s i).1 := by
  rw [Lib.decode_at]
  refine decodeN_far _ _ _ _ _ ?_
  have e : s.get! i = s[i]'hi := by
    simp only [ByteArray.get!, ByteArray.getElem_eq_getElem_data]
    exact getElem!_pos s.data i hi
  rw [e]; exact h

theorem decode_near (s : ByteArray) (i : Nat) (hi : i < s.size) (h : (s[i]'hi).toNat < 128) : (Utf8.decode s i).1 = (s[i]'hi).toNat := by
  rw [Lib.decode_at]
  have e : s.get! i = s[i]'hi := by
    simp only [ByteArray.get!, ByteArray.getElem_eq_getElem_data]
    exact getElem!_pos s.data i hi
  rw [e, Lib.decodeN, if_pos h]

theorem indexRune_any (c : ByteArray) (h3 : c.size = 3) (hasc : ∀ b ∈ c.data.toList, b.toNat < 128) (R : Nat) (hR : R ≤ 1114111) (w : World) :
    Calls Tryz.prog 230 #[.string c, .int .i32 R] w fun e w' => e = .returned (.int .i64 (if R < 128 then Lib.indexByte c.data.toList R.toUInt8 else -1)) ∧ Below w.heap.size w w' := by
  by_cases h : R < 128
  · rw [if_pos h]
    exact (Tryz.strings_IndexRune_ascii c R w (by omega) (by omega)).mono fun e w' hh => ⟨hh.1, hh.2 ▸ Below.refl _ _⟩
  · rw [if_neg h]
    by_cases h2 : R = 65533
    · subst h2; exact indexRune_err c hasc w
    · exact indexRune_far c h3 hasc R (by omega) (by omega) (by rw [beq_eq_false_iff_ne]; omega) w

/-- some byte of c stands in s, if the answer is not below 0 -/
def IxPost (s c : ByteArray) (w : World) (e : Ending) (w' : World) : Prop :=
  ∃ r : Int, e = .returned (.int .i64 r) ∧ (0 ≤ r → ∃ b ∈ s.data.toList, b ∈ c.data.toList) ∧ Below w.heap.size w w'

set_option maxRecDepth 100000 in
set_option maxHeartbeats 1000000 in
theorem indexAny_short (s c : ByteArray) (h8 : s.size ≤ 8) (h3 : c.size = 3) (hasc : ∀ b ∈ c.data.toList, b.toNat < 128) (w : World) :
    Calls Tryz.prog 189 #[.string s, .string c] w (IxPost s c w) := by
  have HA := Lib.hid hasc; clear hasc
  have hemp : c.toList.isEmpty = false := by
    rw [Lib.toList_data]
    cases h : c.data.toList with
    | nil => have := Lib.size_eq c; rw [h, List.length_nil] at this; omega
    | cons _ _ => rfl
  have hn1 : ((c.size : Int) == 1) = false := beq_eq_false_iff_ne.2 (by omega)
  have h8z : decide ((8 : Int) < (s.size : Int)) = false := decide_eq_false (by omega)
  go_enter Tryz.func189, Tryz.ntmps189
  go_wp2_with (go_at_call 231; refine (Tryz.strings_shouldUseASCIISet _ _).mono ?_; rintro e w' ⟨rfl, hw⟩; rw [hw, h8z])
  go_loopg [9, 10] s.size (fun g _ _ wx => ∃ pos : Nat, wx.heap[w.heap.size]? = some (.stringIter s pos) ∧ Below w.heap.size w wx ∧ s.size ≤ pos + g)
  case atStart => exact ⟨0, World.iter_heap w s 0, (Below.refl _ w).alloc (Nat.le_refl _) _, by omega⟩
  case round =>
    obtain ⟨pos, hit, hbw, hfu⟩ := hrel
    by_cases hps : pos < s.size
    · obtain ⟨g', rfl⟩ : ∃ g', gk = g' + 1 := ⟨gk - 1, by omega⟩
      have hnx : ∀ ty, (Instr.next (.pointer (some ⟨w.heap.size, 0, none⟩)) true ty).run Tryz.prog wr = _ := fun ty => Lib.run_next_any_at wr w.heap.size s pos ty hit hps
      have hwd := Lib.width_pos s pos
      have hfar := decode_far s pos hps
      obtain ⟨R, hR⟩ : ∃ R, (Utf8.decode s pos).1 = R := ⟨_, rfl⟩
      obtain ⟨K, hK⟩ : ∃ K, (Utf8.decode s pos).2 = K := ⟨_, rfl⟩
      rw [hR, hK] at hnx
      rw [hK] at hwd
      rw [hR] at hfar
      have hit2 := Lib.iterAt_heap wr w.heap.size s pos (pos + K) hit
      have hbw2 := Lib.below_iterAt hbw (k := w.heap.size) (Nat.le_refl _) s (pos + K)
      obtain ⟨W, hWd⟩ : ∃ W, wr.iterAt w.heap.size s (pos + K) = W := ⟨_, rfl⟩
      rw [hWd] at hnx hit2 hbw2
      have hltW : w.heap.size < W.heap.size := (Array.getElem?_eq_some_iff.1 hit2).1
      have hle : R ≤ 1114111 := by rw [← hR]; exact Lib.rune_le s pos
      have hgo : 0 ≤ (if R < 128 then Lib.indexByte c.data.toList R.toUInt8 else -1) → ∃ b ∈ s.data.toList, b ∈ c.data.toList := by
        intro h0
        by_cases hx : (s[pos]'hps).toNat < 128
        · have e := decode_near s pos hps hx
          rw [hR] at e
          rw [e, if_pos hx] at h0
          have hmem : (s[pos]'hps) ∈ s.data.toList := List.mem_of_getElem? (Lib.data_getElem? s pos hps)
          refine ⟨_, hmem, ?_⟩
          have h2 := indexByte_contains c.data.toList (s[pos]'hps)
          have e2 : (s[pos]'hps).toNat.toUInt8 = s[pos]'hps := by simp
          rw [e2] at h0
          rw [← List.contains_iff_mem, h2]; simpa using h0
        · rw [if_neg (by have := hfar (by omega); omega)] at h0; omega
      obtain ⟨V, hV⟩ : ∃ V : Int, (if R < 128 then Lib.indexByte c.data.toList R.toUInt8 else -1) = V := ⟨_, rfl⟩
      rw [hV] at hgo
      have hcall := indexRune_any c h3 HA.out R hle W
      rw [hV] at hcall
      have HC := Lib.hid hcall; clear hcall hfar hV hR hK hit
      have HG := Lib.hid hgo; clear hgo
      by_cases hv : 0 ≤ V
      · go_wp2_with (go_at_call 230; refine (HC.out).mono ?_; rintro e W' ⟨rfl, hbc⟩)
        go_ret
        exact ⟨_, rfl, fun _ => HG.out hv, hbw2.trans (hbc.mono hbw2.size)⟩
      · go_wp2_with (go_at_call 230; refine (HC.out).mono ?_; rintro e W' ⟨rfl, hbc⟩)
        go_roundg g'
        case measure => omega
        case rel => exact ⟨pos + K, (hbc.block _ hltW).trans hit2, (hbw2.trans (hbc.mono hbw2.size)), by omega⟩
    · have hnx : ∀ ty, (Instr.next (.pointer (some ⟨w.heap.size, 0, none⟩)) true ty).run Tryz.prog wr = _ := fun ty => Lib.run_next_end_at wr w.heap.size s pos ty hit hps
      go_wp2
      go_ret
      exact ⟨_, rfl, fun h => absurd h (by decide), hbw⟩

/-- strings.ContainsAny at a text of at most 8 bytes, three ASCII signs: true only where one of them stands there -/
def CaPost (s c : ByteArray) (w : World) (e : Ending) (w' : World) : Prop :=
  ∃ r : Bool, e = .returned (.bool r) ∧ (r = true → ∃ b ∈ s.data.toList, b ∈ c.data.toList) ∧ Below w.heap.size w w'

set_option maxRecDepth 100000 in
set_option maxHeartbeats 1000000 in
theorem containsAny_short (s c : ByteArray) (h8 : s.size ≤ 8) (h3 : c.size = 3) (hasc : ∀ b ∈ c.data.toList, b.toNat < 128) (w : World) :
    Calls Tryz.prog 154 #[.string s, .string c] w (CaPost s c w) := by
  have HC := Lib.hid (indexAny_short s c h8 h3 hasc w)
  clear h3 hasc h8
  go_enter Tryz.func154, Tryz.ntmps154
  go_wp2_with (go_at_call 189; refine (HC.out).mono ?_; rintro e W' ⟨r, rfl, hr, hb⟩; have HR := Lib.hid hr; clear hr)
  go_ret
  exact ⟨_, rfl, fun h => HR.out (by simpa using h), hb⟩

end Go.Proofs.YtbchkldhnjahaaaGreatDoor