/- The reference's quoted: what the call returns. Conditions: those of each theorem. -/
import Derived.Test.YtcogfalhodjmfaaGreatDoorLexRT
import Derived.Test.YtcogfalhodjmfaaGreatDoorLexS
import Derived.Test.YtcogfalhodjmfaaGreatDoorLexPl
namespace Go.Proofs.YtcogfalhodjmfaaGreatDoor
open Go.RowKit Kiln
open Go.Proofs

def quotedO (kd : Nat) : Option (Bytes × Nat) → Rd
  | none => .error 42
  | some (t, n) => if kd = 7 ∧ t.length ≠ 1 then .error 42 else if 65536 < t.length then .error 2 else .ok (kd, t, [], n)
def quotedR (q kd : Nat) (L : Bytes) : Rd := quotedO kd (quotedC (L.drop (q + 1)) [] (q + 1))

theorem quotedC_n {s : ByteArray} {i q n : Nat} {t : Bytes} (hz : s.size ≤ 1048576) (hi : i ≤ s.size) (h : quotedC (s.data.toList.drop i) [] q = some (t, n)) : n ≤ q + 1048576 := by
  have := (quotedP_len _ _ _ _ h).2.1
  rw [List.length_drop, ← Lib.size_eq] at this; omega

theorem rt_none {b i0 q : Nat} {w : World} {r : Option (Bytes × Nat)} (hr : r = none) (h : Calls Tryz.prog 65 #[.pointer (some ⟨b, 0, none⟩), .int .i64 q] w (RTPost r i0 w)) :
    Calls Tryz.prog 65 #[.pointer (some ⟨b, 0, none⟩), .int .i64 q] w fun e w' => (∃ (x : ByteArray) (n : Int), e = .returned (.tuple #[.string x, .int .i64 n, .bool false])) ∧ Below w.heap.size w w' := by
  subst hr; exact h.mono fun e w' hh => ⟨hh.2, hh.1⟩
theorem rt_some {b i0 q n : Nat} {t : Bytes} {w : World} {r : Option (Bytes × Nat)} (hr : r = some (t, n)) (h : Calls Tryz.prog 65 #[.pointer (some ⟨b, 0, none⟩), .int .i64 q] w (RTPost r i0 w)) :
    Calls Tryz.prog 65 #[.pointer (some ⟨b, 0, none⟩), .int .i64 q] w fun e w' => e = .returned (.tuple #[str t, .int .i64 (i0 + n : Nat), .bool true]) ∧ Below w.heap.size w w' := by
  subst hr; exact h.mono fun e w' hh => ⟨hh.2, hh.1⟩

set_option maxRecDepth 100000 in
set_option maxHeartbeats 1000000 in
theorem rquoted6_any (s : ByteArray) (b i0 : Nat) (w : World) (h : RSc w s b i0) (hq : i0 + 0 + 1 ≤ s.size) :
    Calls Tryz.prog 46 #[.pointer (some ⟨b, 0, none⟩), .int .i64 0, .int .i64 6] w (RdPost (quotedR 0 6 (s.data.toList.drop i0)) 0 w) := by
  have hz := h.sz
  have hne := World.block_lt_of_cell? w _ h.txt
  have hne1 : ¬ w.heap.size = b := fun e => by simp only [] at hne; omega
  have hne2 : ¬ b = w.heap.size := fun e => by simp only [] at hne; omega
  clear hne
  obtain ⟨r, hr⟩ : ∃ r, quotedC (s.data.toList.drop (i0 + 0 + 1)) [] (0 + 1) = r := ⟨_, rfl⟩
  have hte : quotedR 0 6 (s.data.toList.drop i0) = quotedO 6 r := by
    unfold quotedR; rw [List.drop_drop, show i0 + (0 + 1) = i0 + 0 + 1 from rfl, hr]
  generalize quotedR 0 6 (s.data.toList.drop i0) = R at *
  cases r with
  | none =>
    have HT : RowKit.Hid (R = .error 42) := hte
    clear hte
    have HQ := Lib.hid hr; clear hr
    go_enter Tryz.func46, Tryz.ntmps46
    go_wp2_with fail
    refine (rt_none HQ.out (rtext_any s b i0 0 _ (h.later ((Below.refl _ w).alloc (Nat.le_refl _) _)) hq)).mono ?_
    rintro e w2 ⟨⟨xv, nv, rfl⟩, hb2⟩
    obtain ⟨⟨rc0, rc1, rc2, rc3, rc4⟩, rfz⟩ := res_cells hb2
    have HB := Lib.hid (((Below.refl _ w).alloc (Nat.le_refl _) _).trans (hb2.mono (by simp)))
    have hp2 := cell_later HB.out h.pos
    clear hb2
    go_wp2_with fail
    refine bodyPost_ret (by simp [results, Tryz.results46, go_sem, rc0, rc1, rc2, rc3, rc4]; exact rfl) rfl ?_
    exact rd_bad HT.out rfl (below_set5 HB.out _ _ _ _ _)
  | some p =>
    obtain ⟨t, n⟩ := p
    have hnb := quotedC_n hz hq hr
    have HQ := Lib.hid hr; clear hr
    replace hte : R = if 6 = 7 ∧ t.length ≠ 1 then .error 42 else if 65536 < t.length then .error 2 else .ok (6, t, [], n) := hte
    by_cases hlen : 65536 < t.length
    · have HT := Lib.hid (show R = .error 2 by rw [hte, if_neg (by simp), if_pos hlen])
      have hI : (65536 : Int) < (t.length : Int) := by omega
      clear hte
      go_enter Tryz.func46, Tryz.ntmps46
      go_wp2_with fail
      refine (rt_some HQ.out (rtext_any s b i0 0 _ (h.later ((Below.refl _ w).alloc (Nat.le_refl _) _)) hq)).mono ?_
      rintro e w2 ⟨rfl, hb2⟩
      obtain ⟨⟨rc0, rc1, rc2, rc3, rc4⟩, rfz⟩ := res_cells hb2
      have HB := Lib.hid (((Below.refl _ w).alloc (Nat.le_refl _) _).trans (hb2.mono (by simp)))
      have hp2 := cell_later HB.out h.pos
      clear hb2
      go_wp2_with fail
      refine bodyPost_ret (by simp [results, Tryz.results46, go_sem, rc0, rc1, rc2, rc3, rc4]; exact rfl) rfl ?_
      exact rd_bad HT.out rfl (below_set5 HB.out _ _ _ _ _)
    · have HT := Lib.hid (show R = .ok (6, t, [], n) by rw [hte, if_neg (by simp), if_neg hlen])
      have hI : decide ((t.length : Int) > 65536) = false := by simp; omega
      clear hte
      go_enter Tryz.func46, Tryz.ntmps46
      go_wp2_with fail
      refine (rt_some HQ.out (rtext_any s b i0 0 _ (h.later ((Below.refl _ w).alloc (Nat.le_refl _) _)) hq)).mono ?_
      rintro e w2 ⟨rfl, hb2⟩
      obtain ⟨⟨rc0, rc1, rc2, rc3, rc4⟩, rfz⟩ := res_cells hb2
      have HB := Lib.hid (((Below.refl _ w).alloc (Nat.le_refl _) _).trans (hb2.mono (by simp)))
      have hp2 := cell_later HB.out h.pos
      clear hb2
      go_wp2_with fail
      go_region
      all_goals go_wp2_with fail
      all_goals refine bodyPost_ret (by simp [results, Tryz.results46, go_sem, rc0, rc1, rc2, rc3, rc4]; exact rfl) rfl ?_
      all_goals exact rd_ok HT.out rfl rfl (by omega) (below_set5 HB.out _ _ _ _ _).drew

set_option maxRecDepth 100000 in
set_option maxHeartbeats 1000000 in
theorem rquoted7_any (s : ByteArray) (b i0 : Nat) (w : World) (h : RSc w s b i0) (hq : i0 + 1 + 1 ≤ s.size) :
    Calls Tryz.prog 46 #[.pointer (some ⟨b, 0, none⟩), .int .i64 1, .int .i64 7] w (RdPost (quotedR 1 7 (s.data.toList.drop i0)) 0 w) := by
  have hz := h.sz
  have hne := World.block_lt_of_cell? w _ h.txt
  have hne1 : ¬ w.heap.size = b := fun e => by simp only [] at hne; omega
  have hne2 : ¬ b = w.heap.size := fun e => by simp only [] at hne; omega
  clear hne
  obtain ⟨r, hr⟩ : ∃ r, quotedC (s.data.toList.drop (i0 + 1 + 1)) [] (1 + 1) = r := ⟨_, rfl⟩
  have hte : quotedR 1 7 (s.data.toList.drop i0) = quotedO 7 r := by
    unfold quotedR; rw [List.drop_drop, show i0 + (1 + 1) = i0 + 1 + 1 from rfl, hr]
  generalize quotedR 1 7 (s.data.toList.drop i0) = R at *
  cases r with
  | none =>
    have HT : RowKit.Hid (R = .error 42) := hte
    clear hte
    have HQ := Lib.hid hr; clear hr
    go_enter Tryz.func46, Tryz.ntmps46
    go_wp2_with fail
    refine (rt_none HQ.out (rtext_any s b i0 1 _ (h.later ((Below.refl _ w).alloc (Nat.le_refl _) _)) hq)).mono ?_
    rintro e w2 ⟨⟨xv, nv, rfl⟩, hb2⟩
    obtain ⟨⟨rc0, rc1, rc2, rc3, rc4⟩, rfz⟩ := res_cells hb2
    have HB := Lib.hid (((Below.refl _ w).alloc (Nat.le_refl _) _).trans (hb2.mono (by simp)))
    have hp2 := cell_later HB.out h.pos
    clear hb2
    go_wp2_with fail
    refine bodyPost_ret (by simp [results, Tryz.results46, go_sem, rc0, rc1, rc2, rc3, rc4]; exact rfl) rfl ?_
    exact rd_bad HT.out rfl (below_set5 HB.out _ _ _ _ _)
  | some p =>
    obtain ⟨t, n⟩ := p
    have hnb := quotedC_n hz hq hr
    have HQ := Lib.hid hr; clear hr
    replace hte : R = if 7 = 7 ∧ t.length ≠ 1 then .error 42 else if 65536 < t.length then .error 2 else .ok (7, t, [], n) := hte
    by_cases h1 : t.length = 1
    · have b1 : ((t.length : Int) != 1) = false := by rw [bne_eq_false_iff_eq]; omega
      have hlen : ¬ 65536 < t.length := by omega
      have HT := Lib.hid (show R = .ok (7, t, [], n) by rw [hte, if_neg (by simp; omega), if_neg hlen])
      have hI : decide ((t.length : Int) > 65536) = false := by simp; omega
      clear hte hlen h1
      go_enter Tryz.func46, Tryz.ntmps46
      go_wp2_with fail
      refine (rt_some HQ.out (rtext_any s b i0 1 _ (h.later ((Below.refl _ w).alloc (Nat.le_refl _) _)) hq)).mono ?_
      rintro e w2 ⟨rfl, hb2⟩
      obtain ⟨⟨rc0, rc1, rc2, rc3, rc4⟩, rfz⟩ := res_cells hb2
      have HB := Lib.hid (((Below.refl _ w).alloc (Nat.le_refl _) _).trans (hb2.mono (by simp)))
      have hp2 := cell_later HB.out h.pos
      clear hb2
      go_wp2_with fail
      go_region
      all_goals go_wp2_with fail
      all_goals refine bodyPost_ret (by simp [results, Tryz.results46, go_sem, rc0, rc1, rc2, rc3, rc4]; exact rfl) rfl ?_
      all_goals exact rd_ok HT.out rfl rfl (by omega) (below_set5 HB.out _ _ _ _ _).drew
    · have HT := Lib.hid (show R = .error 42 by rw [hte, if_pos ⟨rfl, h1⟩])
      have b1 : ((t.length : Int) != 1) = true := by rw [bne_iff_ne]; omega
      clear hte
      go_enter Tryz.func46, Tryz.ntmps46
      go_wp2_with fail
      refine (rt_some HQ.out (rtext_any s b i0 1 _ (h.later ((Below.refl _ w).alloc (Nat.le_refl _) _)) hq)).mono ?_
      rintro e w2 ⟨rfl, hb2⟩
      obtain ⟨⟨rc0, rc1, rc2, rc3, rc4⟩, rfz⟩ := res_cells hb2
      have HB := Lib.hid (((Below.refl _ w).alloc (Nat.le_refl _) _).trans (hb2.mono (by simp)))
      have hp2 := cell_later HB.out h.pos
      clear hb2
      go_wp2_with fail
      refine bodyPost_ret (by simp [results, Tryz.results46, go_sem, rc0, rc1, rc2, rc3, rc4]; exact rfl) rfl ?_
      exact rd_bad HT.out rfl (below_set5 HB.out _ _ _ _ _)

end Go.Proofs.YtcogfalhodjmfaaGreatDoor
