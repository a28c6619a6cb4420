/- The scanner's readers of the package lex: what each call returns. Conditions: those of each theorem. -/
import Derived.Test.YtbchkldhnjahaaaGreatDoorLexQ
namespace Go.Proofs.YtbchkldhnjahaaaGreatDoor
open Go.RowKit Kiln
open Go.Proofs

theorem res_walk {s : ByteArray} (he : ¬ s.toList = []) (hc : ¬ 0 ≤ Lib.indexByte s.data.toList 32) :
    (!s.toList.isEmpty && !decide (0 ≤ Lib.indexByte s.data.toList 32) && Lib.contains resText (32 :: s.data.toList ++ [32])) = resB s.data.toList := by
  rw [Lib.toList_data] at *
  have h1 : s.data.toList.contains 32 = false := by rw [indexByte_contains]; simpa using hc
  have h2 : s.data.toList.isEmpty = false := by simpa using he
  rw [res_contains he h1, h2]; simp [hc]

set_option maxRecDepth 100000 in
set_option maxHeartbeats 400000 in
theorem reserved_any (s : ByteArray) (m : Int) (w : World) (hm : w.cell? ⟨0, 0, none⟩ = some (.int .i64 m)) (hz : s.size ≤ 140737488351232) :
    Calls Tryz.prog 76 #[.string s] w fun e w' => e = .returned (.bool (resB s.data.toList)) ∧ w = w' := by
  by_cases he : s.toList = []
  · go_enter Tryz.func76, Tryz.ntmps76
    go_wp2_with fail
    go_ret
    exact ⟨ret_bool (by rw [← Lib.toList_data, he]; decide), rfl⟩
  · by_cases hc : 0 ≤ Lib.indexByte s.data.toList 32
    · go_enter Tryz.func76, Tryz.ntmps76
      go_wp2_with fail
      refine (Tryz.strings_Contains_one s 32 _).mono ?_
      rintro e w' ⟨rfl, rfl⟩
      go_wp2_with fail
      go_ret
      exact ⟨ret_bool (res_space hc).symm, rfl⟩
    · go_enter Tryz.func76, Tryz.ntmps76
      go_wp2_with fail
      refine (Tryz.strings_Contains_one s 32 _).mono ?_
      rintro e w' ⟨rfl, rfl⟩
      go_wp2_with fail
      refine (Tryz.strings_Contains _ _ m _ ?_ hm).mono ?_
      · decide
      rintro e w' ⟨rfl, rfl⟩
      go_wp2_with fail
      go_ret
      exact ⟨ret_bool (res_walk he (Int.not_le.2 hc)), rfl⟩

theorem enters_inWord (args : Array Value) (w : World) : (callFunc 75 args).run Tryz.prog w = .ok (.enter 75 args) w := enters_of Tryz.func75 (by kernel_rfl) rfl args w
theorem enters_inSign (args : Array Value) (w : World) : (callFunc 44 args).run Tryz.prog w = .ok (.enter 44 args) w := enters_of Tryz.func44 (by kernel_rfl) rfl args w
theorem enters_digit (args : Array Value) (w : World) : (callFunc 42 args).run Tryz.prog w = .ok (.enter 42 args) w := enters_of Tryz.func42 (by kernel_rfl) rfl args w
theorem enters_hex (args : Array Value) (w : World) : (callFunc 77 args).run Tryz.prog w = .ok (.enter 77 args) w := enters_of Tryz.func77 (by kernel_rfl) rfl args w

theorem rd_bad {r : Rd} {i c : Nat} {w w' : World} {v : Int} (h : r = .error c) (hv : v = c) (hb : Below w.heap.size w w') :
    RdPost r i w (.returned (.tuple #[.agg #[.int .i64 0, .string ⟨#[]⟩, .slice none 0 0, .int .i64 0, .int .i64 0], .int .i64 0, .int .i64 v])) w' := by
  subst h; subst hv; exact ⟨hb, rfl⟩
theorem rd_ok {r : Rd} {i k n : Nat} {t : Bytes} {w w' : World} {kv nv : Int} {sv : ByteArray} (h : r = .ok (k, t, [], n)) (hk : kv = k) (hs : sv.data.toList = t) (hn : nv = (i + n : Nat)) (hb : Below w.heap.size w w') :
    RdPost r i w (.returned (.tuple #[.agg #[.int .i64 kv, .string sv, .slice none 0 0, .int .i64 0, .int .i64 0], .int .i64 nv, .int .i64 0])) w' := by
  subst h; subst hk; subst hs; subst hn
  refine ⟨hb, .slice none 0 0, ⟨Strs.nil _, fun h => absurd rfl h⟩, ?_⟩
  rw [str, Lib.mk_data]

theorem textP_eq (s : ByteArray) (i : Nat) : textP (s.data.toList.drop i) = match quotedC (s.data.toList.drop (i + 1)) [] 1 with
    | none => .error 42
    | some (t, n) => if 65536 < t.length then .error 2 else .ok (6, t, [], n) := by
  unfold textP quotedC
  rw [List.drop_drop, quotedP_fuel _ ((s.data.toList.drop (i + 1)).length + 1) _ _ _ (by simp only [List.length_drop]; omega) (by omega)]
  cases quotedP ((s.data.toList.drop (i + 1)).length + 1) (s.data.toList.drop (i + 1)) [] 1 <;> rfl
theorem charP_eq (s : ByteArray) (i : Nat) : charP (s.data.toList.drop i) = match quotedC (s.data.toList.drop (i + 2)) [] 2 with
    | none => .error 42
    | some (t, n) => if t.length = 1 then .ok (7, t, [], n) else .error 42 := by
  unfold charP quotedC
  rw [List.drop_drop, quotedP_fuel _ ((s.data.toList.drop (i + 2)).length + 1) _ _ _ (by simp only [List.length_drop]; omega) (by omega)]
  cases quotedP ((s.data.toList.drop (i + 2)).length + 1) (s.data.toList.drop (i + 2)) [] 2 <;> rfl

theorem below_set5 {w w2 : World} (h : Below w.heap.size w w2) (v0 v1 v2 v3 v4 : Value) :
    Below w.heap.size w (((((w2.setCell ⟨w.heap.size, 0, none⟩ v0).setCell ⟨w.heap.size, 1, none⟩ v1).setCell ⟨w.heap.size, 2, none⟩ v2).setCell ⟨w.heap.size, 3, none⟩ v3).setCell ⟨w.heap.size, 4, none⟩ v4) :=
  ((((h.setCell (Nat.le_refl _) _).setCell (Nat.le_refl _) _).setCell (Nat.le_refl _) _).setCell (Nat.le_refl _) _).setCell (Nat.le_refl _) _

/-- the result's own block, behind a call that left what was there -/
theorem res_cells {w w2 : World} {c0 c1 c2 c3 c4 : Value} {T : TypeId} (hb : Below (w.alloc (.cells #[c0, c1, c2, c3, c4] T)).heap.size (w.alloc (.cells #[c0, c1, c2, c3, c4] T)) w2) :
    (w2.cell? ⟨w.heap.size, 0, none⟩ = some c0 ∧ w2.cell? ⟨w.heap.size, 1, none⟩ = some c1 ∧ w2.cell? ⟨w.heap.size, 2, none⟩ = some c2 ∧ w2.cell? ⟨w.heap.size, 3, none⟩ = some c3 ∧ w2.cell? ⟨w.heap.size, 4, none⟩ = some c4) ∧
    ∀ j, w2.frozen? ⟨w.heap.size, j, none⟩ = false := by
  have hc : ∀ j, w2.cell? ⟨w.heap.size, j, none⟩ = #[c0, c1, c2, c3, c4][j]? := fun j => by
    rw [hb.cell (p := ⟨w.heap.size, j, none⟩) (by simp), World.cell?_alloc_new]
  refine ⟨⟨by rw [hc]; rfl, by rw [hc]; rfl, by rw [hc]; rfl, by rw [hc]; rfl, by rw [hc]; rfl⟩, fun j => ?_⟩
  rw [hb.frozen (p := ⟨w.heap.size, j, none⟩) (by simp)]
  simp

theorem quoted_none {s : ByteArray} {b i0 base : Nat} {w : World} (hq : quotedC (s.data.toList.drop i0) [] (i0 - base) = none) (h : Calls Tryz.prog 80 #[.pointer (some ⟨b, 0, none⟩), .int .i64 i0] w (QuPost (quotedC (s.data.toList.drop i0) [] (i0 - base)) base w)) :
    Calls Tryz.prog 80 #[.pointer (some ⟨b, 0, none⟩), .int .i64 i0] w fun e w' => e = .returned (.tuple #[.string ⟨#[]⟩, .int .i64 0, .int .i64 42]) ∧ Below w.heap.size w w' :=
  h.mono fun e w' hh => by rw [hq] at hh; exact ⟨hh.2, hh.1⟩
theorem quoted_some {s : ByteArray} {b i0 base n : Nat} {t : Bytes} {w : World} (hq : quotedC (s.data.toList.drop i0) [] (i0 - base) = some (t, n)) (h : Calls Tryz.prog 80 #[.pointer (some ⟨b, 0, none⟩), .int .i64 i0] w (QuPost (quotedC (s.data.toList.drop i0) [] (i0 - base)) base w)) :
    Calls Tryz.prog 80 #[.pointer (some ⟨b, 0, none⟩), .int .i64 i0] w fun e w' => e = .returned (.tuple #[str t, .int .i64 (base + n : Nat), .int .i64 0]) ∧ Below w.heap.size w w' :=
  h.mono fun e w' hh => by rw [hq] at hh; exact ⟨hh.2, hh.1⟩

set_option maxRecDepth 100000 in
set_option maxHeartbeats 1000000 in
theorem text_any (s : ByteArray) (b i : Nat) (w : World) (hg : Gl w) (hs : w.cell? ⟨b, 0, none⟩ = some (.string s)) (ha : w.cell? ⟨b, 1, none⟩ = some (.int .i64 i)) (hz : s.size ≤ 1048576) (hi : i < s.size) :
    Calls Tryz.prog 46 #[.pointer (some ⟨b, 0, none⟩)] w (RdPost (textP (s.data.toList.drop i)) i w) := by
  have hs1 := cell_al hs
  have ha1 := cell_al ha
  have HG := Lib.hid hg; clear hg
  have HC := Lib.hid (fun w h1 h2 => quoted_any s b (i + 1) i w h1 h2 hz (by omega) (by omega))
  have hte := textP_eq s i
  cases hq : quotedC (s.data.toList.drop (i + 1)) [] 1 with
  | none =>
    rw [hq] at hte
    have HT := Lib.hid hte; clear hte
    have HQ := Lib.hid (show quotedC (s.data.toList.drop (i + 1)) [] (i + 1 - i) = none by rw [show i + 1 - i = 1 from by omega]; exact hq)
    clear hq
    go_enter Tryz.func46, Tryz.ntmps46
    go_wp2_with fail
    refine (quoted_none HQ.out (HC.out _ (HG.out.below ((Below.refl _ w).alloc (Nat.le_refl _) _)) (hs1 _))).mono ?_
    rintro e w2 ⟨rfl, hb2⟩
    obtain ⟨⟨rc0, rc1, rc2, rc3, rc4⟩, rfz⟩ := res_cells hb2
    have HB := Lib.hid (((Below.refl _ w).alloc (Nat.le_refl _) _).trans (hb2.mono (by simp)))
    clear hb2
    go_wp2_with fail
    refine bodyPost_ret (by simp [results, Tryz.results46, go_sem, rc0, rc1, rc2, rc3, rc4]; exact rfl) rfl ?_
    exact rd_bad HT.out rfl (below_set5 HB.out _ _ _ _ _)
  | some p =>
    obtain ⟨t, n⟩ := p
    rw [hq] at hte
    have HQ := Lib.hid (show quotedC (s.data.toList.drop (i + 1)) [] (i + 1 - i) = some (t, n) by rw [show i + 1 - i = 1 from by omega]; exact hq)
    clear hq
    by_cases hlen : 65536 < t.length
    · have HT := Lib.hid (show textP (s.data.toList.drop i) = .error 2 by rw [hte]; simp [hlen])
      clear hte
      go_enter Tryz.func46, Tryz.ntmps46
      go_wp2_with fail
      refine (quoted_some HQ.out (HC.out _ (HG.out.below ((Below.refl _ w).alloc (Nat.le_refl _) _)) (hs1 _))).mono ?_
      rintro e w2 ⟨rfl, hb2⟩
      obtain ⟨⟨rc0, rc1, rc2, rc3, rc4⟩, rfz⟩ := res_cells hb2
      have HB := Lib.hid (((Below.refl _ w).alloc (Nat.le_refl _) _).trans (hb2.mono (by simp)))
      clear hb2
      go_wp2_with fail
      refine bodyPost_ret (by simp [results, Tryz.results46, go_sem, rc0, rc1, rc2, rc3, rc4]; exact rfl) rfl ?_
      exact rd_bad HT.out rfl (below_set5 HB.out _ _ _ _ _)
    · have HT := Lib.hid (show textP (s.data.toList.drop i) = .ok (6, t, [], n) by rw [hte]; simp [hlen])
      clear hte
      go_enter Tryz.func46, Tryz.ntmps46
      go_wp2_with fail
      refine (quoted_some HQ.out (HC.out _ (HG.out.below ((Below.refl _ w).alloc (Nat.le_refl _) _)) (hs1 _))).mono ?_
      rintro e w2 ⟨rfl, hb2⟩
      obtain ⟨⟨rc0, rc1, rc2, rc3, rc4⟩, rfz⟩ := res_cells hb2
      have HB := Lib.hid (((Below.refl _ w).alloc (Nat.le_refl _) _).trans (hb2.mono (by simp)))
      clear hb2
      go_wp2_with fail
      refine bodyPost_ret (by simp [results, Tryz.results46, go_sem, rc0, rc1, rc2, rc3, rc4]; exact rfl) rfl ?_
      exact rd_ok HT.out rfl rfl rfl (below_set5 HB.out _ _ _ _ _)

set_option maxRecDepth 100000 in
set_option maxHeartbeats 1000000 in
theorem char_any (s : ByteArray) (b i : Nat) (w : World) (hg : Gl w) (hs : w.cell? ⟨b, 0, none⟩ = some (.string s)) (ha : w.cell? ⟨b, 1, none⟩ = some (.int .i64 i)) (hz : s.size ≤ 1048576) (hi : i + 2 ≤ s.size) :
    Calls Tryz.prog 79 #[.pointer (some ⟨b, 0, none⟩)] w (RdPost (charP (s.data.toList.drop i)) i w) := by
  have hs1 := cell_al hs
  have ha1 := cell_al ha
  have HG := Lib.hid hg; clear hg
  have HC := Lib.hid (fun w h1 h2 => quoted_any s b (i + 2) i w h1 h2 hz (by omega) (by omega))
  have hte := charP_eq s i
  cases hq : quotedC (s.data.toList.drop (i + 2)) [] 2 with
  | none =>
    rw [hq] at hte
    have HT := Lib.hid hte; clear hte
    have HQ := Lib.hid (show quotedC (s.data.toList.drop (i + 2)) [] (i + 2 - i) = none by rw [show i + 2 - i = 2 from by omega]; exact hq)
    clear hq
    go_enter Tryz.func79, Tryz.ntmps79
    go_wp2_with fail
    refine (quoted_none HQ.out (HC.out _ (HG.out.below ((Below.refl _ w).alloc (Nat.le_refl _) _)) (hs1 _))).mono ?_
    rintro e w2 ⟨rfl, hb2⟩
    obtain ⟨⟨rc0, rc1, rc2, rc3, rc4⟩, rfz⟩ := res_cells hb2
    have HB := Lib.hid (((Below.refl _ w).alloc (Nat.le_refl _) _).trans (hb2.mono (by simp)))
    clear hb2
    go_wp2_with fail
    refine bodyPost_ret (by simp [results, Tryz.results79, go_sem, rc0, rc1, rc2, rc3, rc4]; exact rfl) rfl ?_
    exact rd_bad HT.out rfl (below_set5 HB.out _ _ _ _ _)
  | some p =>
    obtain ⟨t, n⟩ := p
    rw [hq] at hte
    have HQ := Lib.hid (show quotedC (s.data.toList.drop (i + 2)) [] (i + 2 - i) = some (t, n) by rw [show i + 2 - i = 2 from by omega]; exact hq)
    clear hq
    by_cases hlen : ¬ t.length = 1
    · have HT := Lib.hid (show charP (s.data.toList.drop i) = .error 42 by rw [hte]; simp [hlen])
      clear hte
      have hlb : ((t.length : Int) != 1) = true := by rw [bne_iff_ne]; omega
      go_enter Tryz.func79, Tryz.ntmps79
      go_wp2_with fail
      refine (quoted_some HQ.out (HC.out _ (HG.out.below ((Below.refl _ w).alloc (Nat.le_refl _) _)) (hs1 _))).mono ?_
      rintro e w2 ⟨rfl, hb2⟩
      obtain ⟨⟨rc0, rc1, rc2, rc3, rc4⟩, rfz⟩ := res_cells hb2
      have HB := Lib.hid (((Below.refl _ w).alloc (Nat.le_refl _) _).trans (hb2.mono (by simp)))
      clear hb2
      go_wp2_with fail
      refine bodyPost_ret (by simp [results, Tryz.results79, go_sem, rc0, rc1, rc2, rc3, rc4]; exact rfl) rfl ?_
      exact rd_bad HT.out rfl (below_set5 HB.out _ _ _ _ _)
    · have HT := Lib.hid (show charP (s.data.toList.drop i) = .ok (7, t, [], n) by rw [hte]; simp [hlen])
      clear hte
      have hlb : ((t.length : Int) != 1) = false := by rw [bne_eq_false_iff_eq]; omega
      go_enter Tryz.func79, Tryz.ntmps79
      go_wp2_with fail
      refine (quoted_some HQ.out (HC.out _ (HG.out.below ((Below.refl _ w).alloc (Nat.le_refl _) _)) (hs1 _))).mono ?_
      rintro e w2 ⟨rfl, hb2⟩
      obtain ⟨⟨rc0, rc1, rc2, rc3, rc4⟩, rfz⟩ := res_cells hb2
      have HB := Lib.hid (((Below.refl _ w).alloc (Nat.le_refl _) _).trans (hb2.mono (by simp)))
      clear hb2
      go_wp2_with fail
      refine bodyPost_ret (by simp [results, Tryz.results79, go_sem, rc0, rc1, rc2, rc3, rc4]; exact rfl) rfl ?_
      exact rd_ok HT.out rfl rfl rfl (below_set5 HB.out _ _ _ _ _)

end Go.Proofs.YtbchkldhnjahaaaGreatDoor
