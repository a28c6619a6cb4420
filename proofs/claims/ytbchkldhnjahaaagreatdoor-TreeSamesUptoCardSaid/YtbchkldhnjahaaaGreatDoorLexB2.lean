/- The scanner's readers tyvar, other, sign, number: what each call returns. -/
import Derived.Test.YtbchkldhnjahaaaGreatDoorLexB
namespace Go.Proofs.YtbchkldhnjahaaaGreatDoor
open Go.RowKit Kiln
open Go.Proofs

theorem ext_take (s : ByteArray) (i k n : Nat) (h : k = i + n) : (s.extract i k).data.toList = (s.data.toList.drop i).take n := by
  rw [Lib.extract_data, show k - i = n from by omega]

set_option maxRecDepth 100000 in
set_option maxHeartbeats 2000000 in
theorem tyvar_any (s : ByteArray) (b i : Nat) (w : World) (_hg : Gl w) (hs : w.cell? ⟨b, 0, none⟩ = some (.string s)) (ha : w.cell? ⟨b, 1, none⟩ = some (.int .i64 i)) (hz : s.size ≤ 1048576) (hi : i < s.size) :
    Calls Tryz.prog 47 #[.pointer (some ⟨b, 0, none⟩)] w (RdPost (tyvarP (s.data.toList.drop i)) i w) := by
  have hs1 := cell_al hs
  have ha1 := cell_al ha
  have hbl := World.block_lt_of_cell? w _ hs
  have hne1 : ¬ w.heap.size = b := fun e => by simp only [] at hbl; omega
  have hne2 : ¬ b = w.heap.size := fun e => by simp only [] at hbl; omega
  clear hbl
  have hc := cntB_le wordB (s.data.toList.drop (i + 1))
  rw [List.length_drop, ← Lib.size_eq] at hc
  have HT := Lib.hid (show tyvarP (s.data.toList.drop i) = .ok (3, (s.data.toList.drop i).take (1 + cntB wordB (s.data.toList.drop (i + 1))), [], 1 + cntB wordB (s.data.toList.drop (i + 1))) by
    unfold tyvarP; rw [List.drop_drop])
  go_enter Tryz.func47, Tryz.ntmps47
  go_wp2_with fail
  refine (run_any 75 wordB enters_inWord (fun c w => inWord_any _ w) s b (i + 1) _ (hs1 _) (by unfold maxLen; omega)).mono ?_
  rintro e w' ⟨rfl, rfl⟩
  go_wp2_with fail
  go_region
  go_wp2
  refine bodyPost_ret (by simp [results, Tryz.results47, go_sem]; exact rfl) rfl ?_
  exact rd_ok HT.out rfl (ext_take _ _ _ _ (by omega)) (by omega) (((Below.refl _ w).alloc (Nat.le_refl _) _).drew)

set_option maxRecDepth 100000 in
set_option maxHeartbeats 2000000 in
theorem other_any (s : ByteArray) (b i : Nat) (w : World) (hg : Gl w) (hs : w.cell? ⟨b, 0, none⟩ = some (.string s)) (ha : w.cell? ⟨b, 1, none⟩ = some (.int .i64 i)) (hz : s.size ≤ 1048576) (hi : i < s.size) :
    Calls Tryz.prog 48 #[.pointer (some ⟨b, 0, none⟩)] w (RdPost (otherP (s.data.toList.drop i)) i w) := by
  have hs1 := cell_al hs
  have ha1 := cell_al ha
  have hbl := World.block_lt_of_cell? w _ hs
  have hne1 : ¬ w.heap.size = b := fun e => by simp only [] at hbl; omega
  have hne2 : ¬ b = w.heap.size := fun e => by simp only [] at hbl; omega
  clear hbl
  have HG := Lib.hid hg; clear hg
  obtain ⟨_, m, hm⟩ : ∃ x : Nat, ∃ m : Int, w.cell? ⟨0, 0, none⟩ = some (.int .i64 m) := ⟨0, HG.out.mx⟩
  have hm1 := cell_al hm
  have hm2 : ∀ (o : Obj) (n : Nat), ((w.alloc o).drewN n).cell? ⟨0, 0, none⟩ = some (.int .i64 m) := fun o _ => hm1 o
  have hres := fun (t : ByteArray) (ht : t.size ≤ s.size) (W : World) (h : W.cell? ⟨0, 0, none⟩ = some (.int .i64 m)) => reserved_any t m W h (by omega)
  have HRS := Lib.hid hres; clear hres
  obtain ⟨P, hP⟩ : ∃ P, [46, 46, 46].isPrefixOf (s.data.toList.drop i) = P := ⟨_, rfl⟩
  have hpl : P = true → i + 3 ≤ s.size := by
    intro hp
    rw [← hP] at hp
    have := (List.isPrefixOf_iff_prefix.1 hp).length_le
    rw [List.length_drop, ← Lib.size_eq] at this
    simp at this; omega
  have hst := fun W h => starts_any s ⟨#[46, 46, 46]⟩ b i W h (by unfold maxLen; omega) (by omega)
  simp only [hP] at hst
  have HST := Lib.hid hst; clear hst
  cases P
  · obtain ⟨n, hn⟩ : ∃ n : Nat, n = if [46, 46, 46].isPrefixOf (s.data.toList.drop i) then 3 else 1 := ⟨_, rfl⟩
    have hot : otherP (s.data.toList.drop i) = if resB ((s.data.toList.drop i).take n) then .ok (1, (s.data.toList.drop i).take n, [], n) else .error 40 := by
      rw [hn]; rfl
    rw [hP] at hn
    simp at hn
    subst hn
    simp at hpl
    have HOT := Lib.hid hot; clear hot hP
    go_enter Tryz.func48, Tryz.ntmps48
    go_wp2_with fail
    refine (HST.out _ (hs1 _)).mono ?_
    rintro e w' ⟨rfl, rfl⟩
    go_wp2_with fail
    go_quiet (fail)
    go_wp2_with fail
    refine (HRS.out (s.extract i (i + 1)) (by rw [ByteArray.size_extract]; omega) _ (hm2 _ _)).mono ?_
    rintro e w' ⟨rfl, rfl⟩
    rw [ext_take _ _ _ 1 (by omega)]
    cases hrb : resB ((s.data.toList.drop i).take 1)
    · have HT := Lib.hid (show otherP (s.data.toList.drop i) = .error 40 by rw [HOT.out, hrb]; rfl)
      go_wp2_with fail
      refine bodyPost_ret (by simp [results, Tryz.results48, go_sem]; exact rfl) rfl ?_
      exact rd_bad HT.out rfl (below_set5 (below_drewN ((Below.refl _ w).alloc (Nat.le_refl _) _) _) _ _ _ _ _)
    · have HT := Lib.hid (show otherP (s.data.toList.drop i) = .ok (1, (s.data.toList.drop i).take 1, [], 1) by rw [HOT.out, hrb]; rfl)
      go_wp2_with fail
      go_region
      go_wp2
      refine bodyPost_ret (by simp [results, Tryz.results48, go_sem]; exact rfl) rfl ?_
      exact rd_ok HT.out rfl (ext_take _ _ _ _ (by omega)) (by omega) (below_set5 (below_drewN ((Below.refl _ w).alloc (Nat.le_refl _) _) _) _ _ _ _ _)
  · obtain ⟨n, hn⟩ : ∃ n : Nat, n = if [46, 46, 46].isPrefixOf (s.data.toList.drop i) then 3 else 1 := ⟨_, rfl⟩
    have hot : otherP (s.data.toList.drop i) = if resB ((s.data.toList.drop i).take n) then .ok (1, (s.data.toList.drop i).take n, [], n) else .error 40 := by
      rw [hn]; rfl
    rw [hP] at hn
    simp at hn
    subst hn
    simp at hpl
    have HOT := Lib.hid hot; clear hot hP
    go_enter Tryz.func48, Tryz.ntmps48
    go_wp2_with fail
    refine (HST.out _ (hs1 _)).mono ?_
    rintro e w' ⟨rfl, rfl⟩
    go_wp2_with fail
    go_quiet (fail)
    go_wp2_with fail
    refine (HRS.out (s.extract i (i + 3)) (by rw [ByteArray.size_extract]; omega) _ (hm2 _ _)).mono ?_
    rintro e w' ⟨rfl, rfl⟩
    rw [ext_take _ _ _ 3 (by omega)]
    cases hrb : resB ((s.data.toList.drop i).take 3)
    · have HT := Lib.hid (show otherP (s.data.toList.drop i) = .error 40 by rw [HOT.out, hrb]; rfl)
      go_wp2_with fail
      refine bodyPost_ret (by simp [results, Tryz.results48, go_sem]; exact rfl) rfl ?_
      exact rd_bad HT.out rfl (below_set5 (below_drewN ((Below.refl _ w).alloc (Nat.le_refl _) _) _) _ _ _ _ _)
    · have HT := Lib.hid (show otherP (s.data.toList.drop i) = .ok (1, (s.data.toList.drop i).take 3, [], 3) by rw [HOT.out, hrb]; rfl)
      go_wp2_with fail
      go_region
      go_wp2
      refine bodyPost_ret (by simp [results, Tryz.results48, go_sem]; exact rfl) rfl ?_
      exact rd_ok HT.out rfl (ext_take _ _ _ _ (by omega)) (by omega) (below_set5 (below_drewN ((Below.refl _ w).alloc (Nat.le_refl _) _) _) _ _ _ _ _)

end Go.Proofs.YtbchkldhnjahaaaGreatDoor
