/- The reference's reserved words and run: what each call returns. Conditions: those of each theorem. -/
import Derived.Test.YtcogfalhodjmfaaGreatDoorLexRA
import Derived.Test.YtcogfalhodjmfaaGreatDoorLexEsc
namespace Go.Proofs.YtcogfalhodjmfaaGreatDoor
open Go.RowKit Kiln
open Go.Proofs

def WdPost (w : World) (e : Ending) (w' : World) : Prop :=
  ∃ B, e = .returned (.slice (some ⟨B, 0, none⟩) 58 58) ∧ Below w.heap.size w w' ∧ ∀ k x, resWords[k]? = some x → w'.cell? ⟨B, k, none⟩ = some (str x)

set_option maxRecDepth 100000 in
set_option maxHeartbeats 1000000 in
theorem words_any (w : World) : Calls Tryz.prog 32 #[] w (WdPost w) := by
  go_enter Tryz.func32, Tryz.ntmps32
  go_wp2_with fail
  go_ret
  refine ⟨w.heap.size, rfl, (Below.refl _ w).alloc (Nat.le_refl _) _, fun k x h => ?_⟩
  rw [World.cell?_alloc_new]
  have e : ∀ a : Array Value, a = (resWords.map str).toArray → a[k]? = some (str x) := by
    rintro a rfl
    rw [List.getElem?_toArray, List.getElem?_map, h]; rfl
  exact e _ rfl

set_option maxRecDepth 100000 in
set_option maxHeartbeats 1000000 in
theorem rReserved_any (s : ByteArray) (w : World) : Calls Tryz.prog 13 #[.string s] w fun e w' => e = .returned (.bool (resB s.data.toList)) ∧ Below w.heap.size w w' := by
  obtain ⟨C, hC⟩ : ∃ C, resB s.data.toList = C := ⟨_, rfl⟩
  rw [hC]
  have HC : RowKit.Hid (C = (resWords.drop 0).contains s.data.toList) := hC.symm
  clear hC
  go_enter Tryz.func13, Tryz.ntmps13
  go_wp2_with fail
  refine (words_any w).mono ?_
  intro e w1 hw
  obtain ⟨B, rfl, hb, hcell⟩ := hw
  have HB := Lib.hid hb; clear hb
  have HL := Lib.hid hcell; clear hcell
  go_wp2_with fail
  go_loop [4] (fun j => ∃ k : Nat, j = .int .i64 k ∧ k ≤ 58 ∧ C = (resWords.drop k).contains s.data.toList) (fun j => 58 - (intOf j).toNat)
  case atStart => exact ⟨0, rfl, by omega, HC.out⟩
  case round =>
    clear HC
    obtain ⟨k, rfl, hle, hk⟩ := hrel
    have Hk := Lib.hid hk; clear hk
    by_cases hlt : k < 58
    · have hlen : resWords.length = 58 := rfl
      have hl2 : k < resWords.length := by omega
      obtain ⟨x, hx⟩ : ∃ x, resWords[k]? = some x := ⟨_, List.getElem?_eq_getElem hl2⟩
      have hd : resWords.drop k = x :: resWords.drop (k + 1) := by
        rw [List.drop_eq_getElem_cons hl2]
        rw [List.getElem?_eq_getElem hl2] at hx
        injection hx with hx
        rw [hx]
      have hc := HL.out k x hx
      clear hx hlen hl2
      have HD := Lib.hid hd; clear hd
      unfold str at hc
      have hI : (k : Int) < 58 := by omega
      by_cases hxs : x = s.data.toList
      · have hse : (x == s.toList) = true := by rw [Lib.toList_data]; simpa using hxs
        have HX := Lib.hid hxs; clear hxs
        go_wp2_with fail
        go_ret
        refine ⟨ret_bool ?_, HB.out⟩
        rw [Hk.out, HD.out, HX.out]; simp
      · have hse : (x == s.toList) = false := by rw [Lib.toList_data]; simpa using hxs
        have HX := Lib.hid hxs; clear hxs
        go_wp2_with fail
        go_round
        case rel => exact ⟨k + 1, by go_num, by omega, by rw [Hk.out, HD.out, List.contains_cons, show (s.data.toList == x) = false from by rw [beq_eq_false_iff_ne]; exact fun h => HX.out h.symm, Bool.false_or]⟩
        case measure => simp [intOf]; omega
    · have hI : decide ((k : Int) < 58) = false := by simp; omega
      go_wp2_with fail
      go_ret
      refine ⟨ret_bool ?_, HB.out⟩
      rw [Hk.out, List.drop_of_length_le (by have : resWords.length = 58 := rfl; omega)]; rfl


set_option maxRecDepth 100000 in
set_option maxHeartbeats 1000000 in
theorem rrun1 (s : ByteArray) (b i q m : Nat) (w : World) (h : RSc w s b i) (hq : q ≤ 1048600) :
    Calls Tryz.prog 49 #[.pointer (some ⟨b, 0, none⟩), .int .i64 q, .int .i64 1] (w.drewN m) fun e w' => e = .returned (.int .i64 (cntB wordB (s.data.toList.drop (i + q)) : Nat)) ∧ ∃ m', w' = w.drewN m' := by
  have hs : ∀ m, (w.drewN m).cell? ⟨b, 0, none⟩ = some (.string s) := fun m => h.txt
  have ha : ∀ m, (w.drewN m).cell? ⟨b, 1, none⟩ = some (.int .i64 i) := fun m => h.pos
  have hz := h.sz
  have hi := h.le
  clear h
  obtain ⟨N, hN⟩ : ∃ N, cntB wordB (s.data.toList.drop (i + q)) = N := ⟨_, rfl⟩
  rw [hN]
  have HN : RowKit.Hid (N = 0 + cntB wordB (s.data.toList.drop (i + q + 0))) := by rw [Nat.zero_add, Nat.add_zero]; exact hN.symm
  clear hN
  go_enter Tryz.func49, Tryz.ntmps49
  go_wp2_with fail
  go_loopw [7] (fun j wr => ∃ n m' : Nat, j = .int .i64 n ∧ wr = w.drewN m' ∧ n ≤ s.size ∧ N = n + cntB wordB (s.data.toList.drop (i + q + n))) (fun j _ => s.size - (intOf j).toNat)
  case atStart => exact ⟨0, m, rfl, rfl, by omega, HN.out⟩
  case round =>
    clear HN
    obtain ⟨n, m', rfl, rfl, hle, hk⟩ := hrel
    have Hk := Lib.hid hk; clear hk
    have e1 : IntKind.i64.wrap ((i : Int) + q) = (i : Int) + q := IntWalk.i64_in _ (by omega)
    have e2 : IntKind.i64.wrap ((i : Int) + q + n) = (i : Int) + q + n := IntWalk.i64_in _ (by omega)
    by_cases hlt : i + q + n < s.size
    · have hd := cell_u8 s (i + q + n) hlt
      obtain ⟨x, hx⟩ : ∃ x : UInt8, s[i + q + n]'hlt = x := ⟨_, rfl⟩
      rw [hx] at hd
      have HD := Lib.hid hd; clear hd
      have hlz : (i : Int) + q + n < (s.size : Int) := by omega
      have hsn : ((i : Int) + q + n).toNat = i + q + n := by omega
      go_wp2_with fail
      go_quiet (fail)
      go_wp2_with fail
      go_quiet (fail)
      go_wp2_with fail
      refine (rWord_any x.toNat _).mono ?_
      rintro e w' ⟨rfl, rfl⟩
      obtain ⟨P, hP⟩ : ∃ P, (wordI (x.toNat : Int)) = P := ⟨_, rfl⟩
      rw [hP]
      have HP : RowKit.Hid (wordB x = P) := hP
      clear hP
      cases P
      · go_wp2_with fail
        go_ret
        refine ⟨ret_int ?_, _, by first | rfl | (simp only [World.drewN_drewN]; rfl)⟩
        rw [Hk.out, HD.out]; simp only [cntB]; rw [if_neg (by rw [HP.out]; decide)]; omega
      · go_wp2_with fail
        go_roundw
        case rel => exact ⟨n + 1, _, by go_num, by first | rfl | (simp only [World.drewN_drewN]; rfl), by omega, by rw [Hk.out, HD.out]; simp only [cntB]; rw [if_pos HP.out, show i + q + (n + 1) = i + q + n + 1 from rfl]; omega⟩
        case measure => simp [intOf]; omega
    · have hlz : decide ((i : Int) + q + n < (s.size : Int)) = false := by simp; omega
      go_wp2_with fail
      go_quiet (fail)
      go_wp2_with fail
      go_ret
      refine ⟨ret_int ?_, _, by first | rfl | (simp only [World.drewN_drewN]; rfl)⟩
      rw [Hk.out, List.drop_of_length_le (by rw [← Lib.size_eq]; omega)]; simp [cntB]

set_option maxRecDepth 100000 in
set_option maxHeartbeats 1000000 in
theorem rrun2 (s : ByteArray) (b i q m : Nat) (w : World) (h : RSc w s b i) (hq : q ≤ 1048600) :
    Calls Tryz.prog 49 #[.pointer (some ⟨b, 0, none⟩), .int .i64 q, .int .i64 2] (w.drewN m) fun e w' => e = .returned (.int .i64 (cntB signB (s.data.toList.drop (i + q)) : Nat)) ∧ ∃ m', w' = w.drewN m' := by
  have hs : ∀ m, (w.drewN m).cell? ⟨b, 0, none⟩ = some (.string s) := fun m => h.txt
  have ha : ∀ m, (w.drewN m).cell? ⟨b, 1, none⟩ = some (.int .i64 i) := fun m => h.pos
  have hz := h.sz
  have hi := h.le
  clear h
  obtain ⟨N, hN⟩ : ∃ N, cntB signB (s.data.toList.drop (i + q)) = N := ⟨_, rfl⟩
  rw [hN]
  have HN : RowKit.Hid (N = 0 + cntB signB (s.data.toList.drop (i + q + 0))) := by rw [Nat.zero_add, Nat.add_zero]; exact hN.symm
  clear hN
  go_enter Tryz.func49, Tryz.ntmps49
  go_wp2_with fail
  go_loopw [7] (fun j wr => ∃ n m' : Nat, j = .int .i64 n ∧ wr = w.drewN m' ∧ n ≤ s.size ∧ N = n + cntB signB (s.data.toList.drop (i + q + n))) (fun j _ => s.size - (intOf j).toNat)
  case atStart => exact ⟨0, m, rfl, rfl, by omega, HN.out⟩
  case round =>
    clear HN
    obtain ⟨n, m', rfl, rfl, hle, hk⟩ := hrel
    have Hk := Lib.hid hk; clear hk
    have e1 : IntKind.i64.wrap ((i : Int) + q) = (i : Int) + q := IntWalk.i64_in _ (by omega)
    have e2 : IntKind.i64.wrap ((i : Int) + q + n) = (i : Int) + q + n := IntWalk.i64_in _ (by omega)
    by_cases hlt : i + q + n < s.size
    · have hd := cell_u8 s (i + q + n) hlt
      obtain ⟨x, hx⟩ : ∃ x : UInt8, s[i + q + n]'hlt = x := ⟨_, rfl⟩
      rw [hx] at hd
      have HD := Lib.hid hd; clear hd
      have hlz : (i : Int) + q + n < (s.size : Int) := by omega
      have hsn : ((i : Int) + q + n).toNat = i + q + n := by omega
      go_wp2_with fail
      go_quiet (fail)
      go_wp2_with fail
      go_quiet (fail)
      go_wp2_with fail
      refine (rSign_any x _).mono ?_
      rintro e w' ⟨rfl, rfl⟩
      obtain ⟨P, hP⟩ : ∃ P, (signB x) = P := ⟨_, rfl⟩
      rw [hP]
      have HP : RowKit.Hid (signB x = P) := hP
      clear hP
      cases P
      · go_wp2_with fail
        go_ret
        refine ⟨ret_int ?_, _, by first | rfl | (simp only [World.drewN_drewN]; rfl)⟩
        rw [Hk.out, HD.out]; simp only [cntB]; rw [if_neg (by rw [HP.out]; decide)]; omega
      · go_wp2_with fail
        go_roundw
        case rel => exact ⟨n + 1, _, by go_num, by first | rfl | (simp only [World.drewN_drewN]; rfl), by omega, by rw [Hk.out, HD.out]; simp only [cntB]; rw [if_pos HP.out, show i + q + (n + 1) = i + q + n + 1 from rfl]; omega⟩
        case measure => simp [intOf]; omega
    · have hlz : decide ((i : Int) + q + n < (s.size : Int)) = false := by simp; omega
      go_wp2_with fail
      go_quiet (fail)
      go_wp2_with fail
      go_ret
      refine ⟨ret_int ?_, _, by first | rfl | (simp only [World.drewN_drewN]; rfl)⟩
      rw [Hk.out, List.drop_of_length_le (by rw [← Lib.size_eq]; omega)]; simp [cntB]

set_option maxRecDepth 100000 in
set_option maxHeartbeats 1000000 in
theorem rrun3 (s : ByteArray) (b i q m : Nat) (w : World) (h : RSc w s b i) (hq : q ≤ 1048600) :
    Calls Tryz.prog 49 #[.pointer (some ⟨b, 0, none⟩), .int .i64 q, .int .i64 3] (w.drewN m) fun e w' => e = .returned (.int .i64 (cntB digitB (s.data.toList.drop (i + q)) : Nat)) ∧ ∃ m', w' = w.drewN m' := by
  have hs : ∀ m, (w.drewN m).cell? ⟨b, 0, none⟩ = some (.string s) := fun m => h.txt
  have ha : ∀ m, (w.drewN m).cell? ⟨b, 1, none⟩ = some (.int .i64 i) := fun m => h.pos
  have hz := h.sz
  have hi := h.le
  clear h
  obtain ⟨N, hN⟩ : ∃ N, cntB digitB (s.data.toList.drop (i + q)) = N := ⟨_, rfl⟩
  rw [hN]
  have HN : RowKit.Hid (N = 0 + cntB digitB (s.data.toList.drop (i + q + 0))) := by rw [Nat.zero_add, Nat.add_zero]; exact hN.symm
  clear hN
  go_enter Tryz.func49, Tryz.ntmps49
  go_wp2_with fail
  go_loopw [7] (fun j wr => ∃ n m' : Nat, j = .int .i64 n ∧ wr = w.drewN m' ∧ n ≤ s.size ∧ N = n + cntB digitB (s.data.toList.drop (i + q + n))) (fun j _ => s.size - (intOf j).toNat)
  case atStart => exact ⟨0, m, rfl, rfl, by omega, HN.out⟩
  case round =>
    clear HN
    obtain ⟨n, m', rfl, rfl, hle, hk⟩ := hrel
    have Hk := Lib.hid hk; clear hk
    have e1 : IntKind.i64.wrap ((i : Int) + q) = (i : Int) + q := IntWalk.i64_in _ (by omega)
    have e2 : IntKind.i64.wrap ((i : Int) + q + n) = (i : Int) + q + n := IntWalk.i64_in _ (by omega)
    by_cases hlt : i + q + n < s.size
    · have hd := cell_u8 s (i + q + n) hlt
      obtain ⟨x, hx⟩ : ∃ x : UInt8, s[i + q + n]'hlt = x := ⟨_, rfl⟩
      rw [hx] at hd
      have HD := Lib.hid hd; clear hd
      have hlz : (i : Int) + q + n < (s.size : Int) := by omega
      have hsn : ((i : Int) + q + n).toNat = i + q + n := by omega
      go_wp2_with fail
      go_quiet (fail)
      go_wp2_with fail
      go_quiet (fail)
      go_wp2_with fail
      refine (rDigit_any x.toNat _).mono ?_
      rintro e w' ⟨rfl, rfl⟩
      obtain ⟨P, hP⟩ : ∃ P, (digitI (x.toNat : Int)) = P := ⟨_, rfl⟩
      rw [hP]
      have HP : RowKit.Hid (digitB x = P) := hP
      clear hP
      cases P
      · go_wp2_with fail
        go_ret
        refine ⟨ret_int ?_, _, by first | rfl | (simp only [World.drewN_drewN]; rfl)⟩
        rw [Hk.out, HD.out]; simp only [cntB]; rw [if_neg (by rw [HP.out]; decide)]; omega
      · go_wp2_with fail
        go_roundw
        case rel => exact ⟨n + 1, _, by go_num, by first | rfl | (simp only [World.drewN_drewN]; rfl), by omega, by rw [Hk.out, HD.out]; simp only [cntB]; rw [if_pos HP.out, show i + q + (n + 1) = i + q + n + 1 from rfl]; omega⟩
        case measure => simp [intOf]; omega
    · have hlz : decide ((i : Int) + q + n < (s.size : Int)) = false := by simp; omega
      go_wp2_with fail
      go_quiet (fail)
      go_wp2_with fail
      go_ret
      refine ⟨ret_int ?_, _, by first | rfl | (simp only [World.drewN_drewN]; rfl)⟩
      rw [Hk.out, List.drop_of_length_le (by rw [← Lib.size_eq]; omega)]; simp [cntB]

set_option maxRecDepth 100000 in
set_option maxHeartbeats 1000000 in
theorem rrun4 (s : ByteArray) (b i q m : Nat) (w : World) (h : RSc w s b i) (hq : q ≤ 1048600) :
    Calls Tryz.prog 49 #[.pointer (some ⟨b, 0, none⟩), .int .i64 q, .int .i64 4] (w.drewN m) fun e w' => e = .returned (.int .i64 (cntB hexB (s.data.toList.drop (i + q)) : Nat)) ∧ ∃ m', w' = w.drewN m' := by
  have hs : ∀ m, (w.drewN m).cell? ⟨b, 0, none⟩ = some (.string s) := fun m => h.txt
  have ha : ∀ m, (w.drewN m).cell? ⟨b, 1, none⟩ = some (.int .i64 i) := fun m => h.pos
  have hz := h.sz
  have hi := h.le
  clear h
  obtain ⟨N, hN⟩ : ∃ N, cntB hexB (s.data.toList.drop (i + q)) = N := ⟨_, rfl⟩
  rw [hN]
  have HN : RowKit.Hid (N = 0 + cntB hexB (s.data.toList.drop (i + q + 0))) := by rw [Nat.zero_add, Nat.add_zero]; exact hN.symm
  clear hN
  go_enter Tryz.func49, Tryz.ntmps49
  go_wp2_with fail
  go_loopw [7] (fun j wr => ∃ n m' : Nat, j = .int .i64 n ∧ wr = w.drewN m' ∧ n ≤ s.size ∧ N = n + cntB hexB (s.data.toList.drop (i + q + n))) (fun j _ => s.size - (intOf j).toNat)
  case atStart => exact ⟨0, m, rfl, rfl, by omega, HN.out⟩
  case round =>
    clear HN
    obtain ⟨n, m', rfl, rfl, hle, hk⟩ := hrel
    have Hk := Lib.hid hk; clear hk
    have e1 : IntKind.i64.wrap ((i : Int) + q) = (i : Int) + q := IntWalk.i64_in _ (by omega)
    have e2 : IntKind.i64.wrap ((i : Int) + q + n) = (i : Int) + q + n := IntWalk.i64_in _ (by omega)
    by_cases hlt : i + q + n < s.size
    · have hd := cell_u8 s (i + q + n) hlt
      obtain ⟨x, hx⟩ : ∃ x : UInt8, s[i + q + n]'hlt = x := ⟨_, rfl⟩
      rw [hx] at hd
      have HD := Lib.hid hd; clear hd
      have hlz : (i : Int) + q + n < (s.size : Int) := by omega
      have hsn : ((i : Int) + q + n).toNat = i + q + n := by omega
      go_wp2_with fail
      go_quiet (fail)
      go_wp2_with fail
      go_quiet (fail)
      go_wp2_with fail
      refine (rhex_any x.toNat _).mono ?_
      rintro e w' ⟨rfl, rfl⟩
      obtain ⟨P, hP⟩ : ∃ P, (hexI (x.toNat : Int)) = P := ⟨_, rfl⟩
      rw [hP]
      have HP : RowKit.Hid (hexB x = P) := hP
      clear hP
      cases P
      · go_wp2_with fail
        go_ret
        refine ⟨ret_int ?_, _, by first | rfl | (simp only [World.drewN_drewN]; rfl)⟩
        rw [Hk.out, HD.out]; simp only [cntB]; rw [if_neg (by rw [HP.out]; decide)]; omega
      · go_wp2_with fail
        go_roundw
        case rel => exact ⟨n + 1, _, by go_num, by first | rfl | (simp only [World.drewN_drewN]; rfl), by omega, by rw [Hk.out, HD.out]; simp only [cntB]; rw [if_pos HP.out, show i + q + (n + 1) = i + q + n + 1 from rfl]; omega⟩
        case measure => simp [intOf]; omega
    · have hlz : decide ((i : Int) + q + n < (s.size : Int)) = false := by simp; omega
      go_wp2_with fail
      go_quiet (fail)
      go_wp2_with fail
      go_ret
      refine ⟨ret_int ?_, _, by first | rfl | (simp only [World.drewN_drewN]; rfl)⟩
      rw [Hk.out, List.drop_of_length_le (by rw [← Lib.size_eq]; omega)]; simp [cntB]

end Go.Proofs.YtcogfalhodjmfaaGreatDoor
