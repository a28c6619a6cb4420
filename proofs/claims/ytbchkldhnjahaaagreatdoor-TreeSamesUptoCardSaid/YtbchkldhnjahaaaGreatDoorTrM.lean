/- layered, operand (staged): what each call returns, and what it leaves. Conditions: those of each theorem. -/
import Derived.Test.YtbchkldhnjahaaaGreatDoorTrL
namespace Go.Proofs.YtbchkldhnjahaaaGreatDoor
open Go.RowKit Kiln
open Go.Proofs

section
variable {w0 : World} {tv : Value} {ts : List Tok} {b : Nat} {qs : List Nat} {w : World} {U : Rl} {st : PS} {L : Low}

theorem plainP_le (st : PS) : (plainP ts 0 st).2 ≤ 2 := by
  unfold plainP
  repeat' split
  all_goals simp
set_option maxRecDepth 100000 in
set_option maxHeartbeats 4000000 in
theorem layered_any0 (HT : Tks w0 tv ts) (HLow : LowOK w0 tv ts b L) (h1 : Ok w0 tv ts b 212 (apppatM ts L)) (hp : TSt w0 tv ts b qs w U st) (hne : layeredM ts L st ≠ .error .out) :
    Calls Tryz.prog 175 #[ptrV b] w (TPost w0 tv ts b qs idR (layeredM ts L st) w U) := by
  obtain ⟨R, hR⟩ : ∃ R, layeredM ts L st = R := ⟨_, rfl⟩
  rw [hR] at hne ⊢
  have HNE := Lib.hid hne
  unfold layeredM at hR
  have HR := Lib.hid hR.symm
  have HC := Lib.hid (Cur.start hp)
  clear hR hne hp
  go_enter Tryz.func175, Tryz.ntmps175
  go_wp2_with fail
  have hr_ := ro_step (g := hereP ts) HR.out
  clear HR
  have HR := Lib.hid hr_
  clear hr_
  refine (here_any HT HC.out.p).mono ?_
  rintro e w1 ⟨rfl, hb1⟩
  have hc1 := (HC.out).below hb1
  have HB1 := Lib.hid hb1
  clear HC hb1
  have HC := Lib.hid hc1
  clear hc1
  unfold spotV
  go_wp2_with fail
  have hc2 := HC.out.alloc (.cells #[.int .i64 (hereP ts st).1, .int .i64 (hereP ts st).2] 109)
  clear HC HB1
  have HC := Lib.hid hc2
  clear hc2
  have hr_ := ro_step (g := plainP ts 0) HR.out
  clear HR
  have HR := Lib.hid hr_
  clear hr_
  refine (plain_any HT HC.out.p 0 (by omega)).mono ?_
  rintro e w4 ⟨rfl, hb4⟩
  have hc4 := (HC.out).below hb4
  have HB4 := Lib.hid hb4
  clear HC hb4
  have HC := Lib.hid hc4
  clear hc4
  have hpl := plainP_le (ts := ts) st
  obtain ⟨p, hp⟩ : ∃ p, plainP ts 0 st = p := ⟨_, rfl⟩
  rw [hp] at HR hpl ⊢
  clear hp HB4
  obtain ⟨n, hn⟩ : ∃ n, p.2 = n := ⟨_, rfl⟩
  rw [hn] at HR hpl ⊢
  clear hn
  obtain rfl | rfl | rfl : n = 0 ∨ n = 1 ∨ n = 2 := by omega
  · have hr_ := HR.out
    simp only [Nat.lt_irrefl, Bool.false_eq_true, ↓reduceIte] at hr_
    clear HR
    have HR := Lib.hid hr_
    clear hr_
    have hr_ := ro_step (g := fun _ => false) HR.out
    clear HR
    have HR := Lib.hid hr_
    clear hr_
    have hr_ := HR.out
    simp only [Bool.false_and, Bool.false_eq_true, ↓reduceIte] at hr_
    clear HR
    have HR := Lib.hid hr_
    clear hr_
    have hr_ := ro_step (g := fun _ => false) HR.out
    clear HR
    have HR := Lib.hid hr_
    clear hr_
    have hr_ := HR.out
    simp only [Bool.false_and, Bool.false_eq_true, ↓reduceIte] at hr_
    clear HR
    have HR := Lib.hid hr_
    clear hr_
    go_wp2_with fail
    refine (row_any HT 212 (apppatM ts L) false (fun _ _ => rfl) h1 HC.out.p (ne_of HR.out HNE.out)).mono ?_
    intro e w7 hq7
    rcases (HC.out).call hq7 HR.out with ⟨x7, st7, v7, U7, rfl, rfl, hc7, hf7, hr7⟩ | ⟨ln, cl, kd, rfl, hb7, hd7⟩
    rotate_left
    · clear hq7 hb7
      have HD := Lib.hid hd7; clear hd7
      go_wp2_with fail
      exact ⟨rfl, HD.out _⟩
    have HF7 := Lib.hid hf7
    clear HR HC hq7 hf7
    have HC := Lib.hid hc7
    have HR := Lib.hid hr7
    clear hc7 hr7
    go_wp2_with fail
    refine (typed_any HT HLow x7 HC.out.p (HR.out ▸ HNE.out)).mono ?_
    intro e w9 hq9
    rcases (HC.out).last hq9 HR.out with ⟨x9, v9, U9, rfl, rfl, hd9⟩ | ⟨ln, cl, kd, rfl, hd9⟩
    rotate_left
    · clear hq9
      have HD := Lib.hid hd9; clear hd9
      go_wp2_with fail
      exact ⟨rfl, HD.out⟩
    have HFIN := Lib.hid hd9
    clear hd9 hq9
    go_wp2_with fail
    go_ret
    exact HFIN.out
  · have hr_ := HR.out
    simp only [show (0 : Nat) < 1 from by decide, Bool.false_eq_true, ↓reduceIte] at hr_
    clear HR
    have HR := Lib.hid hr_
    clear hr_
    have hr_ := ro_step (g := isP ts 1 [97, 115]) HR.out
    clear HR
    have HR := Lib.hid hr_
    clear hr_
    go_wp2_with fail
    refine (is_any HT HC.out.p 1 (by omega) [97, 115]).mono ?_
    rintro e w5 ⟨rfl, hb5⟩
    have hc5 := (HC.out).below hb5
    have HB5 := Lib.hid hb5
    clear HC hb5
    have HC := Lib.hid hc5
    clear hc5
    obtain ⟨A, hA⟩ : ∃ A, isP ts 1 [97, 115] st = A := ⟨_, rfl⟩
    rw [hA] at HR ⊢
    clear hA HB5
    cases A
    rotate_left
    · have hr_ := HR.out
      simp only [stageB, Bool.and_self, Bool.false_eq_true, ↓reduceIte] at hr_
      clear HR
      have HR := Lib.hid hr_
      clear hr_
      exact absurd HR.out HNE.out
    have hr_ := HR.out
    simp only [Bool.false_and, Bool.false_eq_true, ↓reduceIte] at hr_
    clear HR
    have HR := Lib.hid hr_
    clear hr_
    go_wp2_with fail
    have hr_ := ro_step (g := isP ts 1 [58]) HR.out
    clear HR
    have HR := Lib.hid hr_
    clear hr_
    refine (is_any HT HC.out.p 1 (by omega) [58]).mono ?_
    rintro e w6 ⟨rfl, hb6⟩
    have hc6 := (HC.out).below hb6
    have HB6 := Lib.hid hb6
    clear HC hb6
    have HC := Lib.hid hc6
    clear hc6
    obtain ⟨A, hA⟩ : ∃ A, isP ts 1 [58] st = A := ⟨_, rfl⟩
    rw [hA] at HR ⊢
    clear hA HB6
    cases A
    rotate_left
    · have hr_ := HR.out
      simp only [stageB, Bool.and_self, Bool.false_eq_true, ↓reduceIte] at hr_
      clear HR
      have HR := Lib.hid hr_
      clear hr_
      exact absurd HR.out HNE.out
    have hr_ := HR.out
    simp only [Bool.false_and, Bool.false_eq_true, ↓reduceIte] at hr_
    clear HR
    have HR := Lib.hid hr_
    clear hr_
    go_wp2_with fail
    refine (row_any HT 212 (apppatM ts L) false (fun _ _ => rfl) h1 HC.out.p (ne_of HR.out HNE.out)).mono ?_
    intro e w7 hq7
    rcases (HC.out).call hq7 HR.out with ⟨x7, st7, v7, U7, rfl, rfl, hc7, hf7, hr7⟩ | ⟨ln, cl, kd, rfl, hb7, hd7⟩
    rotate_left
    · clear hq7 hb7
      have HD := Lib.hid hd7; clear hd7
      go_wp2_with fail
      exact ⟨rfl, HD.out _⟩
    have HF7 := Lib.hid hf7
    clear HR HC hq7 hf7
    have HC := Lib.hid hc7
    have HR := Lib.hid hr7
    clear hc7 hr7
    go_wp2_with fail
    refine (typed_any HT HLow x7 HC.out.p (HR.out ▸ HNE.out)).mono ?_
    intro e w9 hq9
    rcases (HC.out).last hq9 HR.out with ⟨x9, v9, U9, rfl, rfl, hd9⟩ | ⟨ln, cl, kd, rfl, hd9⟩
    rotate_left
    · clear hq9
      have HD := Lib.hid hd9; clear hd9
      go_wp2_with fail
      exact ⟨rfl, HD.out⟩
    have HFIN := Lib.hid hd9
    clear hd9 hq9
    go_wp2_with fail
    go_ret
    exact HFIN.out
  · have hr_ := HR.out
    simp only [show (0 : Nat) < 2 from by decide, Bool.false_eq_true, ↓reduceIte] at hr_
    clear HR
    have HR := Lib.hid hr_
    clear hr_
    have hr_ := ro_step (g := isP ts 2 [97, 115]) HR.out
    clear HR
    have HR := Lib.hid hr_
    clear hr_
    go_wp2_with fail
    refine (is_any HT HC.out.p 2 (by omega) [97, 115]).mono ?_
    rintro e w5 ⟨rfl, hb5⟩
    have hc5 := (HC.out).below hb5
    have HB5 := Lib.hid hb5
    clear HC hb5
    have HC := Lib.hid hc5
    clear hc5
    obtain ⟨A, hA⟩ : ∃ A, isP ts 2 [97, 115] st = A := ⟨_, rfl⟩
    rw [hA] at HR ⊢
    clear hA HB5
    cases A
    rotate_left
    · have hr_ := HR.out
      simp only [stageB, Bool.and_self, Bool.false_eq_true, ↓reduceIte] at hr_
      clear HR
      have HR := Lib.hid hr_
      clear hr_
      exact absurd HR.out HNE.out
    have hr_ := HR.out
    simp only [Bool.false_and, Bool.false_eq_true, ↓reduceIte] at hr_
    clear HR
    have HR := Lib.hid hr_
    clear hr_
    go_wp2_with fail
    have hr_ := ro_step (g := isP ts 2 [58]) HR.out
    clear HR
    have HR := Lib.hid hr_
    clear hr_
    refine (is_any HT HC.out.p 2 (by omega) [58]).mono ?_
    rintro e w6 ⟨rfl, hb6⟩
    have hc6 := (HC.out).below hb6
    have HB6 := Lib.hid hb6
    clear HC hb6
    have HC := Lib.hid hc6
    clear hc6
    obtain ⟨A, hA⟩ : ∃ A, isP ts 2 [58] st = A := ⟨_, rfl⟩
    rw [hA] at HR ⊢
    clear hA HB6
    cases A
    rotate_left
    · have hr_ := HR.out
      simp only [stageB, Bool.and_self, Bool.false_eq_true, ↓reduceIte] at hr_
      clear HR
      have HR := Lib.hid hr_
      clear hr_
      exact absurd HR.out HNE.out
    have hr_ := HR.out
    simp only [Bool.false_and, Bool.false_eq_true, ↓reduceIte] at hr_
    clear HR
    have HR := Lib.hid hr_
    clear hr_
    go_wp2_with fail
    refine (row_any HT 212 (apppatM ts L) false (fun _ _ => rfl) h1 HC.out.p (ne_of HR.out HNE.out)).mono ?_
    intro e w7 hq7
    rcases (HC.out).call hq7 HR.out with ⟨x7, st7, v7, U7, rfl, rfl, hc7, hf7, hr7⟩ | ⟨ln, cl, kd, rfl, hb7, hd7⟩
    rotate_left
    · clear hq7 hb7
      have HD := Lib.hid hd7; clear hd7
      go_wp2_with fail
      exact ⟨rfl, HD.out _⟩
    have HF7 := Lib.hid hf7
    clear HR HC hq7 hf7
    have HC := Lib.hid hc7
    have HR := Lib.hid hr7
    clear hc7 hr7
    go_wp2_with fail
    refine (typed_any HT HLow x7 HC.out.p (HR.out ▸ HNE.out)).mono ?_
    intro e w9 hq9
    rcases (HC.out).last hq9 HR.out with ⟨x9, v9, U9, rfl, rfl, hd9⟩ | ⟨ln, cl, kd, rfl, hd9⟩
    rotate_left
    · clear hq9
      have HD := Lib.hid hd9; clear hd9
      go_wp2_with fail
      exact ⟨rfl, HD.out⟩
    have HFIN := Lib.hid hd9
    clear hd9 hq9
    go_wp2_with fail
    go_ret
    exact HFIN.out

set_option maxRecDepth 100000 in
set_option maxHeartbeats 4000000 in
theorem operand_any0 (HT : Tks w0 tv ts) (HLow : LowOK w0 tv ts b L) (h1 : Ok w0 tv ts b 280 (appM ts L)) (hp : TSt w0 tv ts b qs w U st) (hne : operandM ts L st ≠ .error .out) :
    Calls Tryz.prog 259 #[ptrV b] w (TPost w0 tv ts b qs idR (operandM ts L st) w U) := by
  obtain ⟨R, hR⟩ : ∃ R, operandM ts L st = R := ⟨_, rfl⟩
  rw [hR] at hne ⊢
  have HNE := Lib.hid hne
  unfold operandM at hR
  have HR := Lib.hid hR.symm
  have HC := Lib.hid (Cur.start hp)
  clear hR hne hp
  go_enter Tryz.func259, Tryz.ntmps259
  go_wp2_with fail
  have hr_ := ro_step (g := hereP ts) HR.out
  clear HR
  have HR := Lib.hid hr_
  clear hr_
  refine (here_any HT HC.out.p).mono ?_
  rintro e w6 ⟨rfl, hb6⟩
  have hc6 := (HC.out).below hb6
  have HB6 := Lib.hid hb6
  clear HC hb6
  have HC := Lib.hid hc6
  clear hc6
  unfold spotV
  go_wp2_with fail
  have hc2 := HC.out.alloc (.cells #[.int .i64 (hereP ts st).1, .int .i64 (hereP ts st).2] 109)
  clear HC HB6
  have HC := Lib.hid hc2
  clear hc2
  refine (take_any HT HC.out.p [105, 102]).mono ?_
  intro e w1 hq1
  rcases (HC.out).call hq1 HR.out with ⟨x1, st1, v1, U1, rfl, rfl, hc1, hf1, hr1⟩ | ⟨ln, cl, kd, rfl, hb1, hd1⟩
  rotate_left
  · clear hq1 hb1
    have HD := Lib.hid hd1; clear hd1
    go_wp2_with fail
    exact ⟨rfl, HD.out _⟩
  have HF1 := Lib.hid hf1
  clear HR HC hq1 hf1
  have HC := Lib.hid hc1
  have HR := Lib.hid hr1
  clear hc1 hr1
  clear HF1
  cases x1
  rotate_left
  · have hr_ := HR.out
    simp only [stageB, Bool.false_eq_true, ↓reduceIte] at hr_
    clear HR
    have HR := Lib.hid hr_
    clear hr_
    exact absurd HR.out HNE.out
  have hr_ := HR.out
  simp only [Bool.false_eq_true, ↓reduceIte] at hr_
  clear HR
  have HR := Lib.hid hr_
  clear hr_
  obtain ⟨wn, hwn⟩ : ∃ wn, w1 = wn := ⟨_, rfl⟩
  rw [hwn] at HC ⊢
  clear hwn w1
  obtain ⟨sn, hsn⟩ : ∃ sn, st1 = sn := ⟨_, rfl⟩
  rw [hsn] at HC HR
  clear hsn st1
  go_wp2_with fail
  refine (take_any HT HC.out.p [119, 104, 105, 108, 101]).mono ?_
  intro e w1 hq1
  rcases (HC.out).call hq1 HR.out with ⟨x1, st1, v1, U1, rfl, rfl, hc1, hf1, hr1⟩ | ⟨ln, cl, kd, rfl, hb1, hd1⟩
  rotate_left
  · clear hq1 hb1
    have HD := Lib.hid hd1; clear hd1
    go_wp2_with fail
    exact ⟨rfl, HD.out _⟩
  have HF1 := Lib.hid hf1
  clear HR HC hq1 hf1
  have HC := Lib.hid hc1
  have HR := Lib.hid hr1
  clear hc1 hr1
  clear HF1
  cases x1
  rotate_left
  · have hr_ := HR.out
    simp only [stageB, Bool.false_eq_true, ↓reduceIte] at hr_
    clear HR
    have HR := Lib.hid hr_
    clear hr_
    exact absurd HR.out HNE.out
  have hr_ := HR.out
  simp only [Bool.false_eq_true, ↓reduceIte] at hr_
  clear HR
  have HR := Lib.hid hr_
  clear hr_
  obtain ⟨wn, hwn⟩ : ∃ wn, w1 = wn := ⟨_, rfl⟩
  rw [hwn] at HC ⊢
  clear hwn w1
  obtain ⟨sn, hsn⟩ : ∃ sn, st1 = sn := ⟨_, rfl⟩
  rw [hsn] at HC HR
  clear hsn st1
  go_wp2_with fail
  refine (take_any HT HC.out.p [99, 97, 115, 101]).mono ?_
  intro e w1 hq1
  rcases (HC.out).call hq1 HR.out with ⟨x1, st1, v1, U1, rfl, rfl, hc1, hf1, hr1⟩ | ⟨ln, cl, kd, rfl, hb1, hd1⟩
  rotate_left
  · clear hq1 hb1
    have HD := Lib.hid hd1; clear hd1
    go_wp2_with fail
    exact ⟨rfl, HD.out _⟩
  have HF1 := Lib.hid hf1
  clear HR HC hq1 hf1
  have HC := Lib.hid hc1
  have HR := Lib.hid hr1
  clear hc1 hr1
  clear HF1
  cases x1
  rotate_left
  · have hr_ := HR.out
    simp only [stageB, Bool.false_eq_true, ↓reduceIte] at hr_
    clear HR
    have HR := Lib.hid hr_
    clear hr_
    exact absurd HR.out HNE.out
  have hr_ := HR.out
  simp only [Bool.false_eq_true, ↓reduceIte] at hr_
  clear HR
  have HR := Lib.hid hr_
  clear hr_
  obtain ⟨wn, hwn⟩ : ∃ wn, w1 = wn := ⟨_, rfl⟩
  rw [hwn] at HC ⊢
  clear hwn w1
  obtain ⟨sn, hsn⟩ : ∃ sn, st1 = sn := ⟨_, rfl⟩
  rw [hsn] at HC HR
  clear hsn st1
  go_wp2_with fail
  refine (take_any HT HC.out.p [102, 110]).mono ?_
  intro e w1 hq1
  rcases (HC.out).call hq1 HR.out with ⟨x1, st1, v1, U1, rfl, rfl, hc1, hf1, hr1⟩ | ⟨ln, cl, kd, rfl, hb1, hd1⟩
  rotate_left
  · clear hq1 hb1
    have HD := Lib.hid hd1; clear hd1
    go_wp2_with fail
    exact ⟨rfl, HD.out _⟩
  have HF1 := Lib.hid hf1
  clear HR HC hq1 hf1
  have HC := Lib.hid hc1
  have HR := Lib.hid hr1
  clear hc1 hr1
  clear HF1
  cases x1
  rotate_left
  · have hr_ := HR.out
    simp only [stageB, Bool.false_eq_true, ↓reduceIte] at hr_
    clear HR
    have HR := Lib.hid hr_
    clear hr_
    exact absurd HR.out HNE.out
  have hr_ := HR.out
  simp only [Bool.false_eq_true, ↓reduceIte] at hr_
  clear HR
  have HR := Lib.hid hr_
  clear hr_
  obtain ⟨wn, hwn⟩ : ∃ wn, w1 = wn := ⟨_, rfl⟩
  rw [hwn] at HC ⊢
  clear hwn w1
  obtain ⟨sn, hsn⟩ : ∃ sn, st1 = sn := ⟨_, rfl⟩
  rw [hsn] at HC HR
  clear hsn st1
  go_wp2_with fail
  refine (take_any HT HC.out.p [114, 97, 105, 115, 101]).mono ?_
  intro e w1 hq1
  rcases (HC.out).call hq1 HR.out with ⟨x1, st1, v1, U1, rfl, rfl, hc1, hf1, hr1⟩ | ⟨ln, cl, kd, rfl, hb1, hd1⟩
  rotate_left
  · clear hq1 hb1
    have HD := Lib.hid hd1; clear hd1
    go_wp2_with fail
    exact ⟨rfl, HD.out _⟩
  have HF1 := Lib.hid hf1
  clear HR HC hq1 hf1
  have HC := Lib.hid hc1
  have HR := Lib.hid hr1
  clear hc1 hr1
  clear HF1
  cases x1
  rotate_left
  · have hr_ := HR.out
    simp only [stageB, Bool.false_eq_true, ↓reduceIte] at hr_
    clear HR
    have HR := Lib.hid hr_
    clear hr_
    exact absurd HR.out HNE.out
  have hr_ := HR.out
  simp only [Bool.false_eq_true, ↓reduceIte] at hr_
  clear HR
  have HR := Lib.hid hr_
  clear hr_
  obtain ⟨wn, hwn⟩ : ∃ wn, w1 = wn := ⟨_, rfl⟩
  rw [hwn] at HC ⊢
  clear hwn w1
  obtain ⟨sn, hsn⟩ : ∃ sn, st1 = sn := ⟨_, rfl⟩
  rw [hsn] at HC HR
  clear hsn st1
  go_wp2_with fail
  refine (row_any HT 280 (appM ts L) true (fun _ _ => rfl) h1 HC.out.p (ne_of HR.out HNE.out)).mono ?_
  intro e w1 hq1
  rcases (HC.out).call hq1 HR.out with ⟨x1, st1, v1, U1, rfl, rfl, hc1, hf1, hr1⟩ | ⟨ln, cl, kd, rfl, hb1, hd1⟩
  rotate_left
  · clear hq1 hb1
    have HD := Lib.hid hd1; clear hd1
    go_wp2_with fail
    exact ⟨rfl, HD.out _⟩
  have HF1 := Lib.hid hf1
  clear HR HC hq1 hf1
  have HC := Lib.hid hc1
  have HR := Lib.hid hr1
  clear hc1 hr1
  clear HF1
  go_wp2_with fail
  go_loopg [8] (ts.length + 1) (fun g v wr => ∃ e st' U', v = .int .i64 (e : Nat) ∧ Cur w0 tv ts b qs w U wr U' st' ∧ R = (typedL ts L 18 g e) st')
  case atStart => exact ⟨x1, st1, U1, rfl, HC.out, HR.out⟩
  case round =>
    clear HC HR
    obtain ⟨e1, st', U', rfl, hc, hr⟩ := hrel
    cases gk with
    | zero => exact absurd hr HNE.out
    | succ fu =>
      unfold typedL at hr
      have HR := Lib.hid hr
      have HC := Lib.hid hc
      clear hr hc
      go_wp2_with fail
      refine (take_any HT HC.out.p [58]).mono ?_
      intro e w2 hq2
      rcases (HC.out).call hq2 HR.out with ⟨x2, st2, v2, U2, rfl, rfl, hc2, hf2, hr2⟩ | ⟨ln, cl, kd, rfl, hb2, hd2⟩
      rotate_left
      · clear hq2 hb2
        have HD := Lib.hid hd2; clear hd2
        go_wp2_with fail
        exact ⟨rfl, HD.out _⟩
      have HF2 := Lib.hid hf2
      clear HR HC hq2 hf2
      have HC := Lib.hid hc2
      have HR := Lib.hid hr2
      clear hc2 hr2
      cases x2
      · have hr_ := HR.out
        simp only [Bool.false_eq_true, ↓reduceIte] at hr_
        clear HR
        have HR := Lib.hid hr_
        clear hr_
        go_wp2_with fail
        go_ret
        exact TPost.good HR.out rfl rfl HC.out.p HC.out.f
      · have hr_ := HR.out
        simp only [Bool.false_eq_true, ↓reduceIte] at hr_
        clear HR
        have HR := Lib.hid hr_
        clear hr_
        have ho_ := of_step HR.out HNE.out
        clear HR
        have hlt := ho_.1
        have HR := Lib.hid ho_.2
        clear ho_
        go_wp2_with fail
        refine (of_any HC.out.p e1 hlt).mono ?_
        rintro e w3 ⟨rfl, hb3⟩
        have hc3 := (HC.out).below hb3
        have HB3 := Lib.hid hb3
        clear HC hb3
        have HC := Lib.hid hc3
        clear hc3
        clear hlt
        go_wp2_with fail
        refine (HLow.ty HC.out.p (ne_of HR.out HNE.out)).mono ?_
        intro e w4 hq4
        rcases (HC.out).call hq4 HR.out with ⟨x4, st4, v4, U4, rfl, rfl, hc4, hf4, hr4⟩ | ⟨ln, cl, kd, rfl, hb4, hd4⟩
        rotate_left
        · clear hq4 hb4
          have HD := Lib.hid hd4; clear hd4
          go_wp2_with fail
          exact ⟨rfl, HD.out _⟩
        have HF4 := Lib.hid hf4
        clear HR HC hq4 hf4
        have HC := Lib.hid hc4
        have HR := Lib.hid hr4
        clear hc4 hr4
        go_wp2_with fail
        have hl := HC.out.lit [e1, x4] _ rfl (by unfold maxLen; simp)
        refine (put_any hl.1.p (ofP e1 st2) 18 [] [e1, x4] _ hl.2.1 hl.2.2 (by simp) (ne_of HR.out HNE.out)).mono ?_
        intro e w9 hq9
        rcases (hl.1).call hq9 HR.out with ⟨x9, st9, v9, U9, rfl, rfl, hc9, hf9, hr9⟩ | ⟨ln, cl, kd, rfl, hb9, hd9⟩
        rotate_left
        · clear hq9 hb9
          have HD := Lib.hid hd9; clear hd9
          go_wp2_with fail
          exact ⟨rfl, HD.out _⟩
        have HF9 := Lib.hid hf9
        clear HR HC hq9 hf9
        have HC := Lib.hid hc9
        have HR := Lib.hid hr9
        clear hc9 hr9
        clear hl
        go_wp2_with fail
        go_roundg fu
        case measure => omega
        case rel => exact ⟨x9, st9, U9, rfl, HC.out, HR.out⟩

section
variable {w0 : World} {tv : Value} {ts : List Tok} {b : Nat} {L : Low}
theorem apppat_ok (HT : Tks w0 tv ts) : Ok w0 tv ts b 212 (apppatM ts L) := fun _ _ _ _ hp hne => apppat_any HT hp hne
theorem layered_ok (HT : Tks w0 tv ts) (HLow : LowOK w0 tv ts b L) : Ok w0 tv ts b 175 (layeredM ts L) := fun _ _ _ _ hp hne => layered_any0 HT HLow (apppat_ok HT) hp hne
theorem pat_ok (HT : Tks w0 tv ts) (HLow : LowOK w0 tv ts b L) : Ok w0 tv ts b 132 (patM ts L) := fun _ _ _ _ hp hne => pat_any0 HT (layered_ok HT HLow) hp hne
theorem atexp_ok (HT : Tks w0 tv ts) : Ok w0 tv ts b 292 (atexpM ts L) := fun _ _ _ _ hp hne => atexp_any HT hp hne
theorem app_ok (HT : Tks w0 tv ts) : Ok w0 tv ts b 280 (appM ts L) := fun _ _ _ _ hp hne => app_any0 HT (atexp_ok HT) hp hne
theorem operand_ok (HT : Tks w0 tv ts) (HLow : LowOK w0 tv ts b L) : Ok w0 tv ts b 259 (operandM ts L) := fun _ _ _ _ hp hne => operand_any0 HT HLow (app_ok HT) hp hne
theorem both_ok (HT : Tks w0 tv ts) (HLow : LowOK w0 tv ts b L) : Ok w0 tv ts b 213 (bothM ts L) := fun _ _ _ _ hp hne => both_any0 HT (operand_ok HT HLow) hp hne
theorem or_ok (HT : Tks w0 tv ts) (HLow : LowOK w0 tv ts b L) : Ok w0 tv ts b 176 (Kiln.orM ts L) := fun _ _ _ _ hp hne => or_any0 HT (both_ok HT HLow) hp hne
theorem exp_ok (HT : Tks w0 tv ts) (HLow : LowOK w0 tv ts b L) : Ok w0 tv ts b 134 (expM ts L) := fun _ _ _ _ hp hne => exp_any0 HT HLow (or_ok HT HLow) hp hne
end

end
end Go.Proofs.YtbchkldhnjahaaaGreatDoor
