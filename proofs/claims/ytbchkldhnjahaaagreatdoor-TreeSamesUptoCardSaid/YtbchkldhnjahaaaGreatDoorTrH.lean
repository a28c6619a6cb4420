/- Expressions in chains: both, or, app, exp: what each call returns, and what it leaves. Conditions: those of each theorem. -/
import Derived.Test.YtbchkldhnjahaaaGreatDoorTrG
namespace Go.Proofs.YtbchkldhnjahaaaGreatDoor
open Go.RowKit Kiln
open Go.Proofs

section
variable {w0 : World} {tv : Value} {ts : List Tok} {b : Nat} {qs : List Nat} {w : World} {U : Rl} {st : PS} {L : Low}

set_option maxRecDepth 100000 in
set_option maxHeartbeats 2000000 in
theorem both_any0 (HT : Tks w0 tv ts) (h1 : Ok w0 tv ts b 259 (operandM ts L)) (hp : TSt w0 tv ts b qs w U st) (hne : bothM ts L st ≠ .error .out) :
    Calls Tryz.prog 213 #[ptrV b] w (TPost w0 tv ts b qs idR (bothM ts L st) w U) := by
  obtain ⟨R, hR⟩ : ∃ R, bothM ts L st = R := ⟨_, rfl⟩
  rw [hR] at hne ⊢
  have HNE := Lib.hid hne
  unfold bothM at hR
  have HR := Lib.hid hR.symm
  have HC := Lib.hid (Cur.start hp)
  clear hR hne hp
  go_enter Tryz.func213, Tryz.ntmps213
  go_wp2_with fail
  refine (h1 _ _ _ _ HC.out.p (ne_of HR.out HNE.out)).mono ?_
  intro e w1 hq1
  rcases (HC.out).call hq1 HR.out with ⟨x1, st1, v1, U1, rfl, rfl, hc1, hf1, hr1⟩ | ⟨ln, cl, kd, rfl, hb1, hd1⟩
  rotate_left
  · clear hq1 hb1
    have HD := Lib.hid hd1; clear hd1
    go_wp2_with fail
    exact ⟨rfl, HD.out _⟩
  have HF1 := Lib.hid hf1
  clear HR HC hq1 hf1
  have HC := Lib.hid hc1
  have HR := Lib.hid hr1
  clear hc1 hr1
  clear HF1
  go_wp2_with fail
  go_loopg [3] (ts.length + 1) (fun g v wr => ∃ e st' U', v = .int .i64 (e : Nat) ∧ Cur w0 tv ts b qs w U wr U' st' ∧ R = (chainL ts [97, 110, 100, 97, 108, 115, 111] 19 (operandM ts L) g e) st')
  case atStart => exact ⟨x1, st1, U1, rfl, HC.out, HR.out⟩
  case round =>
    clear HC HR
    obtain ⟨e1, st', U', rfl, hc, hr⟩ := hrel
    cases gk with
    | zero => exact absurd hr HNE.out
    | succ fu =>
      unfold chainL at hr
      have HR := Lib.hid hr
      have HC := Lib.hid hc
      clear hr hc
      go_wp2_with fail
      refine (take_any HT HC.out.p [97, 110, 100, 97, 108, 115, 111]).mono ?_
      intro e w2 hq2
      rcases (HC.out).call hq2 HR.out with ⟨x2, st2, v2, U2, rfl, rfl, hc2, hf2, hr2⟩ | ⟨ln, cl, kd, rfl, hb2, hd2⟩
      rotate_left
      · clear hq2 hb2
        have HD := Lib.hid hd2; clear hd2
        go_wp2_with fail
        exact ⟨rfl, HD.out _⟩
      have HF2 := Lib.hid hf2
      clear HR HC hq2 hf2
      have HC := Lib.hid hc2
      have HR := Lib.hid hr2
      clear hc2 hr2
      cases x2
      · have hr_ := HR.out
        simp only [Bool.false_eq_true, ↓reduceIte] at hr_
        clear HR
        have HR := Lib.hid hr_
        clear hr_
        go_wp2_with fail
        go_ret
        exact TPost.good HR.out rfl rfl HC.out.p HC.out.f
      · have hr_ := HR.out
        simp only [Bool.false_eq_true, ↓reduceIte] at hr_
        clear HR
        have HR := Lib.hid hr_
        clear hr_
        have ho_ := of_step HR.out HNE.out
        clear HR
        have hlt := ho_.1
        have HR := Lib.hid ho_.2
        clear ho_
        go_wp2_with fail
        refine (of_any HC.out.p e1 hlt).mono ?_
        rintro e w3 ⟨rfl, hb3⟩
        have hc3 := (HC.out).below hb3
        have HB3 := Lib.hid hb3
        clear HC hb3
        have HC := Lib.hid hc3
        clear hc3
        clear hlt
        go_wp2_with fail
        refine (h1 _ _ _ _ HC.out.p (ne_of HR.out HNE.out)).mono ?_
        intro e w4 hq4
        rcases (HC.out).call hq4 HR.out with ⟨x4, st4, v4, U4, rfl, rfl, hc4, hf4, hr4⟩ | ⟨ln, cl, kd, rfl, hb4, hd4⟩
        rotate_left
        · clear hq4 hb4
          have HD := Lib.hid hd4; clear hd4
          go_wp2_with fail
          exact ⟨rfl, HD.out _⟩
        have HF4 := Lib.hid hf4
        clear HR HC hq4 hf4
        have HC := Lib.hid hc4
        have HR := Lib.hid hr4
        clear hc4 hr4
        go_wp2_with fail
        have hl := HC.out.lit [e1, x4] _ rfl (by unfold maxLen; simp)
        refine (put_any hl.1.p (ofP e1 st2) 19 [] [e1, x4] _ hl.2.1 hl.2.2 (by simp) (ne_of HR.out HNE.out)).mono ?_
        intro e w9 hq9
        rcases (hl.1).call hq9 HR.out with ⟨x9, st9, v9, U9, rfl, rfl, hc9, hf9, hr9⟩ | ⟨ln, cl, kd, rfl, hb9, hd9⟩
        rotate_left
        · clear hq9 hb9
          have HD := Lib.hid hd9; clear hd9
          go_wp2_with fail
          exact ⟨rfl, HD.out _⟩
        have HF9 := Lib.hid hf9
        clear HR HC hq9 hf9
        have HC := Lib.hid hc9
        have HR := Lib.hid hr9
        clear hc9 hr9
        clear hl
        go_wp2_with fail
        go_roundg fu
        case measure => omega
        case rel => exact ⟨x9, st9, U9, rfl, HC.out, HR.out⟩

set_option maxRecDepth 100000 in
set_option maxHeartbeats 2000000 in
theorem or_any0 (HT : Tks w0 tv ts) (h1 : Ok w0 tv ts b 213 (bothM ts L)) (hp : TSt w0 tv ts b qs w U st) (hne : Kiln.orM ts L st ≠ .error .out) :
    Calls Tryz.prog 176 #[ptrV b] w (TPost w0 tv ts b qs idR (Kiln.orM ts L st) w U) := by
  obtain ⟨R, hR⟩ : ∃ R, Kiln.orM ts L st = R := ⟨_, rfl⟩
  rw [hR] at hne ⊢
  have HNE := Lib.hid hne
  unfold Kiln.orM at hR
  have HR := Lib.hid hR.symm
  have HC := Lib.hid (Cur.start hp)
  clear hR hne hp
  go_enter Tryz.func176, Tryz.ntmps176
  go_wp2_with fail
  refine (h1 _ _ _ _ HC.out.p (ne_of HR.out HNE.out)).mono ?_
  intro e w1 hq1
  rcases (HC.out).call hq1 HR.out with ⟨x1, st1, v1, U1, rfl, rfl, hc1, hf1, hr1⟩ | ⟨ln, cl, kd, rfl, hb1, hd1⟩
  rotate_left
  · clear hq1 hb1
    have HD := Lib.hid hd1; clear hd1
    go_wp2_with fail
    exact ⟨rfl, HD.out _⟩
  have HF1 := Lib.hid hf1
  clear HR HC hq1 hf1
  have HC := Lib.hid hc1
  have HR := Lib.hid hr1
  clear hc1 hr1
  clear HF1
  go_wp2_with fail
  go_loopg [3] (ts.length + 1) (fun g v wr => ∃ e st' U', v = .int .i64 (e : Nat) ∧ Cur w0 tv ts b qs w U wr U' st' ∧ R = (chainL ts [111, 114, 101, 108, 115, 101] 20 (bothM ts L) g e) st')
  case atStart => exact ⟨x1, st1, U1, rfl, HC.out, HR.out⟩
  case round =>
    clear HC HR
    obtain ⟨e1, st', U', rfl, hc, hr⟩ := hrel
    cases gk with
    | zero => exact absurd hr HNE.out
    | succ fu =>
      unfold chainL at hr
      have HR := Lib.hid hr
      have HC := Lib.hid hc
      clear hr hc
      go_wp2_with fail
      refine (take_any HT HC.out.p [111, 114, 101, 108, 115, 101]).mono ?_
      intro e w2 hq2
      rcases (HC.out).call hq2 HR.out with ⟨x2, st2, v2, U2, rfl, rfl, hc2, hf2, hr2⟩ | ⟨ln, cl, kd, rfl, hb2, hd2⟩
      rotate_left
      · clear hq2 hb2
        have HD := Lib.hid hd2; clear hd2
        go_wp2_with fail
        exact ⟨rfl, HD.out _⟩
      have HF2 := Lib.hid hf2
      clear HR HC hq2 hf2
      have HC := Lib.hid hc2
      have HR := Lib.hid hr2
      clear hc2 hr2
      cases x2
      · have hr_ := HR.out
        simp only [Bool.false_eq_true, ↓reduceIte] at hr_
        clear HR
        have HR := Lib.hid hr_
        clear hr_
        go_wp2_with fail
        go_ret
        exact TPost.good HR.out rfl rfl HC.out.p HC.out.f
      · have hr_ := HR.out
        simp only [Bool.false_eq_true, ↓reduceIte] at hr_
        clear HR
        have HR := Lib.hid hr_
        clear hr_
        have ho_ := of_step HR.out HNE.out
        clear HR
        have hlt := ho_.1
        have HR := Lib.hid ho_.2
        clear ho_
        go_wp2_with fail
        refine (of_any HC.out.p e1 hlt).mono ?_
        rintro e w3 ⟨rfl, hb3⟩
        have hc3 := (HC.out).below hb3
        have HB3 := Lib.hid hb3
        clear HC hb3
        have HC := Lib.hid hc3
        clear hc3
        clear hlt
        go_wp2_with fail
        refine (h1 _ _ _ _ HC.out.p (ne_of HR.out HNE.out)).mono ?_
        intro e w4 hq4
        rcases (HC.out).call hq4 HR.out with ⟨x4, st4, v4, U4, rfl, rfl, hc4, hf4, hr4⟩ | ⟨ln, cl, kd, rfl, hb4, hd4⟩
        rotate_left
        · clear hq4 hb4
          have HD := Lib.hid hd4; clear hd4
          go_wp2_with fail
          exact ⟨rfl, HD.out _⟩
        have HF4 := Lib.hid hf4
        clear HR HC hq4 hf4
        have HC := Lib.hid hc4
        have HR := Lib.hid hr4
        clear hc4 hr4
        go_wp2_with fail
        have hl := HC.out.lit [e1, x4] _ rfl (by unfold maxLen; simp)
        refine (put_any hl.1.p (ofP e1 st2) 20 [] [e1, x4] _ hl.2.1 hl.2.2 (by simp) (ne_of HR.out HNE.out)).mono ?_
        intro e w9 hq9
        rcases (hl.1).call hq9 HR.out with ⟨x9, st9, v9, U9, rfl, rfl, hc9, hf9, hr9⟩ | ⟨ln, cl, kd, rfl, hb9, hd9⟩
        rotate_left
        · clear hq9 hb9
          have HD := Lib.hid hd9; clear hd9
          go_wp2_with fail
          exact ⟨rfl, HD.out _⟩
        have HF9 := Lib.hid hf9
        clear HR HC hq9 hf9
        have HC := Lib.hid hc9
        have HR := Lib.hid hr9
        clear hc9 hr9
        clear hl
        go_wp2_with fail
        go_roundg fu
        case measure => omega
        case rel => exact ⟨x9, st9, U9, rfl, HC.out, HR.out⟩

set_option maxRecDepth 100000 in
set_option maxHeartbeats 2000000 in
theorem app_any0 (HT : Tks w0 tv ts) (h1 : Ok w0 tv ts b 292 (atexpM ts L)) (hp : TSt w0 tv ts b qs w U st) (hne : appM ts L st ≠ .error .out) :
    Calls Tryz.prog 280 #[ptrV b] w (TPost w0 tv ts b qs idR (appM ts L st) w U) := by
  obtain ⟨R, hR⟩ : ∃ R, appM ts L st = R := ⟨_, rfl⟩
  rw [hR] at hne ⊢
  have HNE := Lib.hid hne
  unfold appM at hR
  have HR := Lib.hid hR.symm
  have HC := Lib.hid (Cur.start hp)
  clear hR hne hp
  go_enter Tryz.func280, Tryz.ntmps280
  go_wp2_with fail
  refine (h1 _ _ _ _ HC.out.p (ne_of HR.out HNE.out)).mono ?_
  intro e w1 hq1
  rcases (HC.out).call hq1 HR.out with ⟨x1, st1, v1, U1, rfl, rfl, hc1, hf1, hr1⟩ | ⟨ln, cl, kd, rfl, hb1, hd1⟩
  rotate_left
  · clear hq1 hb1
    have HD := Lib.hid hd1; clear hd1
    go_wp2_with fail
    exact ⟨rfl, HD.out _⟩
  have HF1 := Lib.hid hf1
  clear HR HC hq1 hf1
  have HC := Lib.hid hc1
  have HR := Lib.hid hr1
  clear hc1 hr1
  clear HF1
  go_wp2_with fail
  go_loopg [3] (ts.length + 1) (fun g v wr => ∃ e st' U', v = .int .i64 (e : Nat) ∧ Cur w0 tv ts b qs w U wr U' st' ∧ R = (appL ts L g e) st')
  case atStart => exact ⟨x1, st1, U1, rfl, HC.out, HR.out⟩
  case round =>
    clear HC HR
    obtain ⟨e1, st', U', rfl, hc, hr⟩ := hrel
    cases gk with
    | zero => exact absurd hr HNE.out
    | succ fu =>
      unfold appL at hr
      have HR := Lib.hid hr
      have HC := Lib.hid hc
      clear hr hc
      go_wp2_with fail
      have hr_ := ro_step (g := atomicP ts) HR.out
      clear HR
      have HR := Lib.hid hr_
      clear hr_
      refine (atomic_any HT HC.out.p).mono ?_
      rintro e w2 ⟨rfl, hb2⟩
      have hc2 := (HC.out).below hb2
      have HB2 := Lib.hid hb2
      clear HC hb2
      have HC := Lib.hid hc2
      clear hc2
      obtain ⟨A, hA⟩ : ∃ A, atomicP ts st' = A := ⟨_, rfl⟩
      rw [hA] at HR ⊢
      clear hA
      cases A
      · have hr_ := HR.out
        simp only [Bool.false_eq_true, ↓reduceIte] at hr_
        clear HR
        have HR := Lib.hid hr_
        clear hr_
        go_wp2_with fail
        go_ret
        exact TPost.good HR.out rfl rfl HC.out.p HC.out.f
      · have hr_ := HR.out
        simp only [Bool.false_eq_true, ↓reduceIte] at hr_
        clear HR
        have HR := Lib.hid hr_
        clear hr_
        have ho_ := of_step HR.out HNE.out
        clear HR
        have hlt := ho_.1
        have HR := Lib.hid ho_.2
        clear ho_
        go_wp2_with fail
        refine (of_any HC.out.p e1 hlt).mono ?_
        rintro e w3 ⟨rfl, hb3⟩
        have hc3 := (HC.out).below hb3
        have HB3 := Lib.hid hb3
        clear HC hb3
        have HC := Lib.hid hc3
        clear hc3
        clear hlt
        go_wp2_with fail
        refine (h1 _ _ _ _ HC.out.p (ne_of HR.out HNE.out)).mono ?_
        intro e w4 hq4
        rcases (HC.out).call hq4 HR.out with ⟨x4, st4, v4, U4, rfl, rfl, hc4, hf4, hr4⟩ | ⟨ln, cl, kd, rfl, hb4, hd4⟩
        rotate_left
        · clear hq4 hb4
          have HD := Lib.hid hd4; clear hd4
          go_wp2_with fail
          exact ⟨rfl, HD.out _⟩
        have HF4 := Lib.hid hf4
        clear HR HC hq4 hf4
        have HC := Lib.hid hc4
        have HR := Lib.hid hr4
        clear hc4 hr4
        go_wp2_with fail
        have hl := HC.out.lit [e1, x4] _ rfl (by unfold maxLen; simp)
        refine (put_any hl.1.p (ofP e1 st') 17 [] [e1, x4] _ hl.2.1 hl.2.2 (by simp) (ne_of HR.out HNE.out)).mono ?_
        intro e w9 hq9
        rcases (hl.1).call hq9 HR.out with ⟨x9, st9, v9, U9, rfl, rfl, hc9, hf9, hr9⟩ | ⟨ln, cl, kd, rfl, hb9, hd9⟩
        rotate_left
        · clear hq9 hb9
          have HD := Lib.hid hd9; clear hd9
          go_wp2_with fail
          exact ⟨rfl, HD.out _⟩
        have HF9 := Lib.hid hf9
        clear HR HC hq9 hf9
        have HC := Lib.hid hc9
        have HR := Lib.hid hr9
        clear hc9 hr9
        clear hl
        go_wp2_with fail
        go_roundg fu
        case measure => omega
        case rel => exact ⟨x9, st9, U9, rfl, HC.out, HR.out⟩

theorem handle_step {fu e1 : Nat} {f : Nat → M Nat} {R : Except Flt (Nat × PS)} (HR : R = (handleL ts L (fu + 1) e1 >>= f) st) :
    R = (takeM ts [104, 97, 110, 100, 108, 101] >>= fun c => if c = true then (ofM e1 >>= fun s => matchM ts L >>= fun l => putM s 21 [] (e1 :: l) >>= fun e => handleL ts L fu e >>= f) else f e1) st := by
  rw [HR]
  rw [show handleL ts L (fu + 1) e1 = (takeM ts [104, 97, 110, 100, 108, 101] >>= fun c => if c = true then (ofM e1 >>= fun s => matchM ts L >>= fun l => putM s 21 [] (e1 :: l) >>= fun e => handleL ts L fu e) else pure e1) from rfl]
  rw [bind_assoc_at]
  apply bind_congr_at
  intro c st1
  cases c
  · rfl
  · simp only [↓reduceIte]
    rw [bind_assoc_at]; apply bind_congr_at; intro s st2
    rw [bind_assoc_at]; apply bind_congr_at; intro l st3
    rw [bind_assoc_at]

set_option maxRecDepth 100000 in
set_option maxHeartbeats 2000000 in
theorem exp_any0 (HT : Tks w0 tv ts) (HLow : LowOK w0 tv ts b L) (h1 : Ok w0 tv ts b 176 (Kiln.orM ts L)) (hp : TSt w0 tv ts b qs w U st) (hne : expM ts L st ≠ .error .out) :
    Calls Tryz.prog 134 #[ptrV b] w (TPost w0 tv ts b qs idR (expM ts L st) w U) := by
  obtain ⟨R, hR⟩ : ∃ R, expM ts L st = R := ⟨_, rfl⟩
  rw [hR] at hne ⊢
  have HNE := Lib.hid hne
  unfold expM at hR
  have HR := Lib.hid hR.symm
  have HC := Lib.hid (Cur.start hp)
  clear hR hne hp
  go_enter Tryz.func134, Tryz.ntmps134
  go_wp2_with fail
  refine (enter_any HT HC.out.p (ne_of HR.out HNE.out)).mono ?_
  intro e w10 hq10
  rcases (HC.out).call hq10 HR.out with ⟨x10, st10, v10, U10, rfl, rfl, hc10, hf10, hr10⟩ | ⟨ln, cl, kd, rfl, hb10, hd10⟩
  rotate_left
  · clear hq10 hb10
    have HD := Lib.hid hd10; clear hd10
    go_wp2_with fail
    exact ⟨rfl, HD.out _⟩
  have HF10 := Lib.hid hf10
  clear HR HC hq10 hf10
  have HC := Lib.hid hc10
  have HR := Lib.hid hr10
  clear hc10 hr10
  clear HF10
  go_wp2_with fail
  refine (h1 _ _ _ _ HC.out.p (ne_of HR.out HNE.out)).mono ?_
  intro e w1 hq1
  rcases (HC.out).call hq1 HR.out with ⟨x1, st1, v1, U1, rfl, rfl, hc1, hf1, hr1⟩ | ⟨ln, cl, kd, rfl, hb1, hd1⟩
  rotate_left
  · clear hq1 hb1
    have HD := Lib.hid hd1; clear hd1
    go_wp2_with fail
    exact ⟨rfl, HD.out _⟩
  have HF1 := Lib.hid hf1
  clear HR HC hq1 hf1
  have HC := Lib.hid hc1
  have HR := Lib.hid hr1
  clear hc1 hr1
  clear HF1
  go_wp2_with fail
  replace HR : RowKit.Hid (R = (handleL ts L (ts.length + 1) x1 >>= fun e => leaveM >>= fun _ => pure e) st1) := HR.out
  go_loopg [3] (ts.length + 1) (fun g v wr => ∃ e st' U', v = .int .i64 (e : Nat) ∧ Cur w0 tv ts b qs w U wr U' st' ∧ R = (handleL ts L g e >>= fun e => leaveM >>= fun _ => pure e) st')
  case atStart => exact ⟨x1, st1, U1, rfl, HC.out, HR.out⟩
  case round =>
    clear HC HR
    obtain ⟨e1, st', U', rfl, hc, hr⟩ := hrel
    cases gk with
    | zero => exact absurd hr HNE.out
    | succ fu =>
      have HR := Lib.hid hr
      have HC := Lib.hid hc
      clear hr hc
      go_wp2_with fail
      have hr_ := handle_step HR.out
      clear HR
      have HR := Lib.hid hr_
      clear hr_
      refine (take_any HT HC.out.p [104, 97, 110, 100, 108, 101]).mono ?_
      intro e w2 hq2
      rcases (HC.out).call hq2 HR.out with ⟨x2, st2, v2, U2, rfl, rfl, hc2, hf2, hr2⟩ | ⟨ln, cl, kd, rfl, hb2, hd2⟩
      rotate_left
      · clear hq2 hb2
        have HD := Lib.hid hd2; clear hd2
        go_wp2_with fail
        exact ⟨rfl, HD.out _⟩
      have HF2 := Lib.hid hf2
      clear HR HC hq2 hf2
      have HC := Lib.hid hc2
      have HR := Lib.hid hr2
      clear hc2 hr2
      cases x2
      · have hr_ := HR.out
        simp only [Bool.false_eq_true, ↓reduceIte] at hr_
        clear HR
        have HR := Lib.hid hr_
        clear hr_
        go_wp2_with fail
        refine (leave_any HC.out.p (ne_of HR.out HNE.out)).mono ?_
        intro e w5 hq5
        rcases (HC.out).call hq5 HR.out with ⟨x5, st5, v5, U5, rfl, rfl, hc5, hf5, hr5⟩ | ⟨ln, cl, kd, rfl, hb5, hd5⟩
        rotate_left
        · clear hq5 hb5
          have HD := Lib.hid hd5; clear hd5
          go_wp2_with fail
          exact ⟨rfl, HD.out _⟩
        have HF5 := Lib.hid hf5
        clear HR HC hq5 hf5
        have HC := Lib.hid hc5
        have HR := Lib.hid hr5
        clear hc5 hr5
        go_wp2_with fail
        go_ret
        exact TPost.good HR.out rfl rfl HC.out.p HC.out.f
      · have hr_ := HR.out
        simp only [Bool.false_eq_true, ↓reduceIte] at hr_
        clear HR
        have HR := Lib.hid hr_
        clear hr_
        have ho_ := of_step HR.out HNE.out
        clear HR
        have hlt := ho_.1
        have HR := Lib.hid ho_.2
        clear ho_
        go_wp2_with fail
        refine (of_any HC.out.p e1 hlt).mono ?_
        rintro e w3 ⟨rfl, hb3⟩
        have hc3 := (HC.out).below hb3
        have HB3 := Lib.hid hb3
        clear HC hb3
        have HC := Lib.hid hc3
        clear hc3
        clear hlt
        go_wp2_with fail
        have HLE := Lib.hid (LR.lit (B := w.heap.size) (w := w3) (U := U2) [(e1 : Int)] #[.int .i64 e1] rfl HC.out.size (HC.out.p.zero (Nat.le_refl _)) (by unfold maxLen; simp))
        refine (match_any HT HLow (HC.out.alloc _).p (ne_of HR.out HNE.out)).mono ?_
        intro e w4 hq4
        rcases (HC.out.alloc _).call hq4 HR.out with ⟨x4, st4, v4, U4, rfl, hv4, hc4, hf4, hr4⟩ | ⟨ln, cl, kd, rfl, hb4, hd4⟩
        rotate_left
        · clear hq4 hb4
          have HD := Lib.hid hd4; clear hd4
          go_wp2_with fail
          exact ⟨rfl, HD.out _⟩
        have h_ := HLE.out.step hf4
        clear HLE
        have HLE := Lib.hid h_
        clear h_
        have HF4 := Lib.hid hf4
        clear HR HC hq4 hf4
        have HC := Lib.hid hc4
        have HR := Lib.hid hr4
        clear hc4 hr4
        obtain ⟨⟨hlr, hll⟩, hln⟩ := hv4
        have hlp : 0 < x4.length := List.length_pos_iff.2 hln
        obtain ⟨g0, cap0, rfl, hg0, hg1⟩ := World.ownsRow.form hlr.1 (by simpa using hlp)
        have HLC := Lib.hid (show ∀ (j : Nat) u, ((x4.map Int.ofNat).map (Value.int .i64))[j]? = some u → w4.cell? ((⟨g0, 0, none⟩ : Addr).add j) = some u from fun j u hu => hlr.1.cells (g := g0) rfl j u hu)
        clear hlr hg0 hg1
        rw [List.length_map]
        obtain ⟨j0, hj, hj0, hj1, hj2⟩ := info_parts Tryz.infoInt
        have HJ := Lib.hid (And.intro hj (And.intro hj0 (And.intro hj1 hj2)))
        clear hj hj0 hj1 hj2 hln
        have hbs := HC.out.size
        go_wp2_with (first | (at_builtin; refine wpList_append_lies _ rfl (.tmp 15) (.tmp 17) 39 rfl w.heap.size 3 j0 (.int .i64 0) 1 8 Tryz.underlying39 HJ.out.1 HJ.out.2.1 HJ.out.2.2.1 HJ.out.2.2.2 rfl (by decide) _ 1 [.int .i64 e1] rfl HLE.out.1 ⟨g0, 0, none⟩ x4.length cap0 ((x4.map Int.ofNat).map (Value.int .i64)) rfl (by simp) HLC.out (one_ints _) hlp (by unfold maxLen; omega) (by omega) (by omega) _ rfl ?_; intro g2 cap2 w5 hrow2 hgr2 hgb2 hgl2))
        have hpu := HC.out.push (n := 1 + x4.length) (cap := cap2) (fun k e => (HLE.out.lt k e).1) HLE.out.2 (Nat.le_refl _) hgr2 hgb2
        have HLE5 : RowKit.Hid (LR w.heap.size w5 U4 (.slice (some ⟨g2, 0, none⟩) (1 + x4.length) cap2) ((e1 :: x4).map Int.ofNat)) := ⟨by simpa [Nat.add_comm] using hrow2, hpu.2⟩
        clear HLE HLC HC hrow2 hgr2 hgb2 hgl2 hbs HJ
        have HC := Lib.hid hpu.1
        clear hpu
        have hl := HC.out.own HLE5.out
        refine (put_any hl.1.p (ofP e1 st2) 21 [] (e1 :: x4) _ hl.2.1 hl.2.2 (by simp; omega) (ne_of HR.out HNE.out)).mono ?_
        intro e w9 hq9
        rcases (hl.1).call hq9 HR.out with ⟨x9, st9, v9, U9, rfl, rfl, hc9, hf9, hr9⟩ | ⟨ln, cl, kd, rfl, hb9, hd9⟩
        rotate_left
        · clear hq9 hb9
          have HD := Lib.hid hd9; clear hd9
          go_wp2_with fail
          exact ⟨rfl, HD.out _⟩
        have HF9 := Lib.hid hf9
        clear HR HC hq9 hf9
        have HC := Lib.hid hc9
        have HR := Lib.hid hr9
        clear hc9 hr9
        clear hl
        go_wp2_with fail
        go_roundg fu
        case measure => omega
        case rel => exact ⟨x9, st9, U9, rfl, HC.out, HR.out⟩


end
end Go.Proofs.YtbchkldhnjahaaaGreatDoor
