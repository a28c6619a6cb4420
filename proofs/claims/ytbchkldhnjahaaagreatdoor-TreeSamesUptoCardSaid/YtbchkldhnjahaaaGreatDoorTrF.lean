/- The parser's phrases, first part: what each call returns, and what it leaves. Conditions: those of each theorem. -/
import Derived.Test.YtbchkldhnjahaaaGreatDoorTrE
import Derived.Deep.RegionWith
namespace Go.Proofs.YtbchkldhnjahaaaGreatDoor
open Go.RowKit Kiln
open Go.Proofs

section
variable {w0 : World} {tv : Value} {ts : List Tok} {b : Nat} {qs : List Nat} {w : World} {U : Rl} {st : PS} {L : Low}
set_option maxRecDepth 100000 in
set_option maxHeartbeats 2000000 in
theorem rule_any (HT : Tks w0 tv ts) (HLow : LowOK w0 tv ts b L) (hp : TSt w0 tv ts b qs w U st) (hne : ruleM ts L st ≠ .error .out) :
    Calls Tryz.prog 214 #[ptrV b] w (TPost w0 tv ts b qs idR (ruleM ts L st) w U) := by
  obtain ⟨R, hR⟩ : ∃ R, ruleM ts L st = R := ⟨_, rfl⟩
  rw [hR] at hne ⊢
  have HNE := Lib.hid hne
  unfold ruleM at hR
  have HR := Lib.hid hR.symm
  have HC := Lib.hid (Cur.start hp)
  clear hR hne hp
  go_enter Tryz.func214, Tryz.ntmps214
  go_wp2_with fail
  refine (HLow.pat HC.out.p (ne_of HR.out HNE.out)).mono ?_
  intro e w1 hq1
  rcases (HC.out).call hq1 HR.out with ⟨x1, st1, v1, U1, rfl, rfl, hc1, hf1, hr1⟩ | ⟨ln, cl, kd, rfl, hb1, hd1⟩
  rotate_left
  · clear hq1 hb1
    have HD := Lib.hid hd1; clear hd1
    go_wp2_with fail
    exact ⟨rfl, HD.out _⟩
  have HF1 := Lib.hid hf1
  clear HR HC hq1 hf1
  have HC := Lib.hid hc1
  have HR := Lib.hid hr1
  clear hc1 hr1
  go_wp2_with fail
  refine (must_any HT HC.out.p [61, 62]).mono ?_
  intro e w2 hq2
  rcases (HC.out).call hq2 HR.out with ⟨x2, st2, v2, U2, rfl, rfl, hc2, hf2, hr2⟩ | ⟨ln, cl, kd, rfl, hb2, hd2⟩
  rotate_left
  · clear hq2 hb2
    have HD := Lib.hid hd2; clear hd2
    go_wp2_with fail
    exact ⟨rfl, HD.out _⟩
  have HF2 := Lib.hid hf2
  clear HR HC hq2 hf2
  have HC := Lib.hid hc2
  have HR := Lib.hid hr2
  clear hc2 hr2
  go_wp2_with fail
  refine (HLow.exp HC.out.p (ne_of HR.out HNE.out)).mono ?_
  intro e w3 hq3
  rcases (HC.out).call hq3 HR.out with ⟨x3, st3, v3, U3, rfl, rfl, hc3, hf3, hr3⟩ | ⟨ln, cl, kd, rfl, hb3, hd3⟩
  rotate_left
  · clear hq3 hb3
    have HD := Lib.hid hd3; clear hd3
    go_wp2_with fail
    exact ⟨rfl, HD.out _⟩
  have HF3 := Lib.hid hf3
  clear HR HC hq3 hf3
  have HC := Lib.hid hc3
  have HR := Lib.hid hr3
  clear hc3 hr3
  go_wp2_with fail
  have ho_ := of_step HR.out HNE.out
  clear HR
  have hlt := ho_.1
  have HR := Lib.hid ho_.2
  clear ho_
  refine (of_any HC.out.p x1 hlt).mono ?_
  rintro e w4 ⟨rfl, hb4⟩
  have hc4 := (HC.out).below hb4
  have HB4 := Lib.hid hb4
  clear HC hb4
  have HC := Lib.hid hc4
  clear hc4
  clear hlt
  go_wp2_with fail
  have hl := HC.out.lit [x1, x3] _ rfl (by unfold maxLen; simp)
  refine (put_any hl.1.p (ofP x1 st3) 27 [] [x1, x3] _ hl.2.1 hl.2.2 (by simp) (HR.out ▸ HNE.out)).mono ?_
  intro e w5 hq5
  rcases (hl.1).last hq5 HR.out with ⟨x5, v5, U5, rfl, rfl, hd5⟩ | ⟨ln, cl, kd, rfl, hd5⟩
  rotate_left
  · clear hq5
    have HD := Lib.hid hd5; clear hd5
    go_wp2_with fail
    exact ⟨rfl, HD.out⟩
  have HFIN := Lib.hid hd5
  clear hd5 hq5
  clear hl
  go_wp2_with fail
  go_ret
  exact HFIN.out

set_option maxRecDepth 100000 in
set_option maxHeartbeats 2000000 in
theorem bind_any (HT : Tks w0 tv ts) (HLow : LowOK w0 tv ts b L) (hp : TSt w0 tv ts b qs w U st) (hne : bindM ts L st ≠ .error .out) :
    Calls Tryz.prog 97 #[ptrV b] w (TPost w0 tv ts b qs idR (bindM ts L st) w U) := by
  obtain ⟨R, hR⟩ : ∃ R, bindM ts L st = R := ⟨_, rfl⟩
  rw [hR] at hne ⊢
  have HNE := Lib.hid hne
  unfold bindM at hR
  have HR := Lib.hid hR.symm
  have HC := Lib.hid (Cur.start hp)
  clear hR hne hp
  go_enter Tryz.func97, Tryz.ntmps97
  go_wp2_with fail
  refine (HLow.pat HC.out.p (ne_of HR.out HNE.out)).mono ?_
  intro e w1 hq1
  rcases (HC.out).call hq1 HR.out with ⟨x1, st1, v1, U1, rfl, rfl, hc1, hf1, hr1⟩ | ⟨ln, cl, kd, rfl, hb1, hd1⟩
  rotate_left
  · clear hq1 hb1
    have HD := Lib.hid hd1; clear hd1
    go_wp2_with fail
    exact ⟨rfl, HD.out _⟩
  have HF1 := Lib.hid hf1
  clear HR HC hq1 hf1
  have HC := Lib.hid hc1
  have HR := Lib.hid hr1
  clear hc1 hr1
  go_wp2_with fail
  refine (must_any HT HC.out.p [61]).mono ?_
  intro e w2 hq2
  rcases (HC.out).call hq2 HR.out with ⟨x2, st2, v2, U2, rfl, rfl, hc2, hf2, hr2⟩ | ⟨ln, cl, kd, rfl, hb2, hd2⟩
  rotate_left
  · clear hq2 hb2
    have HD := Lib.hid hd2; clear hd2
    go_wp2_with fail
    exact ⟨rfl, HD.out _⟩
  have HF2 := Lib.hid hf2
  clear HR HC hq2 hf2
  have HC := Lib.hid hc2
  have HR := Lib.hid hr2
  clear hc2 hr2
  go_wp2_with fail
  refine (HLow.exp HC.out.p (ne_of HR.out HNE.out)).mono ?_
  intro e w3 hq3
  rcases (HC.out).call hq3 HR.out with ⟨x3, st3, v3, U3, rfl, rfl, hc3, hf3, hr3⟩ | ⟨ln, cl, kd, rfl, hb3, hd3⟩
  rotate_left
  · clear hq3 hb3
    have HD := Lib.hid hd3; clear hd3
    go_wp2_with fail
    exact ⟨rfl, HD.out _⟩
  have HF3 := Lib.hid hf3
  clear HR HC hq3 hf3
  have HC := Lib.hid hc3
  have HR := Lib.hid hr3
  clear hc3 hr3
  go_wp2_with fail
  have ho_ := of_step HR.out HNE.out
  clear HR
  have hlt := ho_.1
  have HR := Lib.hid ho_.2
  clear ho_
  refine (of_any HC.out.p x1 hlt).mono ?_
  rintro e w4 ⟨rfl, hb4⟩
  have hc4 := (HC.out).below hb4
  have HB4 := Lib.hid hb4
  clear HC hb4
  have HC := Lib.hid hc4
  clear hc4
  clear hlt
  go_wp2_with fail
  have hl := HC.out.lit [x1, x3] _ rfl (by unfold maxLen; simp)
  refine (put_any hl.1.p (ofP x1 st3) 53 [] [x1, x3] _ hl.2.1 hl.2.2 (by simp) (HR.out ▸ HNE.out)).mono ?_
  intro e w5 hq5
  rcases (hl.1).last hq5 HR.out with ⟨x5, v5, U5, rfl, rfl, hd5⟩ | ⟨ln, cl, kd, rfl, hd5⟩
  rotate_left
  · clear hq5
    have HD := Lib.hid hd5; clear hd5
    go_wp2_with fail
    exact ⟨rfl, HD.out⟩
  have HFIN := Lib.hid hd5
  clear hd5 hq5
  clear hl
  go_wp2_with fail
  go_ret
  exact HFIN.out

set_option maxRecDepth 100000 in
set_option maxHeartbeats 2000000 in
theorem typed_any (HT : Tks w0 tv ts) (HLow : LowOK w0 tv ts b L) (i : Nat) (hp : TSt w0 tv ts b qs w U st) (hne : typedL ts L 37 (ts.length + 1) i st ≠ .error .out) :
    Calls Tryz.prog 210 #[ptrV b, .int .i64 i] w (TPost w0 tv ts b qs idR (typedL ts L 37 (ts.length + 1) i st) w U) := by
  obtain ⟨R, hR⟩ : ∃ R, typedL ts L 37 (ts.length + 1) i st = R := ⟨_, rfl⟩
  rw [hR] at hne ⊢
  have HNE := Lib.hid hne
  have HR := Lib.hid hR.symm
  have HC := Lib.hid (Cur.start hp)
  clear hR hne hp
  go_enter Tryz.func210, Tryz.ntmps210
  go_wp2_with fail
  go_loopg [1] (ts.length + 1) (fun g v wr => ∃ e st' U', v = .int .i64 (e : Nat) ∧ Cur w0 tv ts b qs w U wr U' st' ∧ R = typedL ts L 37 g e st')
  case atStart => exact ⟨i, st, U, rfl, HC.out, HR.out⟩
  case round =>
    clear HC HR
    obtain ⟨e1, st', U', rfl, hc, hr⟩ := hrel
    cases gk with
    | zero => exact absurd hr HNE.out
    | succ fu =>
      unfold typedL at hr
      have HR := Lib.hid hr
      have HC := Lib.hid hc
      clear hr hc
      go_wp2_with fail
      refine (take_any HT HC.out.p _).mono ?_
      intro e w2 hq2
      rcases (HC.out).call hq2 HR.out with ⟨x2, st2, v2, U2, rfl, rfl, hc2, hf2, hr2⟩ | ⟨ln, cl, kd, rfl, hb2, hd2⟩
      rotate_left
      · clear hq2 hb2
        have HD := Lib.hid hd2; clear hd2
        go_wp2_with fail
        exact ⟨rfl, HD.out _⟩
      have HF2 := Lib.hid hf2
      clear HR HC hq2 hf2
      have HC := Lib.hid hc2
      have HR := Lib.hid hr2
      clear hc2 hr2
      cases x2
      · have hr_ := HR.out
        simp only [Bool.false_eq_true, ↓reduceIte] at hr_
        clear HR
        have HR := Lib.hid hr_
        clear hr_
        go_wp2_with fail
        go_ret
        exact TPost.good HR.out rfl rfl HC.out.p HC.out.f
      · have hr_ := HR.out
        simp only [Bool.false_eq_true, ↓reduceIte] at hr_
        clear HR
        have HR := Lib.hid hr_
        clear hr_
        have ho_ := of_step HR.out HNE.out
        clear HR
        have hlt := ho_.1
        have HR := Lib.hid ho_.2
        clear ho_
        go_wp2_with fail
        refine (of_any HC.out.p e1 hlt).mono ?_
        rintro e w3 ⟨rfl, hb3⟩
        have hc3 := (HC.out).below hb3
        have HB3 := Lib.hid hb3
        clear HC hb3
        have HC := Lib.hid hc3
        clear hc3
        go_wp2_with fail
        refine (HLow.ty HC.out.p (ne_of HR.out HNE.out)).mono ?_
        intro e w4 hq4
        rcases (HC.out).call hq4 HR.out with ⟨x4, st4, v4, U4, rfl, rfl, hc4, hf4, hr4⟩ | ⟨ln, cl, kd, rfl, hb4, hd4⟩
        rotate_left
        · clear hq4 hb4
          have HD := Lib.hid hd4; clear hd4
          go_wp2_with fail
          exact ⟨rfl, HD.out _⟩
        have HF4 := Lib.hid hf4
        clear HR HC hq4 hf4
        have HC := Lib.hid hc4
        have HR := Lib.hid hr4
        clear hc4 hr4
        clear hlt
        go_wp2_with fail
        have hl := HC.out.lit [e1, x4] _ rfl (by unfold maxLen; simp)
        refine (put_any hl.1.p (ofP e1 st2) 37 [] [e1, x4] _ hl.2.1 hl.2.2 (by simp) (ne_of HR.out HNE.out)).mono ?_
        intro e w5 hq5
        rcases (hl.1).call hq5 HR.out with ⟨x5, st5, v5, U5, rfl, rfl, hc5, hf5, hr5⟩ | ⟨ln, cl, kd, rfl, hb5, hd5⟩
        rotate_left
        · clear hq5 hb5
          have HD := Lib.hid hd5; clear hd5
          go_wp2_with fail
          exact ⟨rfl, HD.out _⟩
        have HF5 := Lib.hid hf5
        clear HR HC hq5 hf5
        have HC := Lib.hid hc5
        have HR := Lib.hid hr5
        clear hc5 hr5
        clear hl
        go_wp2_with fail
        go_roundg fu
        case measure => omega
        case rel => exact ⟨x5, st5, U5, rfl, HC.out, HR.out⟩

set_option maxRecDepth 100000 in
set_option maxHeartbeats 2000000 in
theorem pat_any0 (HT : Tks w0 tv ts) (hla : Ok w0 tv ts b 175 (layeredM ts L)) (hp : TSt w0 tv ts b qs w U st) (hne : patM ts L st ≠ .error .out) :
    Calls Tryz.prog 132 #[ptrV b] w (TPost w0 tv ts b qs idR (patM ts L st) w U) := by
  obtain ⟨R, hR⟩ : ∃ R, patM ts L st = R := ⟨_, rfl⟩
  rw [hR] at hne ⊢
  have HNE := Lib.hid hne
  unfold patM at hR
  have HR := Lib.hid hR.symm
  have HC := Lib.hid (Cur.start hp)
  clear hR hne hp
  go_enter Tryz.func132, Tryz.ntmps132
  go_wp2_with fail
  refine (enter_any HT HC.out.p (ne_of HR.out HNE.out)).mono ?_
  intro e w1 hq1
  rcases (HC.out).call hq1 HR.out with ⟨x1, st1, v1, U1, rfl, rfl, hc1, hf1, hr1⟩ | ⟨ln, cl, kd, rfl, hb1, hd1⟩
  rotate_left
  · clear hq1 hb1
    have HD := Lib.hid hd1; clear hd1
    go_wp2_with fail
    exact ⟨rfl, HD.out _⟩
  have HF1 := Lib.hid hf1
  clear HR HC hq1 hf1
  have HC := Lib.hid hc1
  have HR := Lib.hid hr1
  clear hc1 hr1
  go_wp2_with fail
  refine (hla _ _ _ _ HC.out.p (ne_of HR.out HNE.out)).mono ?_
  intro e w2 hq2
  rcases (HC.out).call hq2 HR.out with ⟨x2, st2, v2, U2, rfl, rfl, hc2, hf2, hr2⟩ | ⟨ln, cl, kd, rfl, hb2, hd2⟩
  rotate_left
  · clear hq2 hb2
    have HD := Lib.hid hd2; clear hd2
    go_wp2_with fail
    exact ⟨rfl, HD.out _⟩
  have HF2 := Lib.hid hf2
  clear HR HC hq2 hf2
  have HC := Lib.hid hc2
  have HR := Lib.hid hr2
  clear hc2 hr2
  go_wp2_with fail
  refine (leave_any HC.out.p (ne_of HR.out HNE.out)).mono ?_
  intro e w3 hq3
  rcases (HC.out).call hq3 HR.out with ⟨x3, st3, v3, U3, rfl, rfl, hc3, hf3, hr3⟩ | ⟨ln, cl, kd, rfl, hb3, hd3⟩
  rotate_left
  · clear hq3 hb3
    have HD := Lib.hid hd3; clear hd3
    go_wp2_with fail
    exact ⟨rfl, HD.out _⟩
  have HF3 := Lib.hid hf3
  clear HR HC hq3 hf3
  have HC := Lib.hid hc3
  have HR := Lib.hid hr3
  clear hc3 hr3
  go_wp2_with fail
  go_ret
  exact TPost.good HR.out rfl rfl HC.out.p HC.out.f

set_option maxRecDepth 100000 in
set_option maxHeartbeats 2000000 in
theorem carry_any (HT : Tks w0 tv ts) (HLow : LowOK w0 tv ts b L) (s : Int × Int) (n : Bytes) (hp : TSt w0 tv ts b qs w U st) (hne : carryM ts L s n st ≠ .error .out) :
    Calls Tryz.prog 142 #[ptrV b, .agg #[.int .i64 s.1, .int .i64 s.2], str n] w (TPost w0 tv ts b qs idR (carryM ts L s n st) w U) := by
  obtain ⟨R, hR⟩ : ∃ R, carryM ts L s n st = R := ⟨_, rfl⟩
  rw [hR] at hne ⊢
  have HNE := Lib.hid hne
  have HR : RowKit.Hid (R = (takeM ts [111, 102] >>= fun c => if c = true then (L.ty >>= fun t => putM s 62 n [t]) else putM s 62 n []) st) := hR.symm
  have HC := Lib.hid (Cur.start hp)
  clear hR hne hp
  go_enter Tryz.func142, Tryz.ntmps142
  go_wp2_with fail
  have HS := Lib.hid (Loc.new HC.out #[.int .i64 s.1, .int .i64 s.2] 109)
  refine (take_any HT (HC.out.alloc _).p _).mono ?_
  intro e w1 hq1
  rcases (HC.out.alloc _).call hq1 HR.out with ⟨x1, st1, v1, U1, rfl, rfl, hc1, hf1, hr1⟩ | ⟨ln, cl, kd, rfl, hb1, hd1⟩
  rotate_left
  · clear hq1 hb1
    have HD := Lib.hid hd1; clear hd1
    go_wp2_with fail
    exact ⟨rfl, HD.out _⟩
  have h_ := HS.out.step hf1
  clear HS
  have HS := Lib.hid h_
  clear h_
  have HF1 := Lib.hid hf1
  clear HR HC hq1 hf1
  have HC := Lib.hid hc1
  have HR := Lib.hid hr1
  clear hc1 hr1
  have s0 := HS.out.cell 0 _ rfl
  have s1 := HS.out.cell 1 _ rfl
  cases x1
  · replace HR : RowKit.Hid (R = putM s 62 n [] st1) := HR.out
    go_wp2_with fail
    refine (put_at HC.out.p s 62 n [] (Ints.nil _) (Im.nil _ _) (by simp) (HR.out ▸ HNE.out)).mono ?_
    intro e w2 hq2
    rcases (HC.out).last hq2 HR.out with ⟨x2, v2, U2, rfl, rfl, hd2⟩ | ⟨ln, cl, kd, rfl, hd2⟩
    rotate_left
    · clear hq2
      have HD := Lib.hid hd2; clear hd2
      go_wp2_with fail
      exact ⟨rfl, HD.out⟩
    have HFIN := Lib.hid hd2
    clear hd2 hq2
    go_wp2_with fail
    go_ret
    exact HFIN.out
  · replace HR : RowKit.Hid (R = (L.ty >>= fun t => putM s 62 n [t]) st1) := HR.out
    go_wp2_with fail
    go_region_with (first | (go_at_call 139; refine (HLow.ty HC.out.p.drew (ne_of HR.out HNE.out)).mono ?_; intro e w2 hq2; rcases (HC.out.drew).call hq2 HR.out with ⟨x2, st2, v2, U2, rfl, rfl, hc2, hf2, hr2⟩ | ⟨ln, cl, kd, rfl, hb2, hd2⟩; rotate_left; exact ⟨rfl, hd2 _⟩; have h_ := HS.out.drew.step hf2; clear HS; have HS := Lib.hid h_; clear h_; have HF2 := Lib.hid hf2; clear HR HC hq2 hf2; have HC := Lib.hid hc2; have HR := Lib.hid hr2; clear hc2 hr2; have s20 := HS.out.cell 0 _ rfl; have s21 := HS.out.cell 1 _ rfl; have s22 := cell_al s20; have s23 := cell_al s21) | (go_at_call 63;have hl := HC.out.lit [x2] _ rfl (by unfold maxLen; simp); refine (put_at hl.1.p s 62 n [x2] hl.2.1 hl.2.2 (by simp) (HR.out ▸ HNE.out)).mono ?_; intro e w3 hq3; rcases (hl.1).last hq3 HR.out with ⟨x3, v3, U3, rfl, rfl, hd3⟩ | ⟨ln, cl, kd, rfl, hd3⟩; rotate_left; exact ⟨rfl, hd3⟩; have HFIN := Lib.hid hd3; clear hd3 hq3; clear hl))
    all_goals go_wp2_with fail
    all_goals go_ret
    all_goals exact HFIN.out

end
end Go.Proofs.YtbchkldhnjahaaaGreatDoor
