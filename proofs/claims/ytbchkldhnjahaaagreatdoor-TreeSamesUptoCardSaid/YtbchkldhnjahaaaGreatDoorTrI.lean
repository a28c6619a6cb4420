/- Atoms: atexp, atpat, apppat, layered: what each call returns, and what it leaves. Conditions: those of each theorem. -/
import Derived.Test.YtbchkldhnjahaaaGreatDoorTrH
namespace Go.Proofs.YtbchkldhnjahaaaGreatDoor
open Go.RowKit Kiln
open Go.Proofs

section
variable {w0 : World} {tv : Value} {ts : List Tok} {b : Nat} {qs : List Nat} {w : World} {U : Rl} {st : PS} {L : Low}

theorem skip_le {n : Nat} {β : Type} {f : Unit → M β} {R : Except Flt (β × PS)} (HR : R = (skipM ts n >>= f) st) (hne : R ≠ .error .out) (hl : ts.length ≤ 4398046511104) : n ≤ 4398046511104 := by
  by_cases h : st.pos + n ≤ ts.length
  · omega
  · exact absurd (HR.trans (bind_err (by unfold skipM; rw [if_neg h]))) hne

set_option maxRecDepth 100000 in
set_option maxHeartbeats 2000000 in
theorem atexp_any (HT : Tks w0 tv ts) (hp : TSt w0 tv ts b qs w U st) (hne : atexpM ts L st ≠ .error .out) :
    Calls Tryz.prog 292 #[ptrV b] w (TPost w0 tv ts b qs idR (atexpM ts L st) w U) := by
  obtain ⟨R, hR⟩ : ∃ R, atexpM ts L st = R := ⟨_, rfl⟩
  rw [hR] at hne ⊢
  have HNE := Lib.hid hne
  unfold atexpM at hR
  have HR := Lib.hid hR.symm
  have HC := Lib.hid (Cur.start hp)
  clear hR hne hp
  go_enter Tryz.func292, Tryz.ntmps292
  go_wp2_with fail
  have hr_ := ro_step (g := hereP ts) HR.out
  clear HR
  have HR := Lib.hid hr_
  clear hr_
  refine (here_any HT HC.out.p).mono ?_
  rintro e w1 ⟨rfl, hb1⟩
  have hc1 := (HC.out).below hb1
  have HB1 := Lib.hid hb1
  clear HC hb1
  have HC := Lib.hid hc1
  clear hc1
  unfold spotV
  go_wp2_with fail
  have hr_ := ro_step (g := tokAt ts 0) HR.out
  clear HR
  have HR := Lib.hid hr_
  clear hr_
  refine (token_any HT HC.out.p 0 (by omega)).mono ?_
  rintro e w2 ⟨⟨pv, rfl, hs⟩, hb2⟩
  have hc2 := HC.out.below hb2
  clear HC hb2 HB1
  have HC := Lib.hid hc2
  clear hc2
  obtain ⟨t, ht⟩ : ∃ t, tokAt ts 0 st = t := ⟨_, rfl⟩
  rw [ht] at HR hs ⊢
  have HTS := Lib.hid (ht ▸ tokAt_siz HT 0 st)
  clear ht
  have HP := Lib.hid hs
  obtain ⟨a, cap, rfl, -⟩ := hs
  unfold tkV
  have HS := Lib.hid ((Loc.new HC.out #[.int .i64 (hereP ts st).1, .int .i64 (hereP ts st).2] 109).alloc (.cells #[.int .i64 t.kind, str t.text, .slice a t.path.length cap, .int .i64 t.line, .int .i64 t.col] 32))
  have HTK := Lib.hid (Loc.new (HC.out.alloc (.cells #[.int .i64 (hereP ts st).1, .int .i64 (hereP ts st).2] 109)) #[.int .i64 t.kind, str t.text, .slice a t.path.length cap, .int .i64 t.line, .int .i64 t.col] 32)
  rw [show (w2.alloc (.cells #[.int .i64 (hereP ts st).1, .int .i64 (hereP ts st).2] 109)).heap.size = w2.heap.size + 1 from by simp] at HTK
  have hc3 := (HC.out.alloc (.cells #[.int .i64 (hereP ts st).1, .int .i64 (hereP ts st).2] 109)).alloc (.cells #[.int .i64 t.kind, str t.text, .slice a t.path.length cap, .int .i64 t.line, .int .i64 t.col] 32)
  clear HC
  have HC := Lib.hid hc3
  clear hc3
  go_wp2_with fail
  refine (constant_any t _ w0 HP.out).mono ?_
  rintro e w3 ⟨rfl, hb3⟩
  have hc3 := (HC.out).below hb3
  have h_ := HS.out.below hb3
  clear HS
  have HS := Lib.hid h_
  clear h_
  have h_ := HTK.out.below hb3
  clear HTK
  have HTK := Lib.hid h_
  clear h_
  have HB3 := Lib.hid hb3
  clear HC hb3
  have HC := Lib.hid hc3
  clear hc3
  cases hk : (constK t != 0)
  · have hr_ := HR.out
    simp only [hk, Bool.false_eq_true, ↓reduceIte] at hr_
    clear HR
    have HR := Lib.hid hr_
    clear hr_
    have hr_ := ro_step (g := plainP ts 0) HR.out
    clear HR
    have HR := Lib.hid hr_
    clear hr_
    go_wp2_with fail
    refine (plain_any HT HC.out.p 0 (by omega)).mono ?_
    rintro e w4 ⟨rfl, hb4⟩
    have hc4 := (HC.out).below hb4
    have h_ := HS.out.below hb4
    clear HS
    have HS := Lib.hid h_
    clear h_
    have h_ := HTK.out.below hb4
    clear HTK
    have HTK := Lib.hid h_
    clear h_
    have HB4 := Lib.hid hb4
    clear HC hb4
    have HC := Lib.hid hc4
    clear hc4
    obtain ⟨p, hp⟩ : ∃ p, plainP ts 0 st = p := ⟨_, rfl⟩
    rw [hp] at HR ⊢
    clear hp
    by_cases h0 : 0 < p.2
    · have hr_ := HR.out
      simp only [h0, Bool.false_eq_true, ↓reduceIte] at hr_
      clear HR
      have HR := Lib.hid hr_
      clear hr_
      have h1 : (0 : Int) < (p.2 : Int) := by omega
      have s0 := HS.out.cell 0 _ rfl
      have s1 := HS.out.cell 1 _ rfl
      have s2 := fun x => (HS.out.setb HC.out (i := 1) x).cell 0 _ rfl
      have s3 := fun x => (HS.out.setb HC.out (i := 1) x).cell 1 _ rfl
      have t0 := HTK.out.cell 0 _ rfl
      have t1 := HTK.out.cell 1 _ rfl
      have t2 := HTK.out.cell 2 _ rfl
      have t5 := fun x => (HTK.out.setb HC.out (i := 1) x).cell 1 _ rfl
      obtain ⟨nv_, dv_, -, c1_, -, -, -, -, hf_⟩ := HC.out.p.reads
      have hf1_ := hf_ 1
      have hpos_ := HC.out.p.pos
      have hlen_ := HT.len
      clear hf_
      have hn_ : p.2 ≤ 4398046511104 := skip_le HR.out HNE.out HT.len
      go_wp2_with fail
      clear s0 s1 s2 s3 t0 t1 t2 t5
      clear c1_ hf1_ hpos_ hlen_
      have hk_ := HC.out.skip p.2 HR.out HNE.out
      clear HC HR
      have HC := Lib.hid hk_.1
      have HR := Lib.hid hk_.2
      clear hk_
      refine (put_at HC.out.p (hereP ts st) 10 p.1 [] (Ints.nil _) (Im.nil _ _) (by simp) (HR.out ▸ HNE.out)).mono ?_
      intro e w9 hq9
      rcases (HC.out).last hq9 HR.out with ⟨x9, v9, U9, rfl, rfl, hd9⟩ | ⟨ln, cl, kd, rfl, hd9⟩
      rotate_left
      · clear hq9
        have HD := Lib.hid hd9; clear hd9
        go_wp2_with fail
        exact ⟨rfl, HD.out⟩
      have HFIN := Lib.hid hd9
      clear hd9 hq9
      go_wp2_with fail
      go_ret
      exact HFIN.out
    · have hr_ := HR.out
      simp only [h0, stageB, Bool.false_eq_true, ↓reduceIte] at hr_
      clear HR
      have HR := Lib.hid hr_
      clear hr_
      exact absurd HR.out HNE.out
  · have hr_ := HR.out
    simp only [hk, Bool.false_eq_true, ↓reduceIte] at hr_
    clear HR
    have HR := Lib.hid hr_
    clear hr_
    have s0 := HS.out.cell 0 _ rfl
    have s1 := HS.out.cell 1 _ rfl
    have s2 := fun x => (HS.out.setb HC.out (i := 1) x).cell 0 _ rfl
    have s3 := fun x => (HS.out.setb HC.out (i := 1) x).cell 1 _ rfl
    have t0 := HTK.out.cell 0 _ rfl
    have t1 := HTK.out.cell 1 _ rfl
    have t2 := HTK.out.cell 2 _ rfl
    have t5 := fun x => (HTK.out.setb HC.out (i := 1) x).cell 1 _ rfl
    obtain ⟨nv_, dv_, -, c1_, -, -, -, -, hf_⟩ := HC.out.p.reads
    have hf1_ := hf_ 1
    have hpos_ := HC.out.p.pos
    have hlen_ := HT.len
    clear hf_
    go_wp2_with fail
    clear s0 s1 s2 s3 t0 t1 t2 t5
    clear c1_ hf1_ hpos_ hlen_
    have hk_ := HC.out.skip 1 HR.out HNE.out
    clear HC HR
    have HC := Lib.hid hk_.1
    have HR := Lib.hid hk_.2
    clear hk_
    refine (put_at HC.out.p (hereP ts st) (constK t) t.text [] (Ints.nil _) (Im.nil _ _) (by simp) (HR.out ▸ HNE.out)).mono ?_
    intro e w9 hq9
    rcases (HC.out).last hq9 HR.out with ⟨x9, v9, U9, rfl, rfl, hd9⟩ | ⟨ln, cl, kd, rfl, hd9⟩
    rotate_left
    · clear hq9
      have HD := Lib.hid hd9; clear hd9
      go_wp2_with fail
      exact ⟨rfl, HD.out⟩
    have HFIN := Lib.hid hd9
    clear hd9 hq9
    go_wp2_with fail
    go_ret
    exact HFIN.out

set_option maxRecDepth 100000 in
set_option maxHeartbeats 2000000 in
theorem atpat_any (HT : Tks w0 tv ts) (hp : TSt w0 tv ts b qs w U st) (hne : atpatM ts L st ≠ .error .out) :
    Calls Tryz.prog 180 #[ptrV b] w (TPost w0 tv ts b qs idR (atpatM ts L st) w U) := by
  obtain ⟨R, hR⟩ : ∃ R, atpatM ts L st = R := ⟨_, rfl⟩
  rw [hR] at hne ⊢
  have HNE := Lib.hid hne
  unfold atpatM at hR
  have HR := Lib.hid hR.symm
  have HC := Lib.hid (Cur.start hp)
  clear hR hne hp
  go_enter Tryz.func180, Tryz.ntmps180
  go_wp2_with fail
  have hr_ := ro_step (g := hereP ts) HR.out
  clear HR
  have HR := Lib.hid hr_
  clear hr_
  refine (here_any HT HC.out.p).mono ?_
  rintro e w1 ⟨rfl, hb1⟩
  have hc1 := (HC.out).below hb1
  have HB1 := Lib.hid hb1
  clear HC hb1
  have HC := Lib.hid hc1
  clear hc1
  unfold spotV
  go_wp2_with fail
  have hr_ := ro_step (g := tokAt ts 0) HR.out
  clear HR
  have HR := Lib.hid hr_
  clear hr_
  refine (token_any HT HC.out.p 0 (by omega)).mono ?_
  rintro e w2 ⟨⟨pv, rfl, hs⟩, hb2⟩
  have hc2 := HC.out.below hb2
  clear HC hb2 HB1
  have HC := Lib.hid hc2
  clear hc2
  obtain ⟨t, ht⟩ : ∃ t, tokAt ts 0 st = t := ⟨_, rfl⟩
  rw [ht] at HR hs ⊢
  have HTS := Lib.hid (ht ▸ tokAt_siz HT 0 st)
  clear ht
  have HP := Lib.hid hs
  obtain ⟨a, cap, rfl, -⟩ := hs
  unfold tkV
  have HS := Lib.hid ((Loc.new HC.out #[.int .i64 (hereP ts st).1, .int .i64 (hereP ts st).2] 109).alloc (.cells #[.int .i64 t.kind, str t.text, .slice a t.path.length cap, .int .i64 t.line, .int .i64 t.col] 32))
  have HTK := Lib.hid (Loc.new (HC.out.alloc (.cells #[.int .i64 (hereP ts st).1, .int .i64 (hereP ts st).2] 109)) #[.int .i64 t.kind, str t.text, .slice a t.path.length cap, .int .i64 t.line, .int .i64 t.col] 32)
  rw [show (w2.alloc (.cells #[.int .i64 (hereP ts st).1, .int .i64 (hereP ts st).2] 109)).heap.size = w2.heap.size + 1 from by simp] at HTK
  have hc3 := (HC.out.alloc (.cells #[.int .i64 (hereP ts st).1, .int .i64 (hereP ts st).2] 109)).alloc (.cells #[.int .i64 t.kind, str t.text, .slice a t.path.length cap, .int .i64 t.line, .int .i64 t.col] 32)
  clear HC
  have HC := Lib.hid hc3
  clear hc3
  go_wp2_with fail
  refine (constant_any t _ w0 HP.out).mono ?_
  rintro e w3 ⟨rfl, hb3⟩
  have hc3 := (HC.out).below hb3
  have h_ := HS.out.below hb3
  clear HS
  have HS := Lib.hid h_
  clear h_
  have h_ := HTK.out.below hb3
  clear HTK
  have HTK := Lib.hid h_
  clear h_
  have HB3 := Lib.hid hb3
  clear HC hb3
  have HC := Lib.hid hc3
  clear hc3
  cases hk : (constK t != 0)
  · have hr_ := HR.out
    simp only [hk, Bool.false_and, Bool.false_eq_true, ↓reduceIte] at hr_
    clear HR
    have HR := Lib.hid hr_
    clear hr_
    have hr_ := ro_step (g := plainP ts 0) HR.out
    clear HR
    have HR := Lib.hid hr_
    clear hr_
    go_wp2_with fail
    refine (plain_any HT HC.out.p 0 (by omega)).mono ?_
    rintro e w4 ⟨rfl, hb4⟩
    have hc4 := (HC.out).below hb4
    have h_ := HS.out.below hb4
    clear HS
    have HS := Lib.hid h_
    clear h_
    have h_ := HTK.out.below hb4
    clear HTK
    have HTK := Lib.hid h_
    clear h_
    have HB4 := Lib.hid hb4
    clear HC hb4
    have HC := Lib.hid hc4
    clear hc4
    obtain ⟨p, hp⟩ : ∃ p, plainP ts 0 st = p := ⟨_, rfl⟩
    rw [hp] at HR ⊢
    clear hp
    by_cases h0 : 0 < p.2
    · have hr_ := HR.out
      simp only [h0, Bool.false_eq_true, ↓reduceIte] at hr_
      clear HR
      have HR := Lib.hid hr_
      clear hr_
      have h1 : (0 : Int) < (p.2 : Int) := by omega
      have s0 := HS.out.cell 0 _ rfl
      have s1 := HS.out.cell 1 _ rfl
      have s2 := fun x => (HS.out.setb HC.out (i := 1) x).cell 0 _ rfl
      have s3 := fun x => (HS.out.setb HC.out (i := 1) x).cell 1 _ rfl
      have t0 := HTK.out.cell 0 _ rfl
      have t1 := HTK.out.cell 1 _ rfl
      have t2 := HTK.out.cell 2 _ rfl
      have t5 := fun x => (HTK.out.setb HC.out (i := 1) x).cell 1 _ rfl
      obtain ⟨nv_, dv_, -, c1_, -, -, -, -, hf_⟩ := HC.out.p.reads
      have hf1_ := hf_ 1
      have hpos_ := HC.out.p.pos
      have hlen_ := HT.len
      clear hf_
      have hn_ : p.2 ≤ 4398046511104 := skip_le HR.out HNE.out HT.len
      go_wp2_with fail
      clear s0 s1 s2 s3 t0 t1 t2 t5
      clear c1_ hf1_ hpos_ hlen_
      have hk_ := HC.out.skip p.2 HR.out HNE.out
      clear HC HR
      have HC := Lib.hid hk_.1
      have HR := Lib.hid hk_.2
      clear hk_
      refine (put_at HC.out.p (hereP ts st) 31 p.1 [] (Ints.nil _) (Im.nil _ _) (by simp) (HR.out ▸ HNE.out)).mono ?_
      intro e w9 hq9
      rcases (HC.out).last hq9 HR.out with ⟨x9, v9, U9, rfl, rfl, hd9⟩ | ⟨ln, cl, kd, rfl, hd9⟩
      rotate_left
      · clear hq9
        have HD := Lib.hid hd9; clear hd9
        go_wp2_with fail
        exact ⟨rfl, HD.out⟩
      have HFIN := Lib.hid hd9
      clear hd9 hq9
      go_wp2_with fail
      go_ret
      exact HFIN.out
    · have hr_ := HR.out
      simp only [h0, stageB, Bool.false_eq_true, ↓reduceIte] at hr_
      clear HR
      have HR := Lib.hid hr_
      clear hr_
      exact absurd HR.out HNE.out
  · cases hq : (constK t != 2)
    · have hr_ := HR.out
      simp only [hk, hq, Bool.and_false, Bool.false_eq_true, ↓reduceIte] at hr_
      clear HR
      have HR := Lib.hid hr_
      clear hr_
      have hr_ := ro_step (g := plainP ts 0) HR.out
      clear HR
      have HR := Lib.hid hr_
      clear hr_
      go_wp2_with fail
      refine (plain_any HT HC.out.p 0 (by omega)).mono ?_
      rintro e w4 ⟨rfl, hb4⟩
      have hc4 := (HC.out).below hb4
      have h_ := HS.out.below hb4
      clear HS
      have HS := Lib.hid h_
      clear h_
      have h_ := HTK.out.below hb4
      clear HTK
      have HTK := Lib.hid h_
      clear h_
      have HB4 := Lib.hid hb4
      clear HC hb4
      have HC := Lib.hid hc4
      clear hc4
      obtain ⟨p, hp⟩ : ∃ p, plainP ts 0 st = p := ⟨_, rfl⟩
      rw [hp] at HR ⊢
      clear hp
      by_cases h0 : 0 < p.2
      · have hr_ := HR.out
        simp only [h0, Bool.false_eq_true, ↓reduceIte] at hr_
        clear HR
        have HR := Lib.hid hr_
        clear hr_
        have h1 : (0 : Int) < (p.2 : Int) := by omega
        have s0 := HS.out.cell 0 _ rfl
        have s1 := HS.out.cell 1 _ rfl
        have s2 := fun x => (HS.out.setb HC.out (i := 1) x).cell 0 _ rfl
        have s3 := fun x => (HS.out.setb HC.out (i := 1) x).cell 1 _ rfl
        have t0 := HTK.out.cell 0 _ rfl
        have t1 := HTK.out.cell 1 _ rfl
        have t2 := HTK.out.cell 2 _ rfl
        have t5 := fun x => (HTK.out.setb HC.out (i := 1) x).cell 1 _ rfl
        obtain ⟨nv_, dv_, -, c1_, -, -, -, -, hf_⟩ := HC.out.p.reads
        have hf1_ := hf_ 1
        have hpos_ := HC.out.p.pos
        have hlen_ := HT.len
        clear hf_
        have hn_ : p.2 ≤ 4398046511104 := skip_le HR.out HNE.out HT.len
        go_wp2_with fail
        clear s0 s1 s2 s3 t0 t1 t2 t5
        clear c1_ hf1_ hpos_ hlen_
        have hk_ := HC.out.skip p.2 HR.out HNE.out
        clear HC HR
        have HC := Lib.hid hk_.1
        have HR := Lib.hid hk_.2
        clear hk_
        refine (put_at HC.out.p (hereP ts st) 31 p.1 [] (Ints.nil _) (Im.nil _ _) (by simp) (HR.out ▸ HNE.out)).mono ?_
        intro e w9 hq9
        rcases (HC.out).last hq9 HR.out with ⟨x9, v9, U9, rfl, rfl, hd9⟩ | ⟨ln, cl, kd, rfl, hd9⟩
        rotate_left
        · clear hq9
          have HD := Lib.hid hd9; clear hd9
          go_wp2_with fail
          exact ⟨rfl, HD.out⟩
        have HFIN := Lib.hid hd9
        clear hd9 hq9
        go_wp2_with fail
        go_ret
        exact HFIN.out
      · have hr_ := HR.out
        simp only [h0, stageB, Bool.false_eq_true, ↓reduceIte] at hr_
        clear HR
        have HR := Lib.hid hr_
        clear hr_
        exact absurd HR.out HNE.out
    · have hr_ := HR.out
      simp only [hk, hq, Bool.and_self, Bool.false_eq_true, ↓reduceIte] at hr_
      clear HR
      have HR := Lib.hid hr_
      clear hr_
      have s0 := HS.out.cell 0 _ rfl
      have s1 := HS.out.cell 1 _ rfl
      have s2 := fun x => (HS.out.setb HC.out (i := 1) x).cell 0 _ rfl
      have s3 := fun x => (HS.out.setb HC.out (i := 1) x).cell 1 _ rfl
      have t0 := HTK.out.cell 0 _ rfl
      have t1 := HTK.out.cell 1 _ rfl
      have t2 := HTK.out.cell 2 _ rfl
      have t5 := fun x => (HTK.out.setb HC.out (i := 1) x).cell 1 _ rfl
      obtain ⟨nv_, dv_, -, c1_, -, -, -, -, hf_⟩ := HC.out.p.reads
      have hf1_ := hf_ 1
      have hpos_ := HC.out.p.pos
      have hlen_ := HT.len
      clear hf_
      go_wp2_with fail
      clear s0 s1 s2 s3 t0 t1 t2 t5
      clear c1_ hf1_ hpos_ hlen_
      have hk_ := HC.out.skip 1 HR.out HNE.out
      clear HC HR
      have HC := Lib.hid hk_.1
      have HR := Lib.hid hk_.2
      clear hk_
      refine (put_at HC.out.p (hereP ts st) (constK t) t.text [] (Ints.nil _) (Im.nil _ _) (by simp) (HR.out ▸ HNE.out)).mono ?_
      intro e w9 hq9
      rcases (HC.out).last hq9 HR.out with ⟨x9, v9, U9, rfl, rfl, hd9⟩ | ⟨ln, cl, kd, rfl, hd9⟩
      rotate_left
      · clear hq9
        have HD := Lib.hid hd9; clear hd9
        go_wp2_with fail
        exact ⟨rfl, HD.out⟩
      have HFIN := Lib.hid hd9
      clear hd9 hq9
      go_wp2_with fail
      go_ret
      exact HFIN.out

set_option maxRecDepth 100000 in
set_option maxHeartbeats 2000000 in
theorem apppat_any (HT : Tks w0 tv ts) (hp : TSt w0 tv ts b qs w U st) (hne : apppatM ts L st ≠ .error .out) :
    Calls Tryz.prog 212 #[ptrV b] w (TPost w0 tv ts b qs idR (apppatM ts L st) w U) := by
  obtain ⟨R, hR⟩ : ∃ R, apppatM ts L st = R := ⟨_, rfl⟩
  rw [hR] at hne ⊢
  have HNE := Lib.hid hne
  unfold apppatM at hR
  have HR := Lib.hid hR.symm
  have HC := Lib.hid (Cur.start hp)
  clear hR hne hp
  go_enter Tryz.func212, Tryz.ntmps212
  go_wp2_with fail
  have hr_ := ro_step (g := hereP ts) HR.out
  clear HR
  have HR := Lib.hid hr_
  clear hr_
  refine (here_any HT HC.out.p).mono ?_
  rintro e w1 ⟨rfl, hb1⟩
  have hc1 := (HC.out).below hb1
  have HB1 := Lib.hid hb1
  clear HC hb1
  have HC := Lib.hid hc1
  clear hc1
  unfold spotV
  go_wp2_with fail
  have hr_ := ro_step (g := tokAt ts 0) HR.out
  clear HR
  have HR := Lib.hid hr_
  clear hr_
  refine (token_any HT HC.out.p 0 (by omega)).mono ?_
  rintro e w2 ⟨⟨pv, rfl, hs⟩, hb2⟩
  have hc2 := HC.out.below hb2
  clear HC hb2 HB1
  have HC := Lib.hid hc2
  clear hc2
  obtain ⟨t, ht⟩ : ∃ t, tokAt ts 0 st = t := ⟨_, rfl⟩
  rw [ht] at HR hs ⊢
  have HTS := Lib.hid (ht ▸ tokAt_siz HT 0 st)
  clear ht
  have HP := Lib.hid hs
  obtain ⟨a, cap, rfl, -⟩ := hs
  unfold tkV
  have HS := Lib.hid ((Loc.new HC.out #[.int .i64 (hereP ts st).1, .int .i64 (hereP ts st).2] 109).alloc (.cells #[.int .i64 t.kind, str t.text, .slice a t.path.length cap, .int .i64 t.line, .int .i64 t.col] 32))
  have HTK := Lib.hid (Loc.new (HC.out.alloc (.cells #[.int .i64 (hereP ts st).1, .int .i64 (hereP ts st).2] 109)) #[.int .i64 t.kind, str t.text, .slice a t.path.length cap, .int .i64 t.line, .int .i64 t.col] 32)
  rw [show (w2.alloc (.cells #[.int .i64 (hereP ts st).1, .int .i64 (hereP ts st).2] 109)).heap.size = w2.heap.size + 1 from by simp] at HTK
  have hc3 := (HC.out.alloc (.cells #[.int .i64 (hereP ts st).1, .int .i64 (hereP ts st).2] 109)).alloc (.cells #[.int .i64 t.kind, str t.text, .slice a t.path.length cap, .int .i64 t.line, .int .i64 t.col] 32)
  clear HC
  have HC := Lib.hid hc3
  clear hc3
  go_wp2_with fail
  have hr_ := ro_step (g := plainP ts 0) HR.out
  clear HR
  have HR := Lib.hid hr_
  clear hr_
  refine (plain_any HT HC.out.p 0 (by omega)).mono ?_
  rintro e w4 ⟨rfl, hb4⟩
  have hc4 := (HC.out).below hb4
  have h_ := HS.out.below hb4
  clear HS
  have HS := Lib.hid h_
  clear h_
  have h_ := HTK.out.below hb4
  clear HTK
  have HTK := Lib.hid h_
  clear h_
  have HB4 := Lib.hid hb4
  clear HC hb4
  have HC := Lib.hid hc4
  clear hc4
  obtain ⟨p, hp⟩ : ∃ p, plainP ts 0 st = p := ⟨_, rfl⟩
  rw [hp] at HR ⊢
  clear hp HB4
  have t0 := HTK.out.cell 0 _ rfl
  have t2 := HTK.out.cell 2 _ rfl
  obtain ⟨n, hn⟩ : ∃ n, p.2 = n := ⟨_, rfl⟩
  rw [hn] at HR ⊢
  clear hn
  cases n with
  | succ m =>
    have b0 : ((m : Int) + 1 == 0) = false := by rw [beq_eq_false_iff_ne]; omega
    have hr_ := HR.out
    simp only [show (m + 1 == 0) = false from rfl, Bool.false_and, Bool.false_eq_true, ↓reduceIte] at hr_
    clear HR
    have HR := Lib.hid hr_
    clear hr_
    go_wp2_with fail
    clear t0 t2
    refine (atpat_any HT HC.out.p (ne_of HR.out HNE.out)).mono ?_
    intro e w5 hq5
    rcases (HC.out).call hq5 HR.out with ⟨x5, st5, v5, U5, rfl, rfl, hc5, hf5, hr5⟩ | ⟨ln, cl, kd, rfl, hb5, hd5⟩
    rotate_left
    · clear hq5 hb5
      have HD := Lib.hid hd5; clear hd5
      go_wp2_with fail
      exact ⟨rfl, HD.out _⟩
    have HF5 := Lib.hid hf5
    clear HR HC hq5 hf5
    have HC := Lib.hid hc5
    have HR := Lib.hid hr5
    clear hc5 hr5
    go_wp2_with fail
    have hr_ := ro_step (g := patternP ts) HR.out
    clear HR
    have HR := Lib.hid hr_
    clear hr_
    refine (pattern_any HT HC.out.p).mono ?_
    rintro e w6 ⟨rfl, hb6⟩
    have hc6 := (HC.out).below hb6
    have HB6 := Lib.hid hb6
    clear HC hb6
    have HC := Lib.hid hc6
    clear hc6
    obtain ⟨B, hB⟩ : ∃ B, patternP ts st5 = B := ⟨_, rfl⟩
    rw [hB] at HR ⊢
    clear hB
    cases B
    · have hr_ := HR.out
      simp only [Bool.not_false, Bool.false_eq_true, ↓reduceIte] at hr_
      clear HR
      have HR := Lib.hid hr_
      clear hr_
      go_wp2_with fail
      go_ret
      exact TPost.good HR.out rfl rfl HC.out.p HC.out.f
    · have hr_ := HR.out
      simp only [Bool.not_true, stageB, Bool.false_eq_true, ↓reduceIte] at hr_
      clear HR
      have HR := Lib.hid hr_
      clear hr_
      exact absurd HR.out HNE.out
  | zero =>
    cases hk : (t.kind == 2)
    · have hr_ := HR.out
      simp only [hk, show ((0 : Nat) == 0) = true from rfl, Bool.false_and, Bool.not_false, Bool.and_self, Bool.false_eq_true, ↓reduceIte] at hr_
      clear HR
      have HR := Lib.hid hr_
      clear hr_
      go_wp2_with fail
      refine (atpat_any HT HC.out.p (HR.out ▸ HNE.out)).mono ?_
      intro e w9 hq9
      rcases (HC.out).last hq9 HR.out with ⟨x9, v9, U9, rfl, rfl, hd9⟩ | ⟨ln, cl, kd, rfl, hd9⟩
      rotate_left
      · clear hq9
        have HD := Lib.hid hd9; clear hd9
        go_wp2_with fail
        exact ⟨rfl, HD.out⟩
      have HFIN := Lib.hid hd9
      clear hd9 hq9
      go_wp2_with fail
      go_ret
      exact HFIN.out
    · cases hpa : t.path with
      | nil =>
        have hr_ := HR.out
        simp only [hk, hpa, List.isEmpty_nil, show ((0 : Nat) == 0) = true from rfl, Bool.not_true, Bool.and_false, Bool.not_false, Bool.and_self, Bool.false_eq_true, ↓reduceIte] at hr_
        clear HR
        have HR := Lib.hid hr_
        clear hr_
        rw [hpa] at t2
        go_wp2_with fail
        refine (atpat_any HT HC.out.p (HR.out ▸ HNE.out)).mono ?_
        intro e w9 hq9
        rcases (HC.out).last hq9 HR.out with ⟨x9, v9, U9, rfl, rfl, hd9⟩ | ⟨ln, cl, kd, rfl, hd9⟩
        rotate_left
        · clear hq9
          have HD := Lib.hid hd9; clear hd9
          go_wp2_with fail
          exact ⟨rfl, HD.out⟩
        have HFIN := Lib.hid hd9
        clear hd9 hq9
        go_wp2_with fail
        go_ret
        exact HFIN.out
      | cons x l =>
        have hr_ := HR.out
        simp only [hk, hpa, List.isEmpty_cons, show ((0 : Nat) == 0) = true from rfl, Bool.not_false, Bool.and_self, Bool.not_true, Bool.and_false, Bool.false_eq_true, ↓reduceIte] at hr_
        clear HR
        have HR := Lib.hid hr_
        clear hr_
        rw [hpa] at t2
        have hl : (0 : Int) < (l.length : Int) + 1 := by omega
        go_wp2_with fail
        clear t0 t2
        refine (atpat_any HT HC.out.p (ne_of HR.out HNE.out)).mono ?_
        intro e w5 hq5
        rcases (HC.out).call hq5 HR.out with ⟨x5, st5, v5, U5, rfl, rfl, hc5, hf5, hr5⟩ | ⟨ln, cl, kd, rfl, hb5, hd5⟩
        rotate_left
        · clear hq5 hb5
          have HD := Lib.hid hd5; clear hd5
          go_wp2_with fail
          exact ⟨rfl, HD.out _⟩
        have HF5 := Lib.hid hf5
        clear HR HC hq5 hf5
        have HC := Lib.hid hc5
        have HR := Lib.hid hr5
        clear hc5 hr5
        go_wp2_with fail
        have hr_ := ro_step (g := patternP ts) HR.out
        clear HR
        have HR := Lib.hid hr_
        clear hr_
        refine (pattern_any HT HC.out.p).mono ?_
        rintro e w6 ⟨rfl, hb6⟩
        have hc6 := (HC.out).below hb6
        have HB6 := Lib.hid hb6
        clear HC hb6
        have HC := Lib.hid hc6
        clear hc6
        obtain ⟨B, hB⟩ : ∃ B, patternP ts st5 = B := ⟨_, rfl⟩
        rw [hB] at HR ⊢
        clear hB
        cases B
        · have hr_ := HR.out
          simp only [Bool.not_false, Bool.false_eq_true, ↓reduceIte] at hr_
          clear HR
          have HR := Lib.hid hr_
          clear hr_
          go_wp2_with fail
          go_ret
          exact TPost.good HR.out rfl rfl HC.out.p HC.out.f
        · have hr_ := HR.out
          simp only [Bool.not_true, stageB, Bool.false_eq_true, ↓reduceIte] at hr_
          clear HR
          have HR := Lib.hid hr_
          clear hr_
          exact absurd HR.out HNE.out

/-- what ahead answers -/
def AhPost (R : Except Flt (Bool × PS)) (st : PS) (l c : Int) (w : World) (e : Ending) (w' : World) : Prop :=
  (∃ x, R = .ok (x, st) ∧ e = .returned (.bool x) ∧ Below w.heap.size w w') ∨ (R = .error (.stop l c 51) ∧ e = fltE l c 51 ∧ Below w.heap.size w w')

set_option maxRecDepth 100000 in
set_option maxHeartbeats 2000000 in
theorem ahead_any (x y : Link) (w : World) :
    Calls Tryz.prog 257 #[ptrV b, .agg #[.int .i64 x.fx.level, .bool x.fx.right, .bool x.fx.infx, str x.text, .int .i64 x.at_.1, .int .i64 x.at_.2], .agg #[.int .i64 y.fx.level, .bool y.fx.right, .bool y.fx.infx, str y.text, .int .i64 y.at_.1, .int .i64 y.at_.2]] w (AhPost (aheadM x y st) st y.at_.1 y.at_.2 w) := by
  obtain ⟨⟨xl, xr, xi⟩, xt, xa⟩ := x
  obtain ⟨⟨yl, yr, yi⟩, yt, l, c⟩ := y
  obtain ⟨R, hR⟩ : ∃ R, aheadM ⟨⟨xl, xr, xi⟩, xt, xa⟩ ⟨⟨yl, yr, yi⟩, yt, (l, c)⟩ st = R := ⟨_, rfl⟩
  rw [hR]
  unfold aheadM at hR
  simp only [] at hR ⊢
  cases hl : (xl != yl)
  · cases xr <;> cases yr
    · have HR := Lib.hid (show R = .ok (true, st) by rw [← hR, hl]; rfl)
      clear hR
      go_enter Tryz.func257, Tryz.ntmps257
      go_wp2_with fail
      go_ret
      exact .inl ⟨_, HR.out, rfl, by (repeat (first | with_reducible exact Below.refl _ _ | with_reducible refine bl_al ?_ _ | with_reducible refine bl_drN ?_ _ | with_reducible refine bl_dr ?_ | (with_reducible refine bl_set ?_ (by first | exact Nat.le_refl _ | omega | (simp; done) | (simp; omega)) _) | assumption))⟩
    · have HR := Lib.hid (show R = .error (.stop l c 51) by rw [← hR, hl]; rfl)
      clear hR
      go_enter Tryz.func257, Tryz.ntmps257
      go_wp2_with fail
      refine (stop_any (l, c) 51 _).mono ?_
      rintro e w2 ⟨rfl, hb2⟩
      have HB2 := Lib.hid hb2; clear hb2
      go_wp2_with fail
      exact ⟨rfl, .inr ⟨HR.out, rfl, (bl_al (bl_al (Below.refl _ w) _) _).trans (HB2.out.mono (by simp; omega))⟩⟩
    · have HR := Lib.hid (show R = .error (.stop l c 51) by rw [← hR, hl]; rfl)
      clear hR
      go_enter Tryz.func257, Tryz.ntmps257
      go_wp2_with fail
      refine (stop_any (l, c) 51 _).mono ?_
      rintro e w2 ⟨rfl, hb2⟩
      have HB2 := Lib.hid hb2; clear hb2
      go_wp2_with fail
      exact ⟨rfl, .inr ⟨HR.out, rfl, (bl_al (bl_al (Below.refl _ w) _) _).trans (HB2.out.mono (by simp; omega))⟩⟩
    · have HR := Lib.hid (show R = .ok (false, st) by rw [← hR, hl]; rfl)
      clear hR
      go_enter Tryz.func257, Tryz.ntmps257
      go_wp2_with fail
      go_ret
      exact .inl ⟨_, HR.out, rfl, by (repeat (first | with_reducible exact Below.refl _ _ | with_reducible refine bl_al ?_ _ | with_reducible refine bl_drN ?_ _ | with_reducible refine bl_dr ?_ | (with_reducible refine bl_set ?_ (by first | exact Nat.le_refl _ | omega | (simp; done) | (simp; omega)) _) | assumption))⟩
  · have HR := Lib.hid (show R = .ok (decide (yl < xl), st) by rw [← hR, hl]; rfl)
    clear hR
    go_enter Tryz.func257, Tryz.ntmps257
    go_wp2_with fail
    go_ret
    exact .inl ⟨_, HR.out, rfl, by (repeat (first | with_reducible exact Below.refl _ _ | with_reducible refine bl_al ?_ _ | with_reducible refine bl_drN ?_ _ | with_reducible refine bl_dr ?_ | (with_reducible refine bl_set ?_ (by first | exact Nat.le_refl _ | omega | (simp; done) | (simp; omega)) _) | assumption))⟩


end
end Go.Proofs.YtbchkldhnjahaaaGreatDoor
