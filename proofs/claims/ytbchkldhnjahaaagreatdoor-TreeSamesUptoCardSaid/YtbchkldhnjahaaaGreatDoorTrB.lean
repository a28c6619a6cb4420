/- The parser's small steps: enter, leave, name, is, take, must, takeName: what each call returns, and what it leaves. Conditions: those of each theorem. -/
import Derived.Test.YtbchkldhnjahaaaGreatDoorTrA
namespace Go.Proofs.YtbchkldhnjahaaaGreatDoor
open Go.RowKit Kiln
open Go.Proofs

section
variable {w0 : World} {tv : Value} {ts : List Tok} {b : Nat} {qs : List Nat} {w : World} {U : Rl} {st : PS}

set_option maxRecDepth 100000 in
set_option maxHeartbeats 1000000 in
theorem enter_any (HT : Tks w0 tv ts) (hp : TSt w0 tv ts b qs w U st) (hne : enterM ts st ≠ .error .out) :
    Calls Tryz.prog 60 #[ptrV b] w (TPost w0 tv ts b qs unitR (enterM ts st) w U) := by
  obtain ⟨nv, dv, -, -, -, -, c4, -, hf⟩ := hp.reads
  have hf4 := hf 4
  have HP := Lib.hid (fun n hn => hp.setOpn n hn)
  have HF := Lib.hid (hp.frame 4)
  obtain ⟨R, hR⟩ : ∃ R, enterM ts st = R := ⟨_, rfl⟩
  rw [hR] at hne ⊢
  unfold enterM at hR
  by_cases ho : 1000 < st.opn
  · rw [if_pos ho] at hR; exact absurd hR.symm hne
  rw [if_neg ho] at hR
  by_cases hb : 1000 < st.opn + 1
  · rw [if_pos hb] at hR
    have HR := Lib.hid hR.symm; clear hR
    obtain ⟨n, hn⟩ : ∃ n, st.opn = n := ⟨_, rfl⟩
    rw [hn] at c4 hb ho
    clear hn
    have hb' : (1000 : Int) < (n : Int) + 1 := by omega
    go_enter Tryz.func60, Tryz.ntmps60
    go_wp2_with fail
    have HP1 := Lib.hid (HP.out (n + 1) (by omega))
    refine (here_any HT HP1.out).mono ?_
    rintro e w1 ⟨rfl, hb1⟩
    have HB1 := Lib.hid hb1; clear hb1
    go_wp2_with fail
    refine (stop_any (hereP ts st) 52 _).mono ?_
    rintro e w2 ⟨rfl, hb2⟩
    have HB2 := Lib.hid hb2; clear hb2
    go_wp2_with fail
    exact ⟨rfl, TPost.bad HR.out rfl (HP1.out.base.trans ((HB1.out.trans (HB2.out.mono HB1.out.size)).mono HP1.out.base.size))⟩
  · rw [if_neg hb] at hR
    have HR := Lib.hid hR.symm; clear hR
    have hb' : ¬ (1000 : Int) < (st.opn : Int) + 1 := by omega
    go_enter Tryz.func60, Tryz.ntmps60
    go_wp2_with fail
    go_end0
    exact TPost.good HR.out rfl rfl (HP.out (st.opn + 1) (by omega)) (HF.out _)

set_option maxRecDepth 100000 in
set_option maxHeartbeats 1000000 in
theorem leave_any (hp : TSt w0 tv ts b qs w U st) (hne : leaveM st ≠ .error .out) :
    Calls Tryz.prog 62 #[ptrV b] w (TPost w0 tv ts b qs unitR (leaveM st) w U) := by
  obtain ⟨nv, dv, -, -, -, -, c4, -, hf⟩ := hp.reads
  have hf4 := hf 4
  have HP := Lib.hid (fun n hn => hp.setOpn n hn)
  have HF := Lib.hid (hp.frame 4)
  have ho := hp.opn
  obtain ⟨R, hR⟩ : ∃ R, leaveM st = R := ⟨_, rfl⟩
  rw [hR] at hne ⊢
  unfold leaveM at hR
  by_cases h0 : st.opn = 0
  · rw [if_pos h0] at hR; exact absurd hR.symm hne
  rw [if_neg h0] at hR
  obtain ⟨n, hn⟩ : ∃ n, st.opn = n + 1 := ⟨st.opn - 1, by omega⟩
  rw [hn] at c4 hR ho
  have HR := Lib.hid hR.symm; clear hR h0 hn
  go_enter Tryz.func62, Tryz.ntmps62
  go_wp2_with fail
  go_end0
  exact TPost.good HR.out rfl rfl (HP.out n (by omega)) (HF.out _)

set_option maxRecDepth 100000 in
set_option maxHeartbeats 1000000 in
theorem name_any (t : Tok) (pv : Value) (w1 : World) (hs : Strs w1 pv t.path) :
    Calls Tryz.prog 140 #[tkV t pv] w fun e w' => e = .returned (.bool (nameB t)) ∧ Below w.heap.size w w' := by
  obtain ⟨a, cap, rfl, -⟩ := hs
  unfold tkV
  cases hk : t.kind == 2
  · have HN := Lib.hid (show nameB t = false by unfold nameB; rw [hk]; rfl)
    go_enter Tryz.func140, Tryz.ntmps140
    go_wp2_with fail
    go_ret
    exact ⟨by rw [HN.out]; rfl, by (repeat (first | with_reducible exact Below.refl _ _ | with_reducible refine bl_al ?_ _ | with_reducible refine bl_drN ?_ _ | with_reducible refine bl_dr ?_ | (with_reducible refine bl_set ?_ (by first | exact Nat.le_refl _ | omega | (simp; done) | (simp; omega)) _) | assumption))⟩
  · cases hp : t.path with
    | nil =>
      have HN := Lib.hid (show nameB t = true by unfold nameB; rw [hk, hp]; rfl)
      clear hp
      go_enter Tryz.func140, Tryz.ntmps140
      go_wp2_with fail
      go_ret
      exact ⟨by rw [HN.out]; rfl, by (repeat (first | with_reducible exact Below.refl _ _ | with_reducible refine bl_al ?_ _ | with_reducible refine bl_drN ?_ _ | with_reducible refine bl_dr ?_ | (with_reducible refine bl_set ?_ (by first | exact Nat.le_refl _ | omega | (simp; done) | (simp; omega)) _) | assumption))⟩
    | cons x l =>
      have HN := Lib.hid (show nameB t = false by unfold nameB; rw [hk, hp]; rfl)
      have hl : ((l.length : Int) + 1 == 0) = false := by rw [beq_eq_false_iff_ne]; omega
      clear hp
      go_enter Tryz.func140, Tryz.ntmps140
      go_wp2_with fail
      go_ret
      exact ⟨by rw [HN.out]; rfl, by (repeat (first | with_reducible exact Below.refl _ _ | with_reducible refine bl_al ?_ _ | with_reducible refine bl_drN ?_ _ | with_reducible refine bl_dr ?_ | (with_reducible refine bl_set ?_ (by first | exact Nat.le_refl _ | omega | (simp; done) | (simp; omega)) _) | assumption))⟩

set_option maxRecDepth 100000 in
set_option maxHeartbeats 1000000 in
theorem is_any (HT : Tks w0 tv ts) (hp : TSt w0 tv ts b qs w U st) (k : Nat) (hk : k ≤ 3) (s : Bytes) :
    Calls Tryz.prog 95 #[ptrV b, .int .i64 k, str s] w fun e w' => e = .returned (.bool (isP ts k s st)) ∧ Below w.heap.size w w' := by
  have HK := Lib.hid (token_any HT hp k (by omega))
  obtain ⟨P, hP⟩ : ∃ P, isP ts k s st = P := ⟨_, rfl⟩
  rw [hP]
  unfold isP at hP
  generalize tokAt ts k st = t at *
  cases hk1 : t.kind == 1
  · rw [hk1] at hP
    have HPP := Lib.hid hP.symm; clear hP
    go_enter Tryz.func95, Tryz.ntmps95
    go_wp2_with fail
    refine HK.out.mono ?_
    rintro e w1 ⟨⟨pv, rfl, hs⟩, hb1⟩
    have HB1 := Lib.hid hb1; clear hb1
    obtain ⟨a, cap, rfl, -⟩ := hs
    unfold tkV
    go_wp2_with fail
    go_ret
    exact ⟨by rw [HPP.out]; rfl, bl_al HB1.out _⟩
  · rw [hk1] at hP
    have HPP := Lib.hid hP.symm; clear hP
    go_enter Tryz.func95, Tryz.ntmps95
    go_wp2_with fail
    refine HK.out.mono ?_
    rintro e w1 ⟨⟨pv, rfl, hs⟩, hb1⟩
    have HB1 := Lib.hid hb1; clear hb1
    obtain ⟨a, cap, rfl, -⟩ := hs
    unfold tkV
    go_wp2_with fail
    go_ret
    exact ⟨by rw [HPP.out, Bool.true_and]; rfl, bl_al HB1.out _⟩

theorem isP_lt {k : Nat} {s : Bytes} (h : isP ts k s st = true) : st.pos + k < ts.length := by
  unfold isP tokAt at h
  rcases Nat.lt_or_ge (st.pos + k) ts.length with h1 | h1
  · exact h1
  · simp [List.getD, List.getElem?_eq_none h1, tok0] at h
theorem nameB_lt {k : Nat} (h : nameB (tokAt ts k st) = true) : st.pos + k < ts.length := by
  unfold nameB tokAt at h
  rcases Nat.lt_or_ge (st.pos + k) ts.length with h1 | h1
  · exact h1
  · simp [List.getD, List.getElem?_eq_none h1, tok0] at h

set_option maxRecDepth 100000 in
set_option maxHeartbeats 1000000 in
theorem take_any (HT : Tks w0 tv ts) (hp : TSt w0 tv ts b qs w U st) (s : Bytes) :
    Calls Tryz.prog 57 #[ptrV b, str s] w (TPost w0 tv ts b qs boolR (takeM ts s st) w U) := by
  have HI := Lib.hid (is_any HT hp 0 (by omega) s)
  have HP := Lib.hid hp
  have hpos := hp.pos
  have hlen := HT.len
  obtain ⟨R, hR⟩ : ∃ R, takeM ts s st = R := ⟨_, rfl⟩
  rw [hR]
  unfold takeM at hR
  cases hB : isP ts 0 s st
  · rw [hB] at hR HI
    have HR := Lib.hid hR.symm; clear hR
    go_enter Tryz.func57, Tryz.ntmps57
    go_wp2_with fail
    refine HI.out.mono ?_
    rintro e w1 ⟨rfl, hb1⟩
    have HB1 := Lib.hid hb1; clear hb1
    go_wp2_with fail
    go_ret
    exact TPost.good HR.out rfl rfl (HP.out.below HB1.out) ((Fr.refl w U).below HB1.out)
  · have hlt := isP_lt hB
    rw [hB] at hR HI
    have HR := Lib.hid hR.symm; clear hR
    go_enter Tryz.func57, Tryz.ntmps57
    go_wp2_with fail
    refine HI.out.mono ?_
    rintro e w1 ⟨rfl, hb1⟩
    have HP1 := Lib.hid (HP.out.below hb1)
    have HF1 := Lib.hid ((Fr.refl w U).below hb1)
    clear hb1
    obtain ⟨nv, dv, -, c1, -, -, -, -, hf⟩ := HP1.out.reads
    have hf1 := hf 1
    go_wp2_with fail
    go_ret
    exact TPost.good HR.out rfl rfl (HP1.out.setPos (st.pos + 1) (by omega)) (HF1.out.trans (HP1.out.frame 1 _))

set_option maxRecDepth 100000 in
set_option maxHeartbeats 1000000 in
theorem must_any (HT : Tks w0 tv ts) (hp : TSt w0 tv ts b qs w U st) (s : Bytes) :
    Calls Tryz.prog 133 #[ptrV b, str s] w (TPost w0 tv ts b qs unitR (mustM ts s st) w U) := by
  have HI := Lib.hid (take_any HT hp s)
  have HP := Lib.hid hp
  obtain ⟨R, hR⟩ : ∃ R, mustM ts s st = R := ⟨_, rfl⟩
  rw [hR]
  unfold mustM synM at hR
  cases hB : isP ts 0 s st
  · rw [hB] at hR
    unfold takeM at HI
    rw [hB] at HI
    have HR := Lib.hid hR.symm; clear hR
    go_enter Tryz.func133, Tryz.ntmps133
    go_wp2_with fail
    refine HI.out.mono ?_
    rintro e w1 ⟨v, U1, rfl, rfl, hp1, hf1⟩
    have HP1 := Lib.hid hp1; clear hp1 hf1
    go_wp2_with fail
    refine (syntax_any HT HP1.out).mono ?_
    rintro e w2 ⟨rfl, hb2⟩
    have HB2 := Lib.hid hb2; clear hb2
    go_wp2_with fail
    exact ⟨rfl, TPost.bad HR.out rfl (HP1.out.base.trans (HB2.out.mono HP1.out.base.size))⟩
  · rw [hB] at hR
    unfold takeM at HI
    rw [hB] at HI
    have HR := Lib.hid hR.symm; clear hR
    go_enter Tryz.func133, Tryz.ntmps133
    go_wp2_with fail
    refine HI.out.mono ?_
    rintro e w1 ⟨v, U1, rfl, rfl, hp1, hf1⟩
    have HP1 := Lib.hid hp1; have HF1 := Lib.hid hf1; clear hp1 hf1
    go_wp2_with fail
    go_end0
    exact TPost.good HR.out rfl rfl HP1.out HF1.out

end
end Go.Proofs.YtbchkldhnjahaaaGreatDoor
