/- What a token is, and what begins here: constant, begins, plainAt, takeName, pattern, atomic: what each call returns. Conditions: those of each theorem. -/
import Derived.Test.YtbchkldhnjahaaaGreatDoorTrC
namespace Go.Proofs.YtbchkldhnjahaaaGreatDoor
open Go.RowKit Kiln
open Go.Proofs

section
variable {w0 : World} {tv : Value} {ts : List Tok} {b : Nat} {qs : List Nat} {w : World} {U : Rl} {st : PS}

set_option maxRecDepth 100000 in
set_option maxHeartbeats 1000000 in
theorem constant_any (t : Tok) (pv : Value) (w1 : World) (hs : Strs w1 pv t.path) :
    Calls Tryz.prog 216 #[tkV t pv] w fun e w' => e = .returned (.int .i64 (constK t)) ∧ Below w.heap.size w w' := by
  obtain ⟨a, cap, rfl, -⟩ := hs
  unfold tkV
  obtain ⟨R, hR⟩ : ∃ R, constK t = R := ⟨_, rfl⟩
  rw [hR]
  unfold constK at hR
  generalize t.kind = k at *
  by_cases h4 : k = 4
  · subst h4
    have HR := Lib.hid (show R = 1 from hR.symm)
    clear hR
    go_enter Tryz.func216, Tryz.ntmps216
    go_wp2_with fail
    go_ret
    exact ⟨by rw [HR.out]; rfl, by (repeat (first | with_reducible exact Below.refl _ _ | with_reducible refine bl_al ?_ _ | with_reducible refine bl_drN ?_ _ | with_reducible refine bl_dr ?_ | (with_reducible refine bl_set ?_ (by first | exact Nat.le_refl _ | omega | (simp; done) | (simp; omega)) _) | assumption))⟩
  by_cases h5 : k = 5
  · subst h5
    have HR := Lib.hid (show R = 2 from hR.symm)
    clear hR
    go_enter Tryz.func216, Tryz.ntmps216
    go_wp2_with fail
    go_ret
    exact ⟨by rw [HR.out]; rfl, by (repeat (first | with_reducible exact Below.refl _ _ | with_reducible refine bl_al ?_ _ | with_reducible refine bl_drN ?_ _ | with_reducible refine bl_dr ?_ | (with_reducible refine bl_set ?_ (by first | exact Nat.le_refl _ | omega | (simp; done) | (simp; omega)) _) | assumption))⟩
  by_cases h6 : k = 6
  · subst h6
    have HR := Lib.hid (show R = 3 from hR.symm)
    clear hR
    go_enter Tryz.func216, Tryz.ntmps216
    go_wp2_with fail
    go_ret
    exact ⟨by rw [HR.out]; rfl, by (repeat (first | with_reducible exact Below.refl _ _ | with_reducible refine bl_al ?_ _ | with_reducible refine bl_drN ?_ _ | with_reducible refine bl_dr ?_ | (with_reducible refine bl_set ?_ (by first | exact Nat.le_refl _ | omega | (simp; done) | (simp; omega)) _) | assumption))⟩
  by_cases h7 : k = 7
  · subst h7
    have HR := Lib.hid (show R = 4 from hR.symm)
    clear hR
    go_enter Tryz.func216, Tryz.ntmps216
    go_wp2_with fail
    go_ret
    exact ⟨by rw [HR.out]; rfl, by (repeat (first | with_reducible exact Below.refl _ _ | with_reducible refine bl_al ?_ _ | with_reducible refine bl_drN ?_ _ | with_reducible refine bl_dr ?_ | (with_reducible refine bl_set ?_ (by first | exact Nat.le_refl _ | omega | (simp; done) | (simp; omega)) _) | assumption))⟩
  · have b4 : (k == 4) = false := by rw [beq_eq_false_iff_ne]; exact h4
    have b5 : (k == 5) = false := by rw [beq_eq_false_iff_ne]; exact h5
    have b6 : (k == 6) = false := by rw [beq_eq_false_iff_ne]; exact h6
    have b7 : (k == 7) = false := by rw [beq_eq_false_iff_ne]; exact h7
    rw [b4, b5, b6, b7] at hR
    have HR := Lib.hid (show R = 0 from hR.symm)
    clear hR h4 h5 h6 h7
    go_enter Tryz.func216, Tryz.ntmps216
    go_wp2_with fail
    go_ret
    exact ⟨by rw [HR.out]; rfl, by (repeat (first | with_reducible exact Below.refl _ _ | with_reducible refine bl_al ?_ _ | with_reducible refine bl_drN ?_ _ | with_reducible refine bl_dr ?_ | (with_reducible refine bl_set ?_ (by first | exact Nat.le_refl _ | omega | (simp; done) | (simp; omega)) _) | assumption))⟩

set_option maxRecDepth 100000 in
set_option maxHeartbeats 2000000 in
theorem begins_any (t : Tok) (pv : Value) (w1 : World) (hs : Strs w1 pv t.path) :
    Calls Tryz.prog 58 #[tkV t pv] w fun e w' => e = .returned (.bool (beginsB t)) ∧ Below w.heap.size w w' := by
  obtain ⟨a, cap, rfl, -⟩ := hs
  unfold tkV
  obtain ⟨R, hR⟩ : ∃ R, beginsB t = R := ⟨_, rfl⟩
  rw [hR]
  unfold beginsB at hR
  generalize t.text = x at *
  cases hk : t.kind == 1
  · rw [hk] at hR
    have HR := Lib.hid (show R = false from hR.symm)
    have hk' : (t.kind != 1) = true := by rw [bne, hk]; rfl
    clear hR hk
    go_enter Tryz.func58, Tryz.ntmps58
    go_wp2_with fail
    go_ret
    exact ⟨by rw [HR.out]; rfl, by (repeat (first | with_reducible exact Below.refl _ _ | with_reducible refine bl_al ?_ _ | with_reducible refine bl_drN ?_ _ | with_reducible refine bl_dr ?_ | (with_reducible refine bl_set ?_ (by first | exact Nat.le_refl _ | omega | (simp; done) | (simp; omega)) _) | assumption))⟩
  · rw [hk] at hR
    have hk' : (t.kind != 1) = false := by rw [bne, hk]; rfl
    have HR := Lib.hid hR.symm
    clear hR hk
    go_enter Tryz.func58, Tryz.ntmps58
    go_wp2_with fail
    all_goals go_ret
    all_goals exact ⟨by rw [HR.out]; simp_all, by (repeat (first | with_reducible exact Below.refl _ _ | with_reducible refine bl_al ?_ _ | with_reducible refine bl_drN ?_ _ | with_reducible refine bl_dr ?_ | (with_reducible refine bl_set ?_ (by first | exact Nat.le_refl _ | omega | (simp; done) | (simp; omega)) _) | assumption))⟩

theorem tokAt_siz (HT : Tks w0 tv ts) (k : Nat) (st : PS) : (tokAt ts k st).text.length ≤ maxLen := by
  unfold tokAt maxLen
  rcases Nat.lt_or_ge (st.pos + k) ts.length with h1 | h1
  · rw [List.getD_eq_getElem?_getD, List.getElem?_eq_getElem h1]
    have := HT.siz _ (List.getElem_mem h1)
    simp; omega
  · rw [List.getD_eq_getElem?_getD, List.getElem?_eq_none h1]; simp [tok0]

set_option maxRecDepth 100000 in
set_option maxHeartbeats 2000000 in
theorem pattern_any (HT : Tks w0 tv ts) (hp : TSt w0 tv ts b qs w U st) :
    Calls Tryz.prog 181 #[ptrV b] w fun e w' => e = .returned (.bool (patternP ts st)) ∧ Below w.heap.size w w' := by
  have HK := Lib.hid (token_any HT hp 0 (by omega))
  have HP := Lib.hid hp
  have HX := Lib.hid (tokAt_siz HT 0 st)
  obtain ⟨R, hR⟩ : ∃ R, patternP ts st = R := ⟨_, rfl⟩
  rw [hR]
  unfold patternP at hR
  generalize tokAt ts 0 st = t at *
  have HI := Lib.hid (fun (W : World) (h : TSt w0 tv ts b qs W U st) pv (hs : Strs w0 pv t.path) => infix_any h t pv hs HX.out)
  clear hp
  simp only [] at hR
  obtain ⟨V, hV⟩ : ∃ V, infixP t st = V := ⟨_, rfl⟩
  rw [hV] at hR HI
  by_cases h2 : t.kind = 2
  · rw [h2] at hR
    have HR := Lib.hid (show R = !V by rw [← hR]; rfl)
    clear hR hV
    go_enter Tryz.func181, Tryz.ntmps181
    go_wp2_with fail
    refine HK.out.mono ?_
    rintro e w1 ⟨⟨pv, rfl, hs⟩, hb1⟩
    have HB1 := Lib.hid hb1
    have HP1 := Lib.hid ((HP.out.below hb1).alloc (.cells #[.int .i64 2, str t.text, pv, .int .i64 t.line, .int .i64 t.col] 32))
    clear hb1
    have HS := Lib.hid hs
    obtain ⟨a, cap, rfl, -⟩ := hs
    unfold tkV
    rw [h2]
    have HII := Lib.hid (HI.out _ HP1.out _ HS.out)
    unfold tkV at HII
    rw [h2] at HII
    go_wp2_with fail
    refine HII.out.mono ?_
    rintro e w2 ⟨rfl, hb2⟩
    have HB2 := Lib.hid hb2; clear hb2
    go_wp2_with fail
    go_ret
    exact ⟨by rw [HR.out]; rfl, (bl_al HB1.out _).trans (HB2.out.mono (by have := HB1.out.size; simp; omega))⟩
  · have b2 : (t.kind == 2) = false := by rw [beq_eq_false_iff_ne]; exact h2
    rw [b2] at hR
    have HR := Lib.hid hR.symm
    clear hR h2 hV HI
    go_enter Tryz.func181, Tryz.ntmps181
    go_wp2_with fail
    refine HK.out.mono ?_
    rintro e w1 ⟨⟨pv, rfl, hs⟩, hb1⟩
    have HB1 := Lib.hid hb1
    clear hb1
    obtain ⟨a, cap, rfl, -⟩ := hs
    unfold tkV
    go_wp2_with fail
    all_goals go_ret
    all_goals exact ⟨by rw [HR.out]; simp_all, bl_al HB1.out _⟩

set_option maxRecDepth 100000 in
set_option maxHeartbeats 2000000 in
theorem atomic_any (HT : Tks w0 tv ts) (hp : TSt w0 tv ts b qs w U st) :
    Calls Tryz.prog 293 #[ptrV b] w fun e w' => e = .returned (.bool (atomicP ts st)) ∧ Below w.heap.size w w' := by
  have HK := Lib.hid (token_any HT hp 0 (by omega))
  have HP := Lib.hid hp
  have HX := Lib.hid (tokAt_siz HT 0 st)
  obtain ⟨R, hR⟩ : ∃ R, atomicP ts st = R := ⟨_, rfl⟩
  rw [hR]
  unfold atomicP at hR
  generalize tokAt ts 0 st = t at *
  have HI := Lib.hid (fun (W : World) (h : TSt w0 tv ts b qs W U st) pv (hs : Strs w0 pv t.path) => infix_any h t pv hs HX.out)
  clear hp
  simp only [] at hR
  obtain ⟨V, hV⟩ : ∃ V, infixP t st = V := ⟨_, rfl⟩
  rw [hV] at hR HI
  by_cases h2 : t.kind = 2
  · rw [h2] at hR
    have HR := Lib.hid (show R = !V by rw [← hR]; rfl)
    clear hR hV
    go_enter Tryz.func293, Tryz.ntmps293
    go_wp2_with fail
    refine HK.out.mono ?_
    rintro e w1 ⟨⟨pv, rfl, hs⟩, hb1⟩
    have HB1 := Lib.hid hb1
    have HP1 := Lib.hid ((HP.out.below hb1).alloc (.cells #[.int .i64 2, str t.text, pv, .int .i64 t.line, .int .i64 t.col] 32))
    clear hb1
    have HS := Lib.hid hs
    obtain ⟨a, cap, rfl, -⟩ := hs
    unfold tkV
    rw [h2]
    have HII := Lib.hid (HI.out _ HP1.out _ HS.out)
    unfold tkV at HII
    rw [h2] at HII
    go_wp2_with fail
    refine HII.out.mono ?_
    rintro e w2 ⟨rfl, hb2⟩
    have HB2 := Lib.hid hb2; clear hb2
    go_wp2_with fail
    go_ret
    exact ⟨by rw [HR.out]; rfl, (bl_al HB1.out _).trans (HB2.out.mono (by have := HB1.out.size; simp; omega))⟩
  · have b2 : (t.kind == 2) = false := by rw [beq_eq_false_iff_ne]; exact h2
    rw [b2] at hR
    have HR := Lib.hid hR.symm
    clear hR h2 hV HI
    go_enter Tryz.func293, Tryz.ntmps293
    go_wp2_with fail
    refine HK.out.mono ?_
    rintro e w1 ⟨⟨pv, rfl, hs⟩, hb1⟩
    have HB1 := Lib.hid hb1
    clear hb1
    obtain ⟨a, cap, rfl, -⟩ := hs
    unfold tkV
    go_wp2_with fail
    all_goals go_ret
    all_goals exact ⟨by rw [HR.out]; simp_all, bl_al HB1.out _⟩

set_option maxRecDepth 100000 in
set_option maxHeartbeats 4000000 in
theorem plain_any (HT : Tks w0 tv ts) (hp : TSt w0 tv ts b qs w U st) (k : Nat) (hk : k ≤ 1) :
    Calls Tryz.prog 178 #[ptrV b, .int .i64 k] w fun e w' => e = .returned (.tuple #[str (plainP ts k st).1, .int .i64 ((plainP ts k st).2 : Nat)]) ∧ Below w.heap.size w w' := by
  have HK := Lib.hid (token_any HT hp k (by omega))
  have HP := Lib.hid hp
  have HX := Lib.hid (tokAt_siz HT k st)
  have HK1 := Lib.hid (fun (W : World) (h : TSt w0 tv ts b qs W U st) => token_any HT h (k + 1) (by omega))
  have HIS := Lib.hid (fun (W : World) (h : TSt w0 tv ts b qs W U st) => is_any HT h k (by omega) [111, 112])
  have HIE := Lib.hid (fun (W : World) (h : TSt w0 tv ts b qs W U st) => is_any HT h (k + 1) (by omega) [61])
  rw [show ((k + 1 : Nat) : Int) = (k : Int) + 1 from by omega] at HK1 HIE
  obtain ⟨R, hR⟩ : ∃ R, plainP ts k st = R := ⟨_, rfl⟩
  rw [hR]
  unfold plainP at hR
  obtain ⟨O, hO⟩ : ∃ O, isP ts k [111, 112] st = O := ⟨_, rfl⟩
  obtain ⟨Q, hQ⟩ : ∃ Q, isP ts (k + 1) [61] st = Q := ⟨_, rfl⟩
  rw [hO] at hR HIS
  rw [hQ] at hR HIE
  clear hO hQ hp
  generalize tokAt ts (k + 1) st = u at *
  generalize tokAt ts k st = t at *
  have HI := Lib.hid (fun (W : World) (h : TSt w0 tv ts b qs W U st) pv (hs : Strs w0 pv t.path) => infix_any h t pv hs HX.out)
  obtain ⟨V, hV⟩ : ∃ V, infixP t st = V := ⟨_, rfl⟩
  rw [hV] at hR HI
  have HRT := Lib.hid hR.symm
  clear hR hV
  have hk2 : (k : Int) ≤ 1 := by omega
  go_enter Tryz.func178, Tryz.ntmps178
  go_wp2_with fail
  refine HK.out.mono ?_
  rintro e w1 ⟨⟨pv, rfl, hs⟩, hb1⟩
  have HB1 := Lib.hid (bl_al hb1 (.cells #[.int .i64 t.kind, str t.text, pv, .int .i64 t.line, .int .i64 t.col] 32))
  clear hb1
  have k0 := heap_alloc_new w1 (.cells #[.int .i64 t.kind, str t.text, pv, .int .i64 t.line, .int .i64 t.col] 32)
  have HN := Lib.hid (fun W => name_any (w := W) t pv w0 hs)
  have HII := Lib.hid (fun (W : World) (h : TSt w0 tv ts b qs W U st) => HI.out W h pv hs)
  obtain ⟨a, cap, rfl, -⟩ := hs
  unfold tkV at HN HII ⊢
  go_wp2_with fail
  refine (HN.out _).mono ?_
  rintro e w2 ⟨rfl, hb2⟩
  have HB2 := Lib.hid (HB1.out.trans (hb2.mono HB1.out.size))
  have e0 := cell_later hb2 (cell3 k0 0 _ rfl)
  have e1 := cell_later hb2 (cell3 k0 1 _ rfl)
  have e2 := cell_later hb2 (cell3 k0 2 _ rfl)
  have e3 := cell_later hb2 (cell3 k0 3 _ rfl)
  have e4 := cell_later hb2 (cell3 k0 4 _ rfl)
  clear hb2 k0 HI HK
  cases hn : nameB t
  · rw [hn] at HRT
    clear hn HN HII
    go_wp2_with fail
    refine (HIS.out _ (HP.out.below HB2.out)).mono ?_
    rintro e wa ⟨rfl, hba⟩
    have HBA := Lib.hid (HB2.out.trans (hba.mono HB2.out.size)); clear hba
    cases ho : O
    · rw [ho] at HRT
      have HR := Lib.hid (show R = ([], 0) from HRT.out)
      clear HRT ho
      go_wp2_with fail
      go_ret2
      exact ⟨by rw [HR.out]; rfl, HBA.out⟩
    · rw [ho] at HRT
      clear ho
      go_wp2_with fail
      refine (HK1.out _ (HP.out.below HBA.out)).mono ?_
      rintro e wb ⟨⟨pu, rfl, hsu⟩, hbb⟩
      have HBB := Lib.hid (HBA.out.trans (hbb.mono HBA.out.size)); clear hbb
      have HNU := Lib.hid (fun W => name_any (w := W) u pu w0 hsu)
      obtain ⟨au, capu, rfl, -⟩ := hsu
      unfold tkV at HNU ⊢
      go_wp2_with fail
      have HBC := Lib.hid (bl_al HBB.out (.cells #[.int .i64 u.kind, str u.text, .slice au u.path.length capu, .int .i64 u.line, .int .i64 u.col] 32))
      have k0 := heap_alloc_new wb (.cells #[.int .i64 u.kind, str u.text, .slice au u.path.length capu, .int .i64 u.line, .int .i64 u.col] 32)
      refine (HNU.out _).mono ?_
      rintro e wd ⟨rfl, hbd⟩
      have HBD := Lib.hid (HBC.out.trans (hbd.mono HBC.out.size))
      have hc1 := cell_later hbd (cell3 k0 1 _ rfl)
      clear hbd k0
      cases hu : nameB u
      · rw [hu] at HRT
        clear hu hc1
        go_wp2_with fail
        refine (HIE.out _ (HP.out.below HBD.out)).mono ?_
        rintro e we ⟨rfl, hbe⟩
        have HBE := Lib.hid (HBD.out.trans (hbe.mono HBD.out.size)); clear hbe
        cases hq : Q
        · rw [hq] at HRT
          have HR := Lib.hid (show R = ([], 0) from HRT.out)
          clear HRT hq
          go_wp2_with fail
          go_ret2
          exact ⟨by rw [HR.out]; rfl, HBE.out⟩
        · rw [hq] at HRT
          have HR := Lib.hid (show R = ([61], 2) from HRT.out)
          clear HRT hq
          go_wp2_with fail
          go_ret2
          exact ⟨by rw [HR.out]; rfl, HBE.out⟩
      · rw [hu] at HRT
        have HR := Lib.hid (show R = (u.text, 2) from HRT.out)
        clear HRT hu
        go_wp2_with fail
        go_ret2
        exact ⟨by rw [HR.out]; rfl, HBD.out⟩
  · rw [hn] at HRT
    clear hn HN
    go_wp2_with fail
    refine (HII.out _ (HP.out.below HB2.out)).mono ?_
    rintro e w3 ⟨rfl, hb3⟩
    have HB3 := Lib.hid (HB2.out.trans (hb3.mono HB2.out.size))
    have f1 := cell_later hb3 e1
    clear hb3 e0 e1 e2 e3 e4
    cases V
    · have HR := Lib.hid (show R = (t.text, 1) from HRT.out)
      clear HRT
      go_wp2_with fail
      go_ret2
      exact ⟨by rw [HR.out]; rfl, HB3.out⟩
    · clear f1
      go_wp2_with fail
      refine (HIS.out _ (HP.out.below HB3.out)).mono ?_
      rintro e wa ⟨rfl, hba⟩
      have HBA := Lib.hid (HB3.out.trans (hba.mono HB3.out.size)); clear hba
      cases ho : O
      · rw [ho] at HRT
        have HR := Lib.hid (show R = ([], 0) from HRT.out)
        clear HRT ho
        go_wp2_with fail
        go_ret2
        exact ⟨by rw [HR.out]; rfl, HBA.out⟩
      · rw [ho] at HRT
        clear ho
        go_wp2_with fail
        refine (HK1.out _ (HP.out.below HBA.out)).mono ?_
        rintro e wb ⟨⟨pu, rfl, hsu⟩, hbb⟩
        have HBB := Lib.hid (HBA.out.trans (hbb.mono HBA.out.size)); clear hbb
        have HNU := Lib.hid (fun W => name_any (w := W) u pu w0 hsu)
        obtain ⟨au, capu, rfl, -⟩ := hsu
        unfold tkV at HNU ⊢
        go_wp2_with fail
        have HBC := Lib.hid (bl_al HBB.out (.cells #[.int .i64 u.kind, str u.text, .slice au u.path.length capu, .int .i64 u.line, .int .i64 u.col] 32))
        have k0 := heap_alloc_new wb (.cells #[.int .i64 u.kind, str u.text, .slice au u.path.length capu, .int .i64 u.line, .int .i64 u.col] 32)
        refine (HNU.out _).mono ?_
        rintro e wd ⟨rfl, hbd⟩
        have HBD := Lib.hid (HBC.out.trans (hbd.mono HBC.out.size))
        have hc1 := cell_later hbd (cell3 k0 1 _ rfl)
        clear hbd k0
        cases hu : nameB u
        · rw [hu] at HRT
          clear hu hc1
          go_wp2_with fail
          refine (HIE.out _ (HP.out.below HBD.out)).mono ?_
          rintro e we ⟨rfl, hbe⟩
          have HBE := Lib.hid (HBD.out.trans (hbe.mono HBD.out.size)); clear hbe
          cases hq : Q
          · rw [hq] at HRT
            have HR := Lib.hid (show R = ([], 0) from HRT.out)
            clear HRT hq
            go_wp2_with fail
            go_ret2
            exact ⟨by rw [HR.out]; rfl, HBE.out⟩
          · rw [hq] at HRT
            have HR := Lib.hid (show R = ([61], 2) from HRT.out)
            clear HRT hq
            go_wp2_with fail
            go_ret2
            exact ⟨by rw [HR.out]; rfl, HBE.out⟩
        · rw [hu] at HRT
          have HR := Lib.hid (show R = (u.text, 2) from HRT.out)
          clear HRT hu
          go_wp2_with fail
          go_ret2
          exact ⟨by rw [HR.out]; rfl, HBD.out⟩

end
end Go.Proofs.YtbchkldhnjahaaaGreatDoor
