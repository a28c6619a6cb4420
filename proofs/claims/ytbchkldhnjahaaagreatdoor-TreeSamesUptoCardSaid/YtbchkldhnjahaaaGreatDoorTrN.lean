/- dec (staged): what each call returns, and what it leaves. Conditions: those of each theorem. -/
import Derived.Test.YtbchkldhnjahaaaGreatDoorTrM
import Derived.Deep.RegionHeld3
namespace Go.Proofs.YtbchkldhnjahaaaGreatDoor
open Go.RowKit Kiln
open Go.Proofs

section
variable {w0 : World} {tv : Value} {ts : List Tok} {b : Nat} {qs : List Nat} {w : World} {U : Rl} {st : PS} {L : Low}

theorem pure_end {α : Type} {m : M α} {st : PS} {R : Except Flt (α × PS)} (HR : R = m st) : R = (m >>= fun x => pure x) st := by
  rw [HR]; show m st = M.bnd m (fun x => (pure x : M α)) st; unfold M.bnd; cases m st with
  | error e => rfl
  | ok p => rfl
section
variable {wc : World} {Uc : Rl}
theorem Loc.give {B k r : Nat} {cs : Array Value} {T : TypeId} {v : Value} {l : List Int} (h : Loc wc Uc k cs T) (hv : LR B wc Uc v l) (hL : k < B) : Loc wc (Uc.give v r) k cs T := ⟨h.1, by
  unfold Rl.give
  cases hb : v.ownBlock with
  | none => exact h.2
  | some j => exact (Rl.set_other (by rintro rfl; have := (hv.lt _ hb).1; omega)).trans h.2⟩
end
set_option maxRecDepth 100000 in
set_option maxHeartbeats 4000000 in
theorem dec_any (HT : Tks w0 tv ts) (HLow : LowOK w0 tv ts b L) (hp : TSt w0 tv ts b qs w U st) (hne : decM ts L st ≠ .error .out) :
    Calls Tryz.prog 61 #[ptrV b] w (TPost w0 tv ts b qs idR (decM ts L st) w U) := by
  obtain ⟨R, hR⟩ : ∃ R, decM ts L st = R := ⟨_, rfl⟩
  rw [hR] at hne ⊢
  have HNE := Lib.hid hne
  unfold decM at hR
  have HR := Lib.hid hR.symm
  have HC := Lib.hid (Cur.start hp)
  clear hR hne hp
  go_enter Tryz.func61, Tryz.ntmps61
  go_wp2_with fail
  have hb_ := Loc.new HC.out #[ptrV b] 72
  have hc2 := HC.out.alloc (.cells #[ptrV b] 72)
  clear HC
  have HB := Lib.hid hb_
  have HC := Lib.hid hc2
  clear hc2 hb_
  have b0 := HB.out.cell 0 _ rfl
  go_wp2_with fail
  have hr_ := ro_step (g := hereP ts) HR.out
  clear HR
  have HR := Lib.hid hr_
  clear hr_
  refine (here_any HT HC.out.p).mono ?_
  rintro e w1 ⟨rfl, hb1⟩
  have hc1 := (HC.out).below hb1
  have h_ := HB.out.below hb1
  clear HB
  have HB := Lib.hid h_
  clear h_
  have HB1 := Lib.hid hb1
  clear HC hb1
  have HC := Lib.hid hc1
  clear hc1
  unfold spotV
  clear b0
  have hs_ := Loc.new HC.out #[.int .i64 (hereP ts st).1, .int .i64 (hereP ts st).2] 109
  have hb_ := HB.out.alloc (.cells #[.int .i64 (hereP ts st).1, .int .i64 (hereP ts st).2] 109)
  have hc2 := HC.out.alloc (.cells #[.int .i64 (hereP ts st).1, .int .i64 (hereP ts st).2] 109)
  clear HC HB HB1
  have HB := Lib.hid hb_
  have HS := Lib.hid hs_
  have HC := Lib.hid hc2
  clear hc2 hb_ hs_
  have b0 := HB.out.cell 0 _ rfl
  go_wp2_with fail
  have hr_ := ro_step (g := tokAt ts 0) HR.out
  clear HR
  have HR := Lib.hid hr_
  clear hr_
  refine (token_any HT HC.out.p 0 (by omega)).mono ?_
  rintro e w2 ⟨⟨pv, rfl, hs⟩, hb2⟩
  have hc2 := HC.out.below hb2
  have hb3 := HB.out.below hb2
  have hs3 := HS.out.below hb2
  clear HC HB HS hb2 b0
  have HC := Lib.hid hc2
  have HB := Lib.hid hb3
  have HS := Lib.hid hs3
  clear hc2 hb3 hs3
  obtain ⟨t, ht⟩ : ∃ t, tokAt ts 0 st = t := ⟨_, rfl⟩
  rw [ht] at HR hs ⊢
  clear ht
  obtain ⟨a, cap, rfl, -⟩ := hs
  unfold tkV
  have b0 := HB.out.cell 0 _ rfl
  have hfl : ∀ w, (Instr.field 32 (.agg #[.int .i64 t.kind, str t.text, .slice a t.path.length cap, .int .i64 t.line, .int .i64 t.col]) 1).run Tryz.prog w = .ok (str t.text) w := fun _ => by kernel_rfl
  have b1 := fun x => (HB.out.setb HC.out (i := 1) x).cell 0 _ rfl
  obtain ⟨nv_, dv_, -, c1_, -, -, -, -, hf_⟩ := HC.out.p.reads
  have hf1_ := hf_ 1
  have hpos_ := HC.out.p.pos
  have hlen_ := HT.len
  clear hf_
  cases hv : (t.text == [118, 97, 108])
  · have hr_ := HR.out
    simp only [hv, stageB, Bool.false_eq_true, ↓reduceIte] at hr_
    clear HR
    have HR := Lib.hid hr_
    clear hr_
    exact absurd (HC.out.skip 1 HR.out HNE.out).2 HNE.out
  · rw [beq_iff_eq] at hv
    rw [hv] at HR ⊢
    simp only [hv] at hfl
    go_wp2_with fail
    clear c1_ hf1_ hpos_ hlen_
    have hb_ := HB.out.setb HC.out (i := 1) (.int .i64 ((st.pos : Int) + (1 : Nat)))
    have hs_ := HS.out.setb HC.out (i := 1) (.int .i64 ((st.pos : Int) + (1 : Nat)))
    clear b0 b1 hfl
    have hk_ := HC.out.skip 1 HR.out HNE.out
    clear HC HR
    have HC := Lib.hid hk_.1
    have HR := Lib.hid hk_.2
    clear hk_
    clear HB HS
    have HB := Lib.hid hb_
    have HS := Lib.hid hs_
    clear hb_ hs_
    have hr_ := HR.out
    simp only [beq_self_eq_true, Bool.false_eq_true, ↓reduceIte] at hr_
    clear HR
    have HR := Lib.hid hr_
    clear hr_
    refine (take_any HT HC.out.p [114, 101, 99]).mono ?_
    intro e w3 hq3
    rcases (HC.out).call hq3 HR.out with ⟨x3, st3, v3, U3, rfl, rfl, hc3, hf3, hr3⟩ | ⟨ln, cl, kd, rfl, hb3, hd3⟩
    rotate_left
    · clear hq3 hb3
      have HD := Lib.hid hd3; clear hd3
      go_wp2_with fail
      exact ⟨rfl, HD.out _⟩
    have h_ := HB.out.step hf3
    clear HB
    have HB := Lib.hid h_
    clear h_
    have h_ := HS.out.step hf3
    clear HS
    have HS := Lib.hid h_
    clear h_
    have HF3 := Lib.hid hf3
    clear HR HC hq3 hf3
    have HC := Lib.hid hc3
    have HR := Lib.hid hr3
    clear hc3 hr3
    have b0 := HB.out.cell 0 _ rfl
    cases x3
    · have hr_ := HR.out
      simp only [Bool.false_eq_true, ↓reduceIte] at hr_
      clear HR
      have HR := Lib.hid hr_
      clear hr_
      go_wp2_with fail
      have b0 := HB.out.cell 0 _ rfl
      have s0 := HS.out.cell 0 _ rfl
      have s1 := HS.out.cell 1 _ rfl
      have HLT := Lib.hid (And.intro HB.out.lt HS.out.lt)
      refine wp_region_held_drew (S := (fun W => W.cell? ⟨w.heap.size, 0, none⟩ = some (ptrV b) ∧ W.cell? ⟨w1.heap.size, 0, none⟩ = some (.int .i64 (hereP ts st).1) ∧ W.cell? ⟨w1.heap.size, 1, none⟩ = some (.int .i64 (hereP ts st).2))) (by kernel_rfl) (by exact ⟨b0, s0, s1⟩) (fun hH0 => ?_)
      refine wpAnyH_take (i := 0) (v := ?_) rfl (by kernel_rfl) (by kernel_rfl) (by kernel_rfl) (fun _ _ _ h => h) (Or.inl ⟨by rfl, ?_⟩) hH0 ?_
      rotate_left
      · (intro wS hSw; (try dsimp only at hSw); go_simp; try with_reducible rfl)
      (try simp only [Act.put, List.getElem_toArray, List.getElem_cons_succ, List.getElem_cons_zero, List.setIfInBounds_toArray, List.set_cons_zero, List.set_cons_succ])
      refine wpAnyH_take (i := 1) (v := ?_) rfl (by kernel_rfl) (by kernel_rfl) (by kernel_rfl) (fun _ _ _ h => h) (Or.inl ⟨by rfl, ?_⟩) hH0 ?_
      rotate_left
      · (intro wS hSw; (try dsimp only at hSw); go_simp; try with_reducible rfl)
      (try simp only [Act.put, List.getElem_toArray, List.getElem_cons_succ, List.getElem_cons_zero, List.setIfInBounds_toArray, List.set_cons_zero, List.set_cons_succ])
      refine wpAnyH_take (i := 2) (v := ?_) rfl (by kernel_rfl) (by kernel_rfl) (by kernel_rfl) (fun _ _ _ h => h) (Or.inl ⟨by rfl, ?_⟩) hH0 ?_
      rotate_left
      · (intro wS hSw; (try dsimp only at hSw); go_simp; try with_reducible rfl)
      (try simp only [Act.put, List.getElem_toArray, List.getElem_cons_succ, List.getElem_cons_zero, List.setIfInBounds_toArray, List.set_cons_zero, List.set_cons_succ])
      refine wpAnyH_take (i := 3) (v := ?_) rfl (by kernel_rfl) (by kernel_rfl) (by kernel_rfl) (fun _ _ _ h => h) (Or.inl ⟨by rfl, ?_⟩) hH0 ?_
      rotate_left
      · (intro wS hSw; (try dsimp only at hSw); go_simp; try with_reducible rfl)
      (try simp only [Act.put, List.getElem_toArray, List.getElem_cons_succ, List.getElem_cons_zero, List.setIfInBounds_toArray, List.set_cons_zero, List.set_cons_succ])
      refine wpAnyH_take (i := 4) (v := ?_) rfl (by kernel_rfl) (by kernel_rfl) (by kernel_rfl) (fun _ _ _ h => h) (Or.inl ⟨by rfl, ?_⟩) hH0 ?_
      rotate_left
      · (intro wS hSw; (try dsimp only at hSw); go_simp; try with_reducible rfl)
      (try simp only [Act.put, List.getElem_toArray, List.getElem_cons_succ, List.getElem_cons_zero, List.setIfInBounds_toArray, List.set_cons_zero, List.set_cons_succ])
      refine wpAnyH_ready (rs := [5]) (by kernel_rfl) (by simp) (AllReadyH.cons rfl (fun K hK => ?_) AllReadyH.nil)
      (try simp only [List.getElem_toArray, List.getElem_cons_succ, List.getElem_cons_zero])
      go_simp
      refine (and_any HT 97 (bindM ts L) (fun _ _ => rfl) (fun _ _ _ _ hp hne => bind_any HT HLow hp hne) HC.out.p.drew (ne_of HR.out HNE.out)).mono ?_
      intro e w5 hq5
      rcases (HC.out.drew).call hq5 HR.out with ⟨x5, st5, v5, U5, rfl, hv5, hc5, hf5, hr5⟩ | ⟨ln, cl, kd, rfl, hb5, hd5⟩
      rotate_left
      · clear hq5 hb5
        have HD := Lib.hid hd5; clear hd5
        go_wp2_with fail
        exact ⟨rfl, HD.out _⟩
      have h_ := HB.out.drew.step hf5
      clear HB
      have HB := Lib.hid h_
      clear h_
      have h_ := HS.out.drew.step hf5
      clear HS
      have HS := Lib.hid h_
      clear h_
      have HF5 := Lib.hid hf5
      clear HR HC hq5 hf5
      have HC := Lib.hid hc5
      have HR := Lib.hid hr5
      clear hc5 hr5
      go_wp2_with fail
      refine hK.out _ _ (by exact ⟨HB.out.cell 0 _ rfl, HS.out.cell 0 _ rfl, HS.out.cell 1 _ rfl⟩) (fun hH1 => ?_)
      clear hK K hH0
      (try simp only [Act.put, List.getElem_toArray, List.getElem_cons_succ, List.getElem_cons_zero, List.setIfInBounds_toArray, List.set_cons_zero, List.set_cons_succ])
      refine wpAnyH_ready (rs := [6]) (by kernel_rfl) (by simp) (AllReadyH.cons rfl (fun K hK => ?_) AllReadyH.nil)
      (try simp only [List.getElem_toArray, List.getElem_cons_succ, List.getElem_cons_zero])
      go_simp
      obtain ⟨⟨hl5, hll5⟩, hln5⟩ := hv5
      have hb6 := HB.out.give (r := 4) hl5 HLT.out.1
      have hs6 := HS.out.give (r := 4) hl5 HLT.out.2
      clear HB HS
      have HB := Lib.hid hb6
      have HS := Lib.hid hs6
      clear hb6 hs6
      have hr_ := pure_end HR.out
      clear HR
      have HR := Lib.hid hr_
      clear hr_
      have hl := HC.out.own (hl5.low (Nat.le_of_lt HLT.out.1))
      refine (put_any hl.1.p (hereP ts st) 51 [] x5 _ hl.2.1 hl.2.2 (by omega) (ne_of HR.out HNE.out)).mono ?_
      intro e w6 hq6
      rcases (hl.1).call hq6 HR.out with ⟨x6, st6, v6, U6, rfl, rfl, hc6, hf6, hr6⟩ | ⟨ln, cl, kd, rfl, hb6, hd6⟩
      rotate_left
      · clear hq6 hb6
        have HD := Lib.hid hd6; clear hd6
        go_wp2_with fail
        exact ⟨rfl, HD.out _⟩
      have h_ := HB.out.step hf6
      clear HB
      have HB := Lib.hid h_
      clear h_
      have h_ := HS.out.step hf6
      clear HS
      have HS := Lib.hid h_
      clear h_
      have HF6 := Lib.hid hf6
      clear HR HC hq6 hf6
      have HC := Lib.hid hc6
      have HR := Lib.hid hr6
      clear hc6 hr6
      clear hl
      go_wp2_with fail
      refine hK.out _ _ (by exact ⟨HB.out.cell 0 _ rfl, HS.out.cell 0 _ rfl, HS.out.cell 1 _ rfl⟩) (fun hH2 => ?_)
      clear hK K hH1
      (try simp only [Act.put, List.getElem_toArray, List.getElem_cons_succ, List.getElem_cons_zero, List.setIfInBounds_toArray, List.set_cons_zero, List.set_cons_succ])
      refine wpAnyH_take (i := 7) (v := ?_) rfl (by kernel_rfl) (by kernel_rfl) (by kernel_rfl) (fun _ _ _ h => h) (Or.inl ⟨by rfl, ?_⟩) hH2 ?_
      rotate_left
      · (intro wS hSw; (try dsimp only at hSw); go_simp; try with_reducible rfl)
      (try simp only [Act.put, List.getElem_toArray, List.getElem_cons_succ, List.getElem_cons_zero, List.setIfInBounds_toArray, List.set_cons_zero, List.set_cons_succ])
      refine wpAnyH_done (by kernel_rfl) ?_ _
      go_wp2_with fail
      go_ret
      exact TPost.good HR.out rfl rfl HC.out.p HC.out.f
    · have hr_ := HR.out
      simp only [Bool.false_eq_true, ↓reduceIte] at hr_
      clear HR
      have HR := Lib.hid hr_
      clear hr_
      go_wp2_with fail
      have b0 := HB.out.cell 0 _ rfl
      have s0 := HS.out.cell 0 _ rfl
      have s1 := HS.out.cell 1 _ rfl
      have HLT := Lib.hid (And.intro HB.out.lt HS.out.lt)
      refine wp_region_held_drew (S := (fun W => W.cell? ⟨w.heap.size, 0, none⟩ = some (ptrV b) ∧ W.cell? ⟨w1.heap.size, 0, none⟩ = some (.int .i64 (hereP ts st).1) ∧ W.cell? ⟨w1.heap.size, 1, none⟩ = some (.int .i64 (hereP ts st).2))) (by kernel_rfl) (by exact ⟨b0, s0, s1⟩) (fun hH0 => ?_)
      refine wpAnyH_take (i := 0) (v := ?_) rfl (by kernel_rfl) (by kernel_rfl) (by kernel_rfl) (fun _ _ _ h => h) (Or.inl ⟨by rfl, ?_⟩) hH0 ?_
      rotate_left
      · (intro wS hSw; (try dsimp only at hSw); go_simp; try with_reducible rfl)
      (try simp only [Act.put, List.getElem_toArray, List.getElem_cons_succ, List.getElem_cons_zero, List.setIfInBounds_toArray, List.set_cons_zero, List.set_cons_succ])
      refine wpAnyH_take (i := 1) (v := ?_) rfl (by kernel_rfl) (by kernel_rfl) (by kernel_rfl) (fun _ _ _ h => h) (Or.inl ⟨by rfl, ?_⟩) hH0 ?_
      rotate_left
      · (intro wS hSw; (try dsimp only at hSw); go_simp; try with_reducible rfl)
      (try simp only [Act.put, List.getElem_toArray, List.getElem_cons_succ, List.getElem_cons_zero, List.setIfInBounds_toArray, List.set_cons_zero, List.set_cons_succ])
      refine wpAnyH_take (i := 2) (v := ?_) rfl (by kernel_rfl) (by kernel_rfl) (by kernel_rfl) (fun _ _ _ h => h) (Or.inl ⟨by rfl, ?_⟩) hH0 ?_
      rotate_left
      · (intro wS hSw; (try dsimp only at hSw); go_simp; try with_reducible rfl)
      (try simp only [Act.put, List.getElem_toArray, List.getElem_cons_succ, List.getElem_cons_zero, List.setIfInBounds_toArray, List.set_cons_zero, List.set_cons_succ])
      refine wpAnyH_take (i := 3) (v := ?_) rfl (by kernel_rfl) (by kernel_rfl) (by kernel_rfl) (fun _ _ _ h => h) (Or.inl ⟨by rfl, ?_⟩) hH0 ?_
      rotate_left
      · (intro wS hSw; (try dsimp only at hSw); go_simp; try with_reducible rfl)
      (try simp only [Act.put, List.getElem_toArray, List.getElem_cons_succ, List.getElem_cons_zero, List.setIfInBounds_toArray, List.set_cons_zero, List.set_cons_succ])
      refine wpAnyH_take (i := 4) (v := ?_) rfl (by kernel_rfl) (by kernel_rfl) (by kernel_rfl) (fun _ _ _ h => h) (Or.inl ⟨by rfl, ?_⟩) hH0 ?_
      rotate_left
      · (intro wS hSw; (try dsimp only at hSw); go_simp; try with_reducible rfl)
      (try simp only [Act.put, List.getElem_toArray, List.getElem_cons_succ, List.getElem_cons_zero, List.setIfInBounds_toArray, List.set_cons_zero, List.set_cons_succ])
      refine wpAnyH_ready (rs := [5]) (by kernel_rfl) (by simp) (AllReadyH.cons rfl (fun K hK => ?_) AllReadyH.nil)
      (try simp only [List.getElem_toArray, List.getElem_cons_succ, List.getElem_cons_zero])
      go_simp
      refine (and_any HT 97 (bindM ts L) (fun _ _ => rfl) (fun _ _ _ _ hp hne => bind_any HT HLow hp hne) HC.out.p.drew (ne_of HR.out HNE.out)).mono ?_
      intro e w5 hq5
      rcases (HC.out.drew).call hq5 HR.out with ⟨x5, st5, v5, U5, rfl, hv5, hc5, hf5, hr5⟩ | ⟨ln, cl, kd, rfl, hb5, hd5⟩
      rotate_left
      · clear hq5 hb5
        have HD := Lib.hid hd5; clear hd5
        go_wp2_with fail
        exact ⟨rfl, HD.out _⟩
      have h_ := HB.out.drew.step hf5
      clear HB
      have HB := Lib.hid h_
      clear h_
      have h_ := HS.out.drew.step hf5
      clear HS
      have HS := Lib.hid h_
      clear h_
      have HF5 := Lib.hid hf5
      clear HR HC hq5 hf5
      have HC := Lib.hid hc5
      have HR := Lib.hid hr5
      clear hc5 hr5
      go_wp2_with fail
      refine hK.out _ _ (by exact ⟨HB.out.cell 0 _ rfl, HS.out.cell 0 _ rfl, HS.out.cell 1 _ rfl⟩) (fun hH1 => ?_)
      clear hK K hH0
      (try simp only [Act.put, List.getElem_toArray, List.getElem_cons_succ, List.getElem_cons_zero, List.setIfInBounds_toArray, List.set_cons_zero, List.set_cons_succ])
      refine wpAnyH_ready (rs := [6]) (by kernel_rfl) (by simp) (AllReadyH.cons rfl (fun K hK => ?_) AllReadyH.nil)
      (try simp only [List.getElem_toArray, List.getElem_cons_succ, List.getElem_cons_zero])
      go_simp
      obtain ⟨⟨hl5, hll5⟩, hln5⟩ := hv5
      have hb6 := HB.out.give (r := 4) hl5 HLT.out.1
      have hs6 := HS.out.give (r := 4) hl5 HLT.out.2
      clear HB HS
      have HB := Lib.hid hb6
      have HS := Lib.hid hs6
      clear hb6 hs6
      have hr_ := pure_end HR.out
      clear HR
      have HR := Lib.hid hr_
      clear hr_
      have hl := HC.out.own (hl5.low (Nat.le_of_lt HLT.out.1))
      refine (put_any hl.1.p (hereP ts st) 52 [] x5 _ hl.2.1 hl.2.2 (by omega) (ne_of HR.out HNE.out)).mono ?_
      intro e w6 hq6
      rcases (hl.1).call hq6 HR.out with ⟨x6, st6, v6, U6, rfl, rfl, hc6, hf6, hr6⟩ | ⟨ln, cl, kd, rfl, hb6, hd6⟩
      rotate_left
      · clear hq6 hb6
        have HD := Lib.hid hd6; clear hd6
        go_wp2_with fail
        exact ⟨rfl, HD.out _⟩
      have h_ := HB.out.step hf6
      clear HB
      have HB := Lib.hid h_
      clear h_
      have h_ := HS.out.step hf6
      clear HS
      have HS := Lib.hid h_
      clear h_
      have HF6 := Lib.hid hf6
      clear HR HC hq6 hf6
      have HC := Lib.hid hc6
      have HR := Lib.hid hr6
      clear hc6 hr6
      clear hl
      go_wp2_with fail
      refine hK.out _ _ (by exact ⟨HB.out.cell 0 _ rfl, HS.out.cell 0 _ rfl, HS.out.cell 1 _ rfl⟩) (fun hH2 => ?_)
      clear hK K hH1
      (try simp only [Act.put, List.getElem_toArray, List.getElem_cons_succ, List.getElem_cons_zero, List.setIfInBounds_toArray, List.set_cons_zero, List.set_cons_succ])
      refine wpAnyH_take (i := 7) (v := ?_) rfl (by kernel_rfl) (by kernel_rfl) (by kernel_rfl) (fun _ _ _ h => h) (Or.inl ⟨by rfl, ?_⟩) hH2 ?_
      rotate_left
      · (intro wS hSw; (try dsimp only at hSw); go_simp; try with_reducible rfl)
      (try simp only [Act.put, List.getElem_toArray, List.getElem_cons_succ, List.getElem_cons_zero, List.setIfInBounds_toArray, List.set_cons_zero, List.set_cons_succ])
      refine wpAnyH_done (by kernel_rfl) ?_ _
      go_wp2_with fail
      go_ret
      exact TPost.good HR.out rfl rfl HC.out.p HC.out.f


end
end Go.Proofs.YtbchkldhnjahaaaGreatDoor
