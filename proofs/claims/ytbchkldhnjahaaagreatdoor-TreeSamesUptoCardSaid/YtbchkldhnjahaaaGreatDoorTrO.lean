/- decs (staged): what each call returns, and what it leaves. Conditions: those of each theorem. -/
import Derived.Test.YtbchkldhnjahaaaGreatDoorTrN
namespace Go.Proofs.YtbchkldhnjahaaaGreatDoor
open Go.RowKit Kiln
open Go.Proofs

section
variable {w0 : World} {tv : Value} {ts : List Tok} {b : Nat} {qs : List Nat} {w : World} {U : Rl} {st : PS} {L : Low}

section
variable {wc w2 : World} {Uc : Rl}
theorem Loc.beside {B k : Nat} {cs : Array Value} {T : TypeId} {v : Value} {l : List Int} (h : Loc wc Uc k cs T) (hv : LR B wc Uc v l) (hL : k < B) (hg : wc.grownBy w2 v.ownBlock) : Loc w2 Uc k cs T :=
  ⟨(hg.block k h.lt (fun e => by have := (hv.lt k e.symm).1; omega)).trans h.1, h.2⟩
end
set_option maxRecDepth 100000 in
set_option maxHeartbeats 4000000 in
theorem decs_any (HT : Tks w0 tv ts) (HLow : LowOK w0 tv ts b L) (hp : TSt w0 tv ts b qs w U st) (hne : decsM ts L st ≠ .error .out) :
    Calls Tryz.prog 31 #[ptrV b] w (TPost w0 tv ts b qs idR (decsM ts L st) w U) := by
  obtain ⟨R, hR⟩ : ∃ R, decsM ts L st = R := ⟨_, rfl⟩
  rw [hR] at hne ⊢
  have HNE := Lib.hid hne
  unfold decsM at hR
  have HR := Lib.hid hR.symm
  have HC := Lib.hid (Cur.start hp)
  clear hR hne hp
  go_enter Tryz.func31, Tryz.ntmps31
  go_wp2_with fail
  have hr_ := ro_step (g := hereP ts) HR.out
  clear HR
  have HR := Lib.hid hr_
  clear hr_
  refine (here_any HT HC.out.p).mono ?_
  rintro e w1 ⟨rfl, hb1⟩
  have hc1 := (HC.out).below hb1
  have HB1 := Lib.hid hb1
  clear HC hb1
  have HC := Lib.hid hc1
  clear hc1
  unfold spotV
  go_wp2_with fail
  have hs_ := Loc.new HC.out #[.int .i64 (hereP ts st).1, .int .i64 (hereP ts st).2] 109
  have hc2 := HC.out.alloc (.cells #[.int .i64 (hereP ts st).1, .int .i64 (hereP ts st).2] 109)
  have HW1 := Lib.hid HC.out.size
  clear HC HB1
  have HS := Lib.hid hs_
  have HC := Lib.hid hc2
  clear hc2 hs_
  go_loopg [4] (ts.length + 1) (fun g v wr => ∃ l st' U', LR (w1.heap.size + 1) wr U' v (l.map Int.ofNat) ∧ l.length ≤ 1099511627776 ∧ Loc wr U' w1.heap.size #[.int .i64 (hereP ts st).1, .int .i64 (hereP ts st).2] 109 ∧ Cur w0 tv ts b qs w U wr U' st' ∧ R = decsL ts L (hereP ts st) g l st')
  case atStart => exact ⟨[], st, U, LR.nil _ _ _, by simp, HS.out, HC.out, HR.out⟩
  case round =>
    clear HC HR HS
    obtain ⟨l, st', U', hl, hll, hs, hc, hr⟩ := hrel
    cases gk with
    | zero => exact absurd hr HNE.out
    | succ fu =>
      unfold decsL at hr
      have HR := Lib.hid hr
      have HC := Lib.hid hc
      have HL := Lib.hid hl
      have HS := Lib.hid hs
      have HLL := Lib.hid hll
      clear hr hc hl hs hll
      go_wp2_with fail
      refine (take_any HT HC.out.p [59]).mono ?_
      intro e w2 hq2
      rcases (HC.out).call hq2 HR.out with ⟨x2, st2, v2, U2, rfl, rfl, hc2, hf2, hr2⟩ | ⟨ln, cl, kd, rfl, hb2, hd2⟩
      rotate_left
      · clear hq2 hb2
        have HD := Lib.hid hd2; clear hd2
        go_wp2_with fail
        exact ⟨rfl, HD.out _⟩
      have h_ := HL.out.step hf2
      clear HL
      have HL := Lib.hid h_
      clear h_
      have h_ := HS.out.step hf2
      clear HS
      have HS := Lib.hid h_
      clear h_
      have HF2 := Lib.hid hf2
      clear HR HC hq2 hf2
      have HC := Lib.hid hc2
      have HR := Lib.hid hr2
      clear hc2 hr2
      cases x2
      rotate_left
      · have hr_ := HR.out
        simp only [Bool.false_eq_true, ↓reduceIte] at hr_
        clear HR
        have HR := Lib.hid hr_
        clear hr_
        go_wp2_with fail
        go_roundg fu
        case measure => omega
        case rel => exact ⟨l, st2, U2, HL.out, HLL.out, HS.out, HC.out, HR.out⟩
      have hr_ := HR.out
      simp only [Bool.false_eq_true, ↓reduceIte] at hr_
      clear HR
      have HR := Lib.hid hr_
      clear hr_
      go_wp2_with fail
      have hr_ := ro_step (g := tokAt ts 0) HR.out
      clear HR
      have HR := Lib.hid hr_
      clear hr_
      refine (token_any HT HC.out.p 0 (by omega)).mono ?_
      rintro e w3 ⟨⟨pv, rfl, hs⟩, hb3⟩
      obtain ⟨t, ht⟩ : ∃ t, tokAt ts 0 st2 = t := ⟨_, rfl⟩
      rw [ht] at HR hs ⊢
      clear ht
      have hc3 := HC.out.below hb3
      have hl3 := HL.out.below hb3
      have hs3 := HS.out.below hb3
      clear HC HL HS hb3
      have HC := Lib.hid hc3
      have HL := Lib.hid hl3
      have HS := Lib.hid hs3
      have HP := Lib.hid hs
      clear hc3 hl3 hs3 hs
      go_wp2_with fail
      refine (begins_any t pv _ HP.out).mono ?_
      rintro e w4 ⟨rfl, hb4⟩
      have hc4 := (HC.out).below hb4
      have h_ := HL.out.below hb4
      clear HL
      have HL := Lib.hid h_
      clear h_
      have h_ := HS.out.below hb4
      clear HS
      have HS := Lib.hid h_
      clear h_
      have HB4 := Lib.hid hb4
      clear HC hb4
      have HC := Lib.hid hc4
      clear hc4
      obtain ⟨B, hB⟩ : ∃ B, beginsB t = B := ⟨_, rfl⟩
      rw [hB] at HR ⊢
      clear hB HB4
      cases B
      · have hr_ := HR.out
        simp only [Bool.false_eq_true, ↓reduceIte] at hr_
        clear HR
        have HR := Lib.hid hr_
        clear hr_
        have s0 := HS.out.cell 0 _ rfl
        have s1 := HS.out.cell 1 _ rfl
        go_wp2_with fail
        have hl := HC.out.own (HL.out.low (by have := HW1.out; omega))
        have hll := HLL.out
        refine (put_any hl.1.p (hereP ts st) 50 [] l _ hl.2.1 hl.2.2 (by omega) (HR.out ▸ HNE.out)).mono ?_
        intro e w9 hq9
        rcases (hl.1).last hq9 HR.out with ⟨x9, v9, U9, rfl, rfl, hd9⟩ | ⟨ln, cl, kd, rfl, hd9⟩
        rotate_left
        · clear hq9
          have HD := Lib.hid hd9; clear hd9
          go_wp2_with fail
          exact ⟨rfl, HD.out⟩
        have HFIN := Lib.hid hd9
        clear hd9 hq9
        go_wp2_with fail
        go_ret
        exact HFIN.out
      · have hr_ := HR.out
        simp only [Bool.false_eq_true, ↓reduceIte] at hr_
        clear HR
        have HR := Lib.hid hr_
        clear hr_
        go_wp2_with fail
        refine (enter_any HT HC.out.p (ne_of HR.out HNE.out)).mono ?_
        intro e w5 hq5
        rcases (HC.out).call hq5 HR.out with ⟨x5, st5, v5, U5, rfl, rfl, hc5, hf5, hr5⟩ | ⟨ln, cl, kd, rfl, hb5, hd5⟩
        rotate_left
        · clear hq5 hb5
          have HD := Lib.hid hd5; clear hd5
          go_wp2_with fail
          exact ⟨rfl, HD.out _⟩
        have h_ := HL.out.step hf5
        clear HL
        have HL := Lib.hid h_
        clear h_
        have h_ := HS.out.step hf5
        clear HS
        have HS := Lib.hid h_
        clear h_
        have HF5 := Lib.hid hf5
        clear HR HC hq5 hf5
        have HC := Lib.hid hc5
        have HR := Lib.hid hr5
        clear hc5 hr5
        go_wp2_with fail
        refine (dec_any HT HLow HC.out.p (ne_of HR.out HNE.out)).mono ?_
        intro e w6 hq6
        rcases (HC.out).call hq6 HR.out with ⟨x6, st6, v6, U6, rfl, rfl, hc6, hf6, hr6⟩ | ⟨ln, cl, kd, rfl, hb6, hd6⟩
        rotate_left
        · clear hq6 hb6
          have HD := Lib.hid hd6; clear hd6
          go_wp2_with fail
          exact ⟨rfl, HD.out _⟩
        have h_ := HL.out.step hf6
        clear HL
        have HL := Lib.hid h_
        clear h_
        have h_ := HS.out.step hf6
        clear HS
        have HS := Lib.hid h_
        clear h_
        have HF6 := Lib.hid hf6
        clear HR HC hq6 hf6
        have HC := Lib.hid hc6
        have HR := Lib.hid hr6
        clear hc6 hr6
        have hroom_ := room_step HR.out HNE.out
        have hroom := hroom_.1
        have hr_ := hroom_.2
        clear HR
        have HR := Lib.hid hr_
        clear hr_
        clear hroom_
        obtain ⟨j0, hj, hj0, hj1, hj2⟩ := info_parts Tryz.infoInt
        have HJ := Lib.hid (And.intro hj (And.intro hj0 (And.intro hj1 hj2)))
        clear hj hj0 hj1 hj2
        have hbs := HS.out.lt
        go_wp2_with (first | (at_builtin; refine wpList_append_lies _ rfl (.tmp 20) (.tmp 23) 39 rfl (w1.heap.size + 1) 3 j0 (.int .i64 0) 1 8 Tryz.underlying39 HJ.out.1 HJ.out.2.1 HJ.out.2.2.1 HJ.out.2.2.2 rfl (by decide) _ (l.map Int.ofNat).length _ rfl (HL.out.1.alloc _) ⟨w6.heap.size, 0, none⟩ 1 1 [.int .i64 x6] rfl rfl (World.news_of_block (heap_alloc_new _ _)) (one_int _) (by decide) (by simp; unfold maxLen; omega) (by simp; omega) (by simp; omega) _ rfl ?_; intro g2 cap2 w7 hrow2 hgr2 hgb2 hgl2))
        have hw1 := HW1.out
        have hpu := (HC.out.alloc _).push (n := l.length + 1) (cap := cap2) (fun k e => (HL.out.lt k e).1) HL.out.2 (by omega) hgr2 hgb2
        have hs7 := (HS.out.alloc _).beside (HL.out.step ((Fr.refl w6 U6).alloc _)) (Nat.lt_succ_self _) hgr2
        have hl7 : LR (w1.heap.size + 1) w7 U6 (.slice (some ⟨g2, 0, none⟩) (l.length + 1) cap2) ((l ++ [x6]).map Int.ofNat) := ⟨by simpa using hrow2, hpu.2⟩
        clear HC HL HS hrow2 hgr2 hgb2 hgl2 hbs hw1 HJ
        have HC := Lib.hid hpu.1
        have HL := Lib.hid hl7
        have HS := Lib.hid hs7
        clear hpu hl7 hs7
        refine (leave_any HC.out.p (ne_of HR.out HNE.out)).mono ?_
        intro e w8 hq8
        rcases (HC.out).call hq8 HR.out with ⟨x8, st8, v8, U8, rfl, rfl, hc8, hf8, hr8⟩ | ⟨ln, cl, kd, rfl, hb8, hd8⟩
        rotate_left
        · clear hq8 hb8
          have HD := Lib.hid hd8; clear hd8
          go_wp2_with fail
          exact ⟨rfl, HD.out _⟩
        have h_ := HL.out.step hf8
        clear HL
        have HL := Lib.hid h_
        clear h_
        have h_ := HS.out.step hf8
        clear HS
        have HS := Lib.hid h_
        clear h_
        have HF8 := Lib.hid hf8
        clear HR HC hq8 hf8
        have HC := Lib.hid hc8
        have HR := Lib.hid hr8
        clear hc8 hr8
        go_wp2_with fail
        go_roundg fu
        case measure => omega
        case rel => exact ⟨l ++ [x6], st8, U8, HL.out, by simp; omega, HS.out, HC.out, HR.out⟩

section
variable {w0 : World} {tv : Value} {ts : List Tok} {b : Nat} {L : Low}
/-- the phrases below, staged: no types, structures, signatures -/
def lowS (ts : List Tok) : Nat → Low
  | 0 => ⟨outM, outM, outM, outM, outM, outM⟩
  | n + 1 => ⟨expM ts (lowS ts n), patM ts (lowS ts n), outM, decsM ts (lowS ts n), outM, outM⟩
theorem lowS_ok (HT : Tks w0 tv ts) : ∀ n, LowOK w0 tv ts b (lowS ts n)
  | 0 => ⟨fun _ h => absurd rfl h, fun _ h => absurd rfl h, fun _ h => absurd rfl h, fun _ h => absurd rfl h, fun _ h => absurd rfl h, fun _ h => absurd rfl h⟩
  | n + 1 => ⟨fun hp hne => exp_ok HT (lowS_ok HT n) _ _ _ _ hp hne, fun hp hne => pat_ok HT (lowS_ok HT n) _ _ _ _ hp hne, fun _ h => absurd rfl h, fun hp hne => decs_any HT (lowS_ok HT n) hp hne, fun _ h => absurd rfl h, fun _ h => absurd rfl h⟩
end

end
end Go.Proofs.YtbchkldhnjahaaaGreatDoor
