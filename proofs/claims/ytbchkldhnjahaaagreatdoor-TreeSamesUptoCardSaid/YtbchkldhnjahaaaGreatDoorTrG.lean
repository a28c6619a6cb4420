/- Lists of nodes: and, match: what each call returns, and what it leaves. Conditions: those of each theorem. -/
import Derived.Test.YtbchkldhnjahaaaGreatDoorTrF
namespace Go.Proofs.YtbchkldhnjahaaaGreatDoor
open Go.RowKit Kiln
open Go.Proofs

section
variable {w0 : World} {tv : Value} {ts : List Tok} {b : Nat} {qs : List Nat} {w : World} {U : Rl} {st : PS} {L : Low}

set_option maxRecDepth 100000 in
set_option maxHeartbeats 2000000 in
theorem and_any (HT : Tks w0 tv ts) (F : Nat) (one : M Nat) (eg : ∀ (args : Array Value) (w : World), (callFunc F args).run Tryz.prog w = .ok (.enter F args) w) (hF : Ok w0 tv ts b F one) (hp : TSt w0 tv ts b qs w U st) (hne : Kiln.andM ts one st ≠ .error .out) :
    Calls Tryz.prog 96 #[ptrV b, .func (.func F) #[ptrV b] #[]] w (TPost w0 tv ts b qs (lst1R w.heap.size) (Kiln.andM ts one st) w U) := by
  obtain ⟨R, hR⟩ : ∃ R, Kiln.andM ts one st = R := ⟨_, rfl⟩
  rw [hR] at hne ⊢
  have HNE := Lib.hid hne
  unfold Kiln.andM at hR
  have HR := Lib.hid hR.symm
  have HC := Lib.hid (Cur.start hp)
  clear hR hne hp
  go_enter Tryz.func96, Tryz.ntmps96
  go_wp2_with fail
  refine (hF _ _ _ _ HC.out.p (ne_of HR.out HNE.out)).mono ?_
  intro e w1 hq1
  rcases (HC.out).call hq1 HR.out with ⟨x1, st1, v1, U1, rfl, rfl, hc1, hf1, hr1⟩ | ⟨ln, cl, kd, rfl, hb1, hd1⟩
  rotate_left
  · clear hq1 hb1
    have HD := Lib.hid hd1; clear hd1
    go_wp2_with fail
    exact ⟨rfl, HD.out _⟩
  have HF1 := Lib.hid hf1
  clear HR HC hq1 hf1
  have HC := Lib.hid hc1
  have HR := Lib.hid hr1
  clear hc1 hr1
  go_wp2_with fail
  have HL := Lib.hid (LR.lit (B := w.heap.size) (w := w1) (U := U1) [(x1 : Int)] #[.int .i64 x1] rfl HC.out.size (HC.out.p.zero (Nat.le_refl _)) (by unfold maxLen; simp))
  go_loopg [5] (ts.length + 1) (fun g v wr => ∃ l st' U', LR w.heap.size wr U' v (l.map Int.ofNat) ∧ l.length ≤ 1099511627776 ∧ l ≠ [] ∧ Cur w0 tv ts b qs w U wr U' st' ∧ R = (moreM ts [97, 110, 100] one g l) st')
  case atStart => exact ⟨[x1], st1, U1, HL.out, by simp, by simp, HC.out.alloc _, HR.out⟩
  case round =>
    clear HL HC HR
    obtain ⟨l, st', U', hl, hll, hln, hc, hr⟩ := hrel
    cases gk with
    | zero => exact absurd hr HNE.out
    | succ fu =>
      have HR := Lib.hid hr
      have HC := Lib.hid hc
      have HL := Lib.hid hl
      have HLL := Lib.hid (And.intro hll hln)
      clear hr hc hl hll hln
      have hr_ := more_step HR.out
      clear HR
      have HR := Lib.hid hr_
      clear hr_
      go_wp2_with fail
      refine (take_any HT HC.out.p [97, 110, 100]).mono ?_
      intro e w2 hq2
      rcases (HC.out).call hq2 HR.out with ⟨x2, st2, v2, U2, rfl, rfl, hc2, hf2, hr2⟩ | ⟨ln, cl, kd, rfl, hb2, hd2⟩
      rotate_left
      · clear hq2 hb2
        have HD := Lib.hid hd2; clear hd2
        go_wp2_with fail
        exact ⟨rfl, HD.out _⟩
      have h_ := HL.out.step hf2
      clear HL
      have HL := Lib.hid h_
      clear h_
      have HF2 := Lib.hid hf2
      clear HR HC hq2 hf2
      have HC := Lib.hid hc2
      have HR := Lib.hid hr2
      clear hc2 hr2
      cases x2
      · have hr_ := HR.out
        simp only [Bool.false_eq_true, ↓reduceIte] at hr_
        clear HR
        have HR := Lib.hid hr_
        clear hr_
        go_wp2_with fail
        go_ret
        exact TPost.good HR.out rfl ⟨⟨HL.out, HLL.out.1⟩, HLL.out.2⟩ HC.out.p HC.out.f
      · have hr_ := HR.out
        simp only [Bool.false_eq_true, ↓reduceIte] at hr_
        clear HR
        have HR := Lib.hid hr_
        clear hr_
        go_wp2_with fail
        refine (hF _ _ _ _ HC.out.p (ne_of HR.out HNE.out)).mono ?_
        intro e w3 hq3
        rcases (HC.out).call hq3 HR.out with ⟨x3, st3, v3, U3, rfl, rfl, hc3, hf3, hr3⟩ | ⟨ln, cl, kd, rfl, hb3, hd3⟩
        rotate_left
        · clear hq3 hb3
          have HD := Lib.hid hd3; clear hd3
          go_wp2_with fail
          exact ⟨rfl, HD.out _⟩
        have h_ := HL.out.step hf3
        clear HL
        have HL := Lib.hid h_
        clear h_
        have HF3 := Lib.hid hf3
        clear HR HC hq3 hf3
        have HC := Lib.hid hc3
        have HR := Lib.hid hr3
        clear hc3 hr3
        have hroom_ := room_step HR.out HNE.out
        have hroom := hroom_.1
        have hr_ := hroom_.2
        clear HR
        have HR := Lib.hid hr_
        clear hr_
        clear hroom_
        obtain ⟨j0, hj, hj0, hj1, hj2⟩ := info_parts Tryz.infoInt
        have HJ := Lib.hid (And.intro hj (And.intro hj0 (And.intro hj1 hj2)))
        clear hj hj0 hj1 hj2
        have hbs := HC.out.size
        go_wp2_with (first | (at_builtin; refine wpList_append_lies _ rfl (.tmp 11) (.tmp 14) 39 rfl w.heap.size 3 j0 (.int .i64 0) 1 8 Tryz.underlying39 HJ.out.1 HJ.out.2.1 HJ.out.2.2.1 HJ.out.2.2.2 rfl (by decide) _ (l.map Int.ofNat).length _ rfl (HL.out.1.alloc _) ⟨w3.heap.size, 0, none⟩ 1 1 [.int .i64 x3] rfl rfl (World.news_of_block (heap_alloc_new _ _)) (one_int _) (by decide) (by simp; unfold maxLen; omega) (by simp; omega) (by simp; omega) _ rfl ?_; intro g2 cap2 w5 hrow2 hgr2 hgb2 hgl2))
        have hpu := (HC.out.alloc _).push (n := l.length + 1) (cap := cap2) (fun k e => (HL.out.lt k e).1) HL.out.2 (Nat.le_refl _) hgr2 hgb2
        have HC5 := Lib.hid hpu.1
        have HL5 : RowKit.Hid (LR w.heap.size w5 U3 (.slice (some ⟨g2, 0, none⟩) (l.length + 1) cap2) ((l ++ [x3]).map Int.ofNat)) := ⟨by simpa using hrow2, hpu.2⟩
        clear hpu hrow2 hgr2 hgb2 hgl2
        go_roundg fu
        case measure => omega
        case rel => exact ⟨l ++ [x3], st3, U3, HL5.out, by simp; omega, by simp, HC5.out, HR.out⟩

set_option maxRecDepth 100000 in
set_option maxHeartbeats 2000000 in
theorem match_any (HT : Tks w0 tv ts) (HLow : LowOK w0 tv ts b L) (hp : TSt w0 tv ts b qs w U st) (hne : matchM ts L st ≠ .error .out) :
    Calls Tryz.prog 177 #[ptrV b] w (TPost w0 tv ts b qs (lst1R w.heap.size) (matchM ts L st) w U) := by
  obtain ⟨R, hR⟩ : ∃ R, matchM ts L st = R := ⟨_, rfl⟩
  rw [hR] at hne ⊢
  have HNE := Lib.hid hne
  unfold matchM at hR
  have HR := Lib.hid hR.symm
  have HC := Lib.hid (Cur.start hp)
  clear hR hne hp
  go_enter Tryz.func177, Tryz.ntmps177
  go_wp2_with fail
  refine (rule_any HT HLow HC.out.p (ne_of HR.out HNE.out)).mono ?_
  intro e w1 hq1
  rcases (HC.out).call hq1 HR.out with ⟨x1, st1, v1, U1, rfl, rfl, hc1, hf1, hr1⟩ | ⟨ln, cl, kd, rfl, hb1, hd1⟩
  rotate_left
  · clear hq1 hb1
    have HD := Lib.hid hd1; clear hd1
    go_wp2_with fail
    exact ⟨rfl, HD.out _⟩
  have HF1 := Lib.hid hf1
  clear HR HC hq1 hf1
  have HC := Lib.hid hc1
  have HR := Lib.hid hr1
  clear hc1 hr1
  go_wp2_with fail
  have HL := Lib.hid (LR.lit (B := w.heap.size) (w := w1) (U := U1) [(x1 : Int)] #[.int .i64 x1] rfl HC.out.size (HC.out.p.zero (Nat.le_refl _)) (by unfold maxLen; simp))
  go_loopg [3] (ts.length + 1) (fun g v wr => ∃ l st' U', LR w.heap.size wr U' v (l.map Int.ofNat) ∧ l.length ≤ 1099511627776 ∧ l ≠ [] ∧ Cur w0 tv ts b qs w U wr U' st' ∧ R = (moreM ts [124] (ruleM ts L) g l) st')
  case atStart => exact ⟨[x1], st1, U1, HL.out, by simp, by simp, HC.out.alloc _, HR.out⟩
  case round =>
    clear HL HC HR
    obtain ⟨l, st', U', hl, hll, hln, hc, hr⟩ := hrel
    cases gk with
    | zero => exact absurd hr HNE.out
    | succ fu =>
      have HR := Lib.hid hr
      have HC := Lib.hid hc
      have HL := Lib.hid hl
      have HLL := Lib.hid (And.intro hll hln)
      clear hr hc hl hll hln
      have hr_ := more_step HR.out
      clear HR
      have HR := Lib.hid hr_
      clear hr_
      go_wp2_with fail
      refine (take_any HT HC.out.p [124]).mono ?_
      intro e w2 hq2
      rcases (HC.out).call hq2 HR.out with ⟨x2, st2, v2, U2, rfl, rfl, hc2, hf2, hr2⟩ | ⟨ln, cl, kd, rfl, hb2, hd2⟩
      rotate_left
      · clear hq2 hb2
        have HD := Lib.hid hd2; clear hd2
        go_wp2_with fail
        exact ⟨rfl, HD.out _⟩
      have h_ := HL.out.step hf2
      clear HL
      have HL := Lib.hid h_
      clear h_
      have HF2 := Lib.hid hf2
      clear HR HC hq2 hf2
      have HC := Lib.hid hc2
      have HR := Lib.hid hr2
      clear hc2 hr2
      cases x2
      · have hr_ := HR.out
        simp only [Bool.false_eq_true, ↓reduceIte] at hr_
        clear HR
        have HR := Lib.hid hr_
        clear hr_
        go_wp2_with fail
        go_ret
        exact TPost.good HR.out rfl ⟨⟨HL.out, HLL.out.1⟩, HLL.out.2⟩ HC.out.p HC.out.f
      · have hr_ := HR.out
        simp only [Bool.false_eq_true, ↓reduceIte] at hr_
        clear HR
        have HR := Lib.hid hr_
        clear hr_
        go_wp2_with fail
        refine (rule_any HT HLow HC.out.p (ne_of HR.out HNE.out)).mono ?_
        intro e w3 hq3
        rcases (HC.out).call hq3 HR.out with ⟨x3, st3, v3, U3, rfl, rfl, hc3, hf3, hr3⟩ | ⟨ln, cl, kd, rfl, hb3, hd3⟩
        rotate_left
        · clear hq3 hb3
          have HD := Lib.hid hd3; clear hd3
          go_wp2_with fail
          exact ⟨rfl, HD.out _⟩
        have h_ := HL.out.step hf3
        clear HL
        have HL := Lib.hid h_
        clear h_
        have HF3 := Lib.hid hf3
        clear HR HC hq3 hf3
        have HC := Lib.hid hc3
        have HR := Lib.hid hr3
        clear hc3 hr3
        have hroom_ := room_step HR.out HNE.out
        have hroom := hroom_.1
        have hr_ := hroom_.2
        clear HR
        have HR := Lib.hid hr_
        clear hr_
        clear hroom_
        obtain ⟨j0, hj, hj0, hj1, hj2⟩ := info_parts Tryz.infoInt
        have HJ := Lib.hid (And.intro hj (And.intro hj0 (And.intro hj1 hj2)))
        clear hj hj0 hj1 hj2
        have hbs := HC.out.size
        go_wp2_with (first | (at_builtin; refine wpList_append_lies _ rfl (.tmp 9) (.tmp 12) 39 rfl w.heap.size 3 j0 (.int .i64 0) 1 8 Tryz.underlying39 HJ.out.1 HJ.out.2.1 HJ.out.2.2.1 HJ.out.2.2.2 rfl (by decide) _ (l.map Int.ofNat).length _ rfl (HL.out.1.alloc _) ⟨w3.heap.size, 0, none⟩ 1 1 [.int .i64 x3] rfl rfl (World.news_of_block (heap_alloc_new _ _)) (one_int _) (by decide) (by simp; unfold maxLen; omega) (by simp; omega) (by simp; omega) _ rfl ?_; intro g2 cap2 w5 hrow2 hgr2 hgb2 hgl2))
        have hpu := (HC.out.alloc _).push (n := l.length + 1) (cap := cap2) (fun k e => (HL.out.lt k e).1) HL.out.2 (Nat.le_refl _) hgr2 hgb2
        have HC5 := Lib.hid hpu.1
        have HL5 : RowKit.Hid (LR w.heap.size w5 U3 (.slice (some ⟨g2, 0, none⟩) (l.length + 1) cap2) ((l ++ [x3]).map Int.ofNat)) := ⟨by simpa using hrow2, hpu.2⟩
        clear hpu hrow2 hgr2 hgb2 hgl2
        go_roundg fu
        case measure => omega
        case rel => exact ⟨l ++ [x3], st3, U3, HL5.out, by simp; omega, by simp, HC5.out, HR.out⟩


end
end Go.Proofs.YtbchkldhnjahaaaGreatDoor
