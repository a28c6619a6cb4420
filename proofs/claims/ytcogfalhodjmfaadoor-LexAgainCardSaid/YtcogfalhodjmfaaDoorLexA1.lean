/- The call of LexAgain: true. -/
import Derived.Test.YtcogfalhodjmfaaDoorLexAw
import Derived.Test.YtcogfalhodjmfaaDoorLexSn
import Derived.Test.YtcogfalhodjmfaaDoorLexAg
namespace Go.Proofs.YtcogfalhodjmfaaDoor
open Go.RowKit Kiln
open Go.Proofs

theorem small_fits {u : Tok} (h : Small 1048576 u) : Fits u := by
  have hj := join_len (u.path ++ [u.text]) [46]
  rw [sumL_snoc, List.length_append] at hj
  simp only [List.length_cons, List.length_nil] at hj
  obtain ⟨h1, h2⟩ := h
  exact ⟨by omega, by omega, by omega⟩

set_option maxRecDepth 100000 in
set_option maxHeartbeats 4000000 in
theorem again_any (s : ByteArray) (w : World) (hg : Gl w) (hz : s.size ≤ 281474976710656) :
    Calls Tryd.prog 4 #[.string s] w fun e w' => e = .returned (.bool true) ∧ Below w.heap.size w w' := by
  have HG := Lib.hid hg; clear hg
  have HSC := Lib.hid (scanP_any s w HG.out)
  go_enter Tryd.func4, Tryd.ntmps4
  go_wp2_with fail
  refine HSC.out.mono ?_
  rintro e w2 hpost
  have HB2 := Lib.hid hpost.1
  clear HSC
  have HAW := Lib.hid (awake_any w2 (HG.out.below HB2.out))
  cases hr : scanP s.data.toList with
  | error q =>
    obtain ⟨c, x, y⟩ := q
    obtain rfl := sc_err hpost hr
    have hc := scanP_err hr
    have hcn : ((c : Int) != 0) = true := by rw [bne_iff_ne]; omega
    clear hpost hr hc
    go_wp2_with fail
    refine HAW.out.mono ?_
    rintro e w3 ⟨rfl, hb3⟩
    have HB3 := Lib.hid (HB2.out.trans (hb3.mono HB2.out.size))
    clear hb3
    go_wp2_with fail
    go_ret
    exact ⟨rfl, HB3.out⟩
  | ok l =>
    obtain ⟨v, xs, rfl, hown, htk⟩ := sc_ok hpost hr
    have HT := Lib.hid (toks_TkS hown htk)
    have HSZ := Lib.hid (scanP_small hr)
    have HAG := Lib.hid (again hr)
    have hlen := HSZ.out.2
    clear hpost hr hown htk
    obtain ⟨a, cap, rfl, hl⟩ := id HT.out
    have HL := Lib.hid hl
    clear hl
    go_wp2_with fail
    refine HAW.out.mono ?_
    rintro e w3 ⟨rfl, hb3⟩
    have HB3 := Lib.hid (HB2.out.trans (hb3.mono HB2.out.size))
    have HB23 := Lib.hid hb3
    clear hb3 HAW
    go_wp2_with fail
    go_loopw [7] (fun j wr => ∃ k m : Nat, j = .int .i64 k ∧ wr = w3.drewN m ∧ 1 ≤ k ∧ k ≤ l.length + 1) (fun j _ => l.length + 1 - (intOf j).toNat)
    case atStart => exact ⟨1, 0, rfl, rfl, Nat.le_refl _, by omega⟩
    case round =>
      obtain ⟨k, m, rfl, rfl, hk1, hk2⟩ := hrel
      by_cases hlt : k < l.length
      · have hki : (k : Int) < (l.length : Int) := by omega
        obtain ⟨k', rfl⟩ : ∃ k', k = k' + 1 := ⟨k - 1, by omega⟩
        obtain ⟨u, hu⟩ : ∃ u, l[k']? = some u := ⟨l[k']'(by omega), List.getElem?_eq_getElem (by omega)⟩
        obtain ⟨z, hv⟩ : ∃ z, l[k' + 1]? = some z := ⟨l[k' + 1]'hlt, List.getElem?_eq_getElem hlt⟩
        have hlt' := HAG.out.2 k' u z hu hv
        obtain ⟨b, off, rfl, hx⟩ := HL.out (by rintro rfl; simp at hlt)
        obtain ⟨pv, _, hc⟩ := hx k' u hu
        obtain ⟨pv2, _, hc2⟩ := hx (k' + 1) z hv
        have g1 : ∀ (j : Nat) x q, (tokVals u pv)[j]? = some x → q = off + (5 * k' + j) → w3.cell? ⟨b, q, none⟩ = some x := fun j x q hj hq => by
          subst hq; exact cell_later HB23.out (hc j x hj)
        have g2 : ∀ (j : Nat) x q, (tokVals z pv2)[j]? = some x → q = off + (5 * (k' + 1) + j) → w3.cell? ⟨b, q, none⟩ = some x := fun j x q hj hq => by
          subst hq; exact cell_later HB23.out (hc2 j x hj)
        have u3 : w3.cell? ⟨b, off + k' * 5 + 3, none⟩ = some (.int .i64 u.line) := g1 3 _ _ rfl (by omega)
        have u4 : w3.cell? ⟨b, off + k' * 5 + 4, none⟩ = some (.int .i64 u.col) := g1 4 _ _ rfl (by omega)
        have v3 : w3.cell? ⟨b, off + (k' + 1) * 5 + 3, none⟩ = some (.int .i64 z.line) := g2 3 _ _ rfl (by omega)
        have v4 : w3.cell? ⟨b, off + (k' + 1) * 5 + 4, none⟩ = some (.int .i64 z.col) := g2 4 _ _ rfl (by omega)
        clear g1 g2 hc hc2 hx hu hv
        have e1 : IntKind.i64.wrap (((k' + 1 : Nat) : Int) - 1) = (k' : Int) := by rw [IntWalk.i64_in _ (by omega)]; omega
        have e2 : ((k' : Int)).toNat = k' := by omega
        have e3 : (k' : Int) < (l.length : Int) := by omega
        have e4 : (0 : Int) ≤ (k' : Int) := by omega
        have b1 : decide (z.line < u.line) = false := by unfold ltT at hlt'; simp; omega
        by_cases hli : z.line = u.line
        · have b2 : (z.line == u.line) = true := by rw [beq_iff_eq]; exact hli
          have b3 : decide (z.col ≤ u.col) = false := by unfold ltT at hlt'; simp; omega
          clear hli hlt'
          go_wp2_with fail
          go_quiet (fail)
          go_wp2_with fail
          go_roundw
          case rel => exact ⟨k' + 1 + 1, m + nq, by go_num, by first | rfl | simp, by omega, by omega⟩
          case measure => simp [intOf]; omega
        · have b2 : (z.line == u.line) = false := by rw [beq_eq_false_iff_ne]; exact hli
          clear hli hlt'
          go_wp2_with fail
          go_quiet (fail)
          go_wp2_with fail
          go_roundw
          case rel => exact ⟨k' + 1 + 1, m + nq, by go_num, by first | rfl | simp, by omega, by omega⟩
          case measure => simp [intOf]; omega
      · have hki : decide ((k : Int) < (l.length : Int)) = false := by simp; omega
        have HB3m := Lib.hid (below_drewN HB3.out m)
        have HT3 := Lib.hid (HT.out.below (below_drewN HB23.out m))
        have HJ := Lib.hid (join_any l _ (w3.drewN m) (HG.out.below HB3m.out) HT3.out (fun u hu => small_fits (HSZ.out.1 u hu)) (by omega))
        rcases HAG.out.1 with ⟨T, ms, hj, hs2, hsm⟩ | ⟨hj, hlong⟩
        · rw [hj] at HJ
          have HS2 := Lib.hid hs2
          have HSM := Lib.hid hsm
          clear hj hs2 hsm
          go_wp2_with fail
          refine HJ.out.mono ?_
          rintro e w4 ⟨hb4, rfl⟩
          have HB4 := Lib.hid (HB3m.out.trans (hb4.mono HB3m.out.size))
          have HT4 := Lib.hid (HT3.out.below hb4)
          clear hb4 HJ
          have HSC := Lib.hid (scanP_any ⟨T.toArray⟩ w4 (HG.out.below HB4.out))
          go_wp2_with fail
          refine HSC.out.mono ?_
          rintro e w5 hpost
          have HB5 := Lib.hid (HB4.out.trans (hpost.1.mono HB4.out.size))
          obtain ⟨v', xs', rfl, hown', htk'⟩ := sc_ok hpost HS2.out
          have HT5 := Lib.hid (HT4.out.below hpost.1)
          have HTM := Lib.hid (toks_TkS hown' htk')
          have HSA := Lib.hid (same_any false l ms _ _ w5 HT5.out HTM.out (fun u hu => by have := (HSZ.out.1 u hu).2; omega) (by omega))
          rw [HSM.out] at HSA
          obtain ⟨a', cap', rfl, _⟩ := id HTM.out
          clear hpost hown' htk' HSC
          go_wp2_with fail
          refine HSA.out.mono ?_
          rintro e w6 ⟨rfl, hb6⟩
          have HB6 := Lib.hid (HB5.out.trans (hb6.mono HB5.out.size))
          clear hb6
          go_wp2_with fail
          go_ret
          exact ⟨rfl, HB6.out⟩
        · rw [hj] at HJ
          have hsz : 209715 < s.size := by rw [Lib.size_eq]; exact hlong
          have hbI : (209715 : Int) < (s.size : Int) := by omega
          clear hj hlong
          go_wp2_with fail
          refine HJ.out.mono ?_
          rintro e w4 ⟨hb4, rfl⟩
          have HB4 := Lib.hid (HB3m.out.trans (hb4.mono HB3m.out.size))
          clear hb4 HJ
          go_wp2_with fail
          go_ret
          exact ⟨rfl, HB4.out⟩

end Go.Proofs.YtcogfalhodjmfaaDoor
