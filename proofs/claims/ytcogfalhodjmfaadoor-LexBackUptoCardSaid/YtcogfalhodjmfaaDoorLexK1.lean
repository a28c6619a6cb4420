/- The call of LexBack: true. -/
import Derived.Test.YtcogfalhodjmfaaDoorLexAw
import Derived.Test.YtcogfalhodjmfaaDoorLexSn
import Derived.Test.YtcogfalhodjmfaaDoorLexI
namespace Go.Proofs.YtcogfalhodjmfaaDoor
open Go.RowKit Kiln
open Go.Proofs

theorem joinG_err : ∀ (l : List Tok) (b : Bool) (acc : Bytes) {c : Nat}, joinG b acc l = .error c → c ≠ 0
  | [], b, acc, c, h => by
    simp only [joinG] at h
    split at h
    · simp only [Except.error.injEq] at h; omega
    · cases h
  | u :: l, b, acc, c, h => by
    simp only [joinG] at h
    split at h
    · rename_i e he
      simp only [Except.error.injEq] at h
      have := writeP_err he
      omega
    · exact joinG_err l _ _ h

theorem sameL_small {l m : List Tok} (h : sameL false l m = true) : l.length = m.length := sameL_len _ _ _ h

set_option maxRecDepth 100000 in
set_option maxHeartbeats 2000000 in
theorem back_any (l : List Tok) (v : Value) (w : World) (hg : Gl w) (hv : TkS w v l) (hz : ∀ u ∈ l, Fits u) (hlen : l.length ≤ 1099511627776) :
    Calls Tryd.prog 3 #[v] w fun e w' => e = .returned (.bool true) ∧ Below w.heap.size w w' := by
  have HG := Lib.hid hg; clear hg
  have HV := Lib.hid hv
  have HZ := Lib.hid hz; clear hz
  obtain ⟨a, cap, rfl, _⟩ := hv
  have HJ := Lib.hid (join_any l _ w HG.out HV.out HZ.out hlen)
  go_enter Tryd.func3, Tryd.ntmps3
  go_wp2_with fail
  refine HJ.out.mono ?_
  rintro e w2 ⟨hb2, hr⟩
  have HB2 := Lib.hid hb2
  have HV2 := Lib.hid (HV.out.below hb2)
  clear hb2 HJ
  have HAW := Lib.hid (awake_any w2 (HG.out.below HB2.out))
  cases hj : joinP l with
  | error c =>
    rw [hj] at hr
    subst hr
    have hc : c ≠ 0 := joinG_err l true [] hj
    have hcn : ((c : Int) != 0) = true := by rw [bne_iff_ne]; omega
    clear hj hc
    go_wp2_with fail
    refine HAW.out.mono ?_
    rintro e w3 ⟨rfl, hb3⟩
    have HB3 := Lib.hid (HB2.out.trans (hb3.mono HB2.out.size))
    clear hb3
    go_wp2_with fail
    go_ret
    exact ⟨rfl, HB3.out⟩
  | ok T =>
    rw [hj] at hr
    subst hr
    obtain ⟨m, hs2, hsm⟩ := join_back hj
    have HS2 := Lib.hid hs2
    have HSM := Lib.hid hsm
    clear hj hs2 hsm
    go_wp2_with fail
    refine HAW.out.mono ?_
    rintro e w3 ⟨rfl, hb3⟩
    have HB3 := Lib.hid (HB2.out.trans (hb3.mono HB2.out.size))
    have HV3 := Lib.hid (HV2.out.below hb3)
    clear hb3
    have HSC := Lib.hid (scanP_any ⟨T.toArray⟩ w3 (HG.out.below HB3.out))
    go_wp2_with fail
    refine HSC.out.mono ?_
    rintro e w5 hpost
    have HB5 := Lib.hid (HB3.out.trans (hpost.1.mono HB3.out.size))
    obtain ⟨v', xs', rfl, hown', htk'⟩ := sc_ok hpost HS2.out
    have HV5 := Lib.hid (HV3.out.below hpost.1)
    have HTM := Lib.hid (toks_TkS hown' htk')
    have HSA := Lib.hid (same_any false l m _ _ w5 HV5.out HTM.out (fun u hu => (HZ.out u hu).2.1) hlen)
    rw [HSM.out] at HSA
    obtain ⟨a', cap', rfl, _⟩ := id HTM.out
    clear hpost hown' htk' HSC
    go_wp2_with fail
    refine HSA.out.mono ?_
    rintro e w6 ⟨rfl, hb6⟩
    have HB6 := Lib.hid (HB5.out.trans (hb6.mono HB5.out.size))
    clear hb6
    go_wp2_with fail
    go_ret
    exact ⟨rfl, HB6.out⟩

end Go.Proofs.YtcogfalhodjmfaaDoor
