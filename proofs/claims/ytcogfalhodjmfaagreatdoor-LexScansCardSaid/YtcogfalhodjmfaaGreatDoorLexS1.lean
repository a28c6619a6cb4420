/- The call of LexScans: true. -/
import Derived.Test.YtcogfalhodjmfaaGreatDoorLexAw
import Derived.Test.YtcogfalhodjmfaaGreatDoorLexRS
import Derived.Test.YtcogfalhodjmfaaGreatDoorLexSn
import Derived.Test.YtcogfalhodjmfaaGreatDoorLexSz
namespace Go.Proofs.YtcogfalhodjmfaaGreatDoor
open Go.RowKit Kiln
open Go.Proofs

theorem rsc_err {r : Scanned} {w w' : World} {e : Ending} {c ln col : Nat} (h : RScPost r w e w') (hr : r = .error (c, ln, col)) : e = .returned (.tuple #[.slice none 0 0, .int .i64 ln, .int .i64 col, .int .i64 c]) := by
  subst hr; exact h.2
theorem rsc_ok {r : Scanned} {w w' : World} {e : Ending} {l : List Tok} (h : RScPost r w e w') (hr : r = .ok l) : ∃ v, e = .returned (.tuple #[v, .int .i64 0, .int .i64 0, .int .i64 0]) ∧ TkS w' v l := by
  subst hr; exact h.2
theorem TkS.nil (w : World) : TkS w (.slice none 0 0) [] := ⟨none, 0, rfl, fun h => absurd rfl h⟩

set_option maxRecDepth 100000 in
set_option maxHeartbeats 2000000 in
theorem scans_any (s : ByteArray) (w : World) (hg : Gl w) :
    Calls Tryz.prog 3 #[.string s] w fun e w' => e = .returned (.bool true) ∧ Below w.heap.size w w' := by
  have HG := Lib.hid hg; clear hg
  have HSC := Lib.hid (scanP_any s w HG.out)
  go_enter Tryz.func3, Tryz.ntmps3
  go_wp2_with fail
  refine HSC.out.mono ?_
  rintro e w2 hpost
  have HB2 := Lib.hid hpost.1
  clear HSC
  have HRS := Lib.hid (rscanP_any s w2)
  cases hr : scanP s.data.toList with
  | error q =>
    obtain ⟨c, x, y⟩ := q
    obtain rfl := sc_err hpost hr
    have HR := Lib.hid hr
    clear hpost hr
    go_wp2_with fail
    refine HRS.out.mono ?_
    rintro e w3 hpost
    have HB3 := Lib.hid (HB2.out.trans (hpost.1.mono HB2.out.size))
    obtain rfl := rsc_err hpost HR.out
    clear hpost HRS
    have HSM := Lib.hid (same_any true [] [] _ _ w3 (TkS.nil w3) (TkS.nil w3) (by simp) (by simp))
    rw [sameL_refl] at HSM
    go_wp2_with fail
    refine HSM.out.mono ?_
    rintro e w4 ⟨rfl, hb4⟩
    have HB4 := Lib.hid (HB3.out.trans (hb4.mono HB3.out.size))
    clear hb4 HSM
    have HAW := Lib.hid (awake_any w4 (HG.out.below HB4.out))
    go_wp2_with fail
    refine HAW.out.mono ?_
    rintro e w5 ⟨rfl, hb5⟩
    have HB5 := Lib.hid (HB4.out.trans (hb5.mono HB4.out.size))
    clear hb5
    go_wp2_with fail
    go_ret
    exact ⟨rfl, HB5.out⟩
  | ok l =>
    obtain ⟨v, xs, rfl, hown, htk⟩ := sc_ok hpost hr
    have HT := Lib.hid (toks_TkS hown htk)
    have HR := Lib.hid hr
    have HSZ := Lib.hid (scanP_small hr)
    clear hpost hr hown htk
    obtain ⟨a, cap, rfl, _⟩ := id HT.out
    go_wp2_with fail
    refine HRS.out.mono ?_
    rintro e w3 hpost
    have HB3 := Lib.hid (HB2.out.trans (hpost.1.mono HB2.out.size))
    obtain ⟨v', rfl, htk'⟩ := rsc_ok hpost HR.out
    have HT3 := Lib.hid (HT.out.below hpost.1)
    have HSM := Lib.hid (same_any true l l _ _ w3 HT3.out htk' (fun u hu => by have := (HSZ.out.1 u hu).2; omega) (by have := HSZ.out.2; omega))
    rw [sameL_refl] at HSM
    obtain ⟨a', cap', rfl, _⟩ := htk'
    clear hpost HRS
    go_wp2_with fail
    refine HSM.out.mono ?_
    rintro e w4 ⟨rfl, hb4⟩
    have HB4 := Lib.hid (HB3.out.trans (hb4.mono HB3.out.size))
    clear hb4 HSM
    have HAW := Lib.hid (awake_any w4 (HG.out.below HB4.out))
    go_wp2_with fail
    refine HAW.out.mono ?_
    rintro e w5 ⟨rfl, hb5⟩
    have HB5 := Lib.hid (HB4.out.trans (hb5.mono HB4.out.size))
    clear hb5
    go_wp2_with fail
    go_ret
    exact ⟨rfl, HB5.out⟩

end Go.Proofs.YtcogfalhodjmfaaGreatDoor
