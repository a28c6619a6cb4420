/- The call of awake: true. -/
import Derived.Test.YtcogfalhodjmfaaGreatDoorLexJn
namespace Go.Proofs.YtcogfalhodjmfaaGreatDoor
open Go.RowKit Kiln
open Go.Proofs

def awkText : Bytes := [118, 97, 108, 32, 120, 61, 32, 126, 53, 40, 42, 97, 42, 41, 65, 46, 98]
def awkToks : List Tok := [⟨1, [118, 97, 108], [], 1, 1⟩, ⟨2, [120], [], 1, 5⟩, ⟨1, [61], [], 1, 6⟩, ⟨4, [126, 53], [], 1, 8⟩, ⟨2, [98], [[65]], 1, 15⟩]
theorem awk_scan : scanP awkText = .ok awkToks := by kernel_rfl
theorem awk_join : joinP awkToks = .ok [118, 97, 108, 32, 120, 32, 61, 32, 126, 53, 32, 65, 46, 98] := by kernel_rfl
theorem awk_fits : ∀ u ∈ awkToks, Fits u := by
  intro u hu
  simp only [awkToks, List.mem_cons, List.not_mem_nil, or_false] at hu
  rcases hu with rfl | rfl | rfl | rfl | rfl <;> exact ⟨by simp, by simp, by simp [Lib.join]⟩

set_option maxRecDepth 100000 in
set_option maxHeartbeats 2000000 in
theorem awake_any (w : World) (hg : Gl w) : Calls Tryz.prog 9 #[] w fun e w' => e = .returned (.bool true) ∧ Below w.heap.size w w' := by
  have HG := Lib.hid hg; clear hg
  have HSC := Lib.hid (scanP_any ⟨awkText.toArray⟩ w HG.out)
  go_enter Tryz.func9, Tryz.ntmps9
  go_wp2_with fail
  refine HSC.out.mono ?_
  rintro e w2 hpost
  have HB2 := Lib.hid hpost.1
  obtain ⟨v, xs, rfl, hown, htk⟩ := sc_ok hpost awk_scan
  clear HSC hpost
  have HT := Lib.hid (toks_TkS hown htk)
  clear hown htk
  have HJ := Lib.hid (join_any awkToks v w2 (HG.out.below HB2.out) HT.out awk_fits (by simp [awkToks]))
  obtain ⟨a, cap, hv, hl⟩ := id HT.out
  replace hv : v = .slice a 5 cap := hv
  subst hv
  obtain ⟨b, off, rfl, hx⟩ := hl (by simp [awkToks])
  go_wp2_with fail
  refine HJ.out.mono ?_
  rintro e w3 ⟨hb3, hr⟩
  rw [awk_join] at hr
  subst hr
  obtain ⟨pv3, _, hc3⟩ := hx 3 _ rfl
  obtain ⟨pv4, hs4, hc4⟩ := hx 4 _ rfl
  have c30 := cell_later hb3 (hc3 0 _ rfl)
  have c34 := cell_later hb3 (hc3 4 _ rfl)
  have c42 := cell_later hb3 (hc4 2 _ rfl)
  obtain ⟨a4, cap4, rfl, _⟩ := hs4
  have HB3 := Lib.hid (HB2.out.trans (hb3.mono HB2.out.size))
  obtain ⟨m, hm⟩ := (HG.out.below HB3.out).mx
  clear hc3 hc4 hx hl hb3 HJ
  go_wp2_with fail
  refine (reserved_any ⟨#[97, 110, 100, 97, 108, 115, 111]⟩ m w3 hm (by decide)).mono ?_
  rintro e w4 ⟨rfl, rfl⟩
  rw [show resB (⟨#[97, 110, 100, 97, 108, 115, 111]⟩ : ByteArray).data.toList = true from by decide]
  go_wp2_with fail
  go_ret
  exact ⟨rfl, HB3.out⟩

end Go.Proofs.YtcogfalhodjmfaaGreatDoor
