/- The law's alive: a text is scanned, parsed and checked: it says true. Conditions: those of each theorem. -/
import Derived.Test.YtbchkldhnjahaaaGreatDoorTrS
import Derived.Test.YtbchkldhnjahaaaGreatDoorTrKids
import Derived.KernelRfl
namespace Kiln
def alText : Bytes := [118, 97, 108, 32, 120, 32, 61, 32, 49, 32, 43, 32, 50, 32, 42, 32, 51]
def alToks : List Tok := [⟨1, [118, 97, 108], [], 1, 1⟩, ⟨2, [120], [], 1, 5⟩, ⟨1, [61], [], 1, 7⟩, ⟨4, [49], [], 1, 9⟩, ⟨2, [43], [], 1, 11⟩, ⟨4, [50], [], 1, 13⟩, ⟨2, [42], [], 1, 15⟩, ⟨4, [51], [], 1, 17⟩]
def alNds : List Nd := [⟨31, [120], [], [], 1, 5⟩, ⟨1, [49], [], [], 1, 9⟩, ⟨1, [50], [], [], 1, 13⟩, ⟨1, [51], [], [], 1, 17⟩, ⟨10, [42], [], [], 1, 15⟩, ⟨13, [], [], [2, 3], 1, 15⟩, ⟨17, [], [], [4, 5], 1, 15⟩, ⟨10, [43], [], [], 1, 11⟩, ⟨13, [], [], [1, 6], 1, 11⟩, ⟨17, [], [], [7, 8], 1, 11⟩, ⟨53, [], [], [0, 9], 1, 5⟩, ⟨51, [], [], [10], 1, 1⟩, ⟨50, [], [], [11], 1, 1⟩]
def alPS : PS := ⟨8, alNds, [1, 1, 1, 1, 1, 2, 3, 1, 4, 5, 6, 7, 8], 0, [fix0]⟩
end Kiln
namespace Go.Proofs.YtbchkldhnjahaaaGreatDoor
open Go.RowKit Kiln
open Go.Proofs

theorem al_scan : scanP alText = .ok alToks := by kernel_rfl
theorem al_tree : treeM alToks (lowS alToks 12) ps0 = .ok (12, alPS) := by kernel_rfl
theorem al_writes : alToks.all writesT = true := by kernel_rfl
theorem al_good : goodL alNds = true := by kernel_rfl
theorem al_int : ∀ t ∈ alToks, t.kind = 4 → t.text ≠ [] := by decide
theorem al_fits : ∀ u ∈ alToks, Fits u := by
  intro u hu
  simp only [alToks, List.mem_cons, List.not_mem_nil, or_false] at hu
  rcases hu with rfl | rfl | rfl | rfl | rfl | rfl | rfl | rfl <;> exact ⟨by simp, by simp, by simp [Lib.join]⟩

set_option maxRecDepth 100000 in
set_option maxHeartbeats 2000000 in
theorem alive_any (w : World) (hg : Gl w) : Calls Tryz.prog 10 #[] w fun e w' => e = .returned (.bool true) ∧ Below w.heap.size w w' := by
  have HG := Lib.hid hg; clear hg
  have HSC := Lib.hid (scanP_any ⟨alText.toArray⟩ w HG.out)
  go_enter Tryz.func10, Tryz.ntmps10
  go_wp2_with fail
  refine HSC.out.mono ?_
  rintro e w2 hpost
  have HB2 := Lib.hid hpost.1
  obtain ⟨v, xs, rfl, hown, htk⟩ := sc_ok hpost al_scan
  clear HSC hpost
  have HT := Lib.hid (toks_TkS hown htk)
  clear hown htk
  have HP := Lib.hid (parse_any v alToks 12 w2 (HG.out.below HB2.out) HT.out (by simp [alToks]) al_fits (fun _ => al_int) (fun _ => by rw [al_tree]; simp))
  obtain ⟨a, cap, hv, -⟩ := id HT.out
  replace hv : v = .slice a 8 cap := hv
  subst hv
  go_wp2_with fail
  refine HP.out.mono ?_
  rw [al_writes, al_tree]
  rintro e w3 ⟨hb3, nv, rfl, hn⟩
  have HB3 := Lib.hid (HB2.out.trans (hb3.mono HB2.out.size))
  have HN := Lib.hid hn
  obtain ⟨na, ncap, hnv, hnx⟩ := id HN.out
  replace hnv : nv = .slice na 13 ncap := hnv
  subst hnv
  obtain ⟨nb, noff, rfl, hnc⟩ := hnx (by simp [alPS, alNds])
  obtain ⟨pv, kv, -, -, hc⟩ := hnc 9 _ rfl
  have c9 : w3.cell? ⟨nb, noff + 54, none⟩ = some (.int .i64 17) := hc 0 _ rfl
  have HC := Lib.hid (check_any w3 _ alNds 12 HN.out al_good (by decide) (by decide))
  clear hb3 hn hnx hnc hc HP
  go_wp2_with fail
  refine HC.out.mono ?_
  rintro e w4 ⟨rfl, hb4⟩
  have HB4 := Lib.hid (HB3.out.trans (hb4.mono HB3.out.size))
  clear hb4
  go_wp2_with fail
  go_ret
  exact ⟨rfl, HB4.out⟩
end Go.Proofs.YtbchkldhnjahaaaGreatDoor
