/- The call of Scan, for every text. Conditions: those of the theorem. -/
import Derived.Test.YtbchkldhnjahaaaGreatDoorLexSc
namespace Go.Proofs.YtbchkldhnjahaaaGreatDoor
open Go.RowKit Kiln
open Go.Proofs

set_option maxRecDepth 100000 in
set_option maxHeartbeats 400000 in
theorem scan_long (s : ByteArray) (w : World) (hz : 1048576 < s.size) :
    Calls Tryz.prog 9 #[.string s] w (ScPost (.error (2, 0, 0)) w) := by
  have hl : decide ((1048576 : Int) < (s.size : Int)) = true := by simp; omega
  go_enter Tryz.func9, Tryz.ntmps9
  go_wp2_with fail
  refine bodyPost_ret (results_tmp4 rfl _ _ _) rfl ?_
  exact sc_bad rfl rfl rfl rfl ((Below.refl _ w).alloc (Nat.le_refl _) _)

theorem scanP_any (s : ByteArray) (w : World) (hg : Gl w) : Calls Tryz.prog 9 #[.string s] w (ScPost (scanP s.data.toList) w) := by
  unfold scanP
  split
  · exact scan_long s w (by rw [Lib.size_eq]; assumption)
  · exact scan_any s w hg (by rw [Lib.size_eq]; omega)

end Go.Proofs.YtbchkldhnjahaaaGreatDoor
