/- The call of TreeBelow: true. Conditions: those of the theorem. -/
import Derived.Test.YtbchkldhnjahaaaGreatDoorTrAl
import Derived.Test.YtbchkldhnjahaaaGreatDoorTrBel
namespace Go.Proofs.YtbchkldhnjahaaaGreatDoor
open Go.RowKit Kiln
open Go.Proofs

theorem Gl.to {w w' : World} (h : Gl w) (hb : Below w.heap.size w w') : Gl w' := h.below hb

set_option maxRecDepth 100000 in
set_option maxHeartbeats 4000000 in
theorem treeBelow_any (w : World) (lv rv : Value) (l : List Nd) (roots : List Int) (hg : Gl w) (hl : NdT w lv l) (hr : Ints w rv roots) (hlen : l.length ≤ 4398046511104) :
    Calls Tryz.prog 5 #[lv, rv] w fun e w' => e = .returned (.bool true) ∧ Below w.heap.size w w' := by
  have HG := Lib.hid hg
  have HL := Lib.hid hl
  have HR := Lib.hid hr
  have HA := Lib.hid (below_any w lv rv l roots hl hr hlen)
  obtain ⟨la, lcap, rfl, -⟩ := hl
  obtain ⟨ra, rcap, rfl, -⟩ := hr
  have HLN := Lib.hid (show (belowP l roots).length ≤ l.length from filter_len _ _)
  obtain ⟨P, hP⟩ : ∃ P, (belowP l roots).map Int.ofNat = P := ⟨_, rfl⟩
  have HPL : RowKit.Hid (P.length ≤ 4398046511104) := by show _; rw [← hP, List.length_map]; exact Nat.le_trans HLN.out hlen
  have HPP := Lib.hid hP
  clear hP hg HLN
  go_enter Tryz.func5, Tryz.ntmps5
  go_wp2_with fail
  refine HA.out.mono ?_
  rintro e w2 ⟨⟨av, rfl, ha⟩, hb2⟩
  rw [HPP.out] at ha
  have HB2 := Lib.hid hb2
  have HB := Lib.hid (rbelow_any w2 _ _ l roots (HL.out.below hb2) (HR.out.below hb2) hlen)
  have HAV := Lib.hid ha
  clear ha hb2 HA
  go_wp2_with fail
  refine HB.out.mono ?_
  rintro e w3 ⟨⟨bv, rfl, hb⟩, hb3⟩
  rw [HPP.out] at hb
  have HB3 := Lib.hid (HB2.out.trans (hb3.mono HB2.out.size))
  have HAW := Lib.hid (HAV.out.below hb3)
  have HBW := Lib.hid hb
  clear hb3 HB HAV HB2 hb
  obtain ⟨aa, acap, rfl, -⟩ := id HAW.out
  obtain ⟨ba, bcap, rfl, -⟩ := id HBW.out
  have q0 : ((P.length : Int) != (P.length : Int)) = false := by simp
  have hpl := HPL.out
  go_wp2_with fail
  go_loopg [7] (P.length + 1) (fun g v wr => ∃ (t : Nat) (wx : World), wx = wr ∧ v = .int .i64 (t : Nat) ∧ t + g = P.length + 1 ∧ t ≤ P.length ∧ Below w3.heap.size w3 wr)
  case atStart => exact ⟨0, _, rfl, rfl, by omega, Nat.zero_le _, Below.refl _ _⟩
  case round =>
    obtain ⟨t, wx, rfl, rfl, hg, ht, hb⟩ := hrel
    have HBX := Lib.hid hb
    by_cases hlt : t < P.length
    · obtain ⟨x, hx⟩ : ∃ x, P[t]? = some x := ⟨_, List.getElem?_eq_getElem hlt⟩
      obtain ⟨fu, rfl⟩ : ∃ fu, gk = fu + 1 := ⟨gk - 1, by omega⟩
      obtain ⟨ab, aoff, rfl, hc1⟩ := ints_at HAW.out hx
      obtain ⟨bb, boff, rfl, hc2⟩ := ints_at HBW.out hx
      have e1 : wx.cell? ⟨ab, aoff + t, none⟩ = some (.int .i64 x) := cell_later hb hc1
      have e2 : wx.cell? ⟨bb, boff + t, none⟩ = some (.int .i64 x) := cell_later hb hc2
      have hti : (t : Int) < (P.length : Int) := by omega
      have q1 : (x != x) = false := by simp
      clear hc1 hc2 hx hb
      go_wp2_with fail
      go_quiet (fail)
      go_wp2_with fail
      go_roundg fu
      case measure => omega
      case rel => exact ⟨t + 1, _, rfl, rfl, by omega, by omega, ⟨HBX.out.os, HBX.out.tape, HBX.out.output, HBX.out.size, HBX.out.block⟩⟩
    · obtain rfl : t = P.length := by omega
      have HBE := Lib.hid (HB3.out.trans (hb.mono HB3.out.size))
      have HAL := Lib.hid (alive_any wx (HG.out.below HBE.out))
      clear hb hg
      go_wp2_with fail
      refine HAL.out.mono ?_
      rintro e w5 ⟨rfl, hb5⟩
      have HB5 := Lib.hid (HBE.out.trans (hb5.mono HBE.out.size))
      clear hb5
      go_wp2_with fail
      go_ret
      exact ⟨rfl, HB5.out⟩
end Go.Proofs.YtbchkldhnjahaaaGreatDoor
