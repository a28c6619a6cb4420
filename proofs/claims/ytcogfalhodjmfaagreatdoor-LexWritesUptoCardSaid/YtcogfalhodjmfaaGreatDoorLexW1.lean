/- The calls of LexJoins and LexWrites: true. -/
import Derived.Test.YtcogfalhodjmfaaGreatDoorLexAw
import Derived.Test.YtcogfalhodjmfaaGreatDoorLexRj
import Derived.Test.YtcogfalhodjmfaaGreatDoorLexRB
import Derived.Test.YtcogfalhodjmfaaGreatDoorLexSn
namespace Go.Proofs.YtcogfalhodjmfaaGreatDoor
open Go.RowKit Kiln
open Go.Proofs

set_option maxRecDepth 100000 in
set_option maxHeartbeats 2000000 in
theorem joins_any (l : List Tok) (v : Value) (w : World) (hg : Gl w) (hv : TkS w v l) (hz : ∀ u ∈ l, Fits u) (hlen : l.length ≤ 1099511627776) :
    Calls Tryz.prog 5 #[v] w fun e w' => e = .returned (.bool true) ∧ Below w.heap.size w w' := by
  have HG := Lib.hid hg; clear hg
  have HV := Lib.hid hv
  have HZ := Lib.hid hz; clear hz
  obtain ⟨a, cap, rfl, _⟩ := hv
  have HJ := Lib.hid (join_any l _ w HG.out HV.out HZ.out hlen)
  go_enter Tryz.func5, Tryz.ntmps5
  go_wp2_with fail
  refine HJ.out.mono ?_
  rintro e w2 ⟨hb2, hr⟩
  have HB2 := Lib.hid hb2
  have HRJ := Lib.hid (rjoin_any l _ w2 (HV.out.below hb2) HZ.out hlen)
  clear hb2 HJ
  cases hj : joinP l with
  | error c =>
    rw [hj] at hr HRJ
    subst hr
    clear hj
    go_wp2_with fail
    refine HRJ.out.mono ?_
    rintro e w3 ⟨hb3, hr⟩
    replace hr : e = .returned (.tuple #[.string ⟨#[]⟩, .int .i64 c]) := hr
    subst hr
    have HB3 := Lib.hid (HB2.out.trans (hb3.mono HB2.out.size))
    have HAW := Lib.hid (awake_any w3 (HG.out.below HB3.out))
    clear hb3 HRJ
    go_wp2_with fail
    refine HAW.out.mono ?_
    rintro e w4 ⟨rfl, hb4⟩
    have HB4 := Lib.hid (HB3.out.trans (hb4.mono HB3.out.size))
    clear hb4
    go_wp2_with fail
    go_ret
    exact ⟨rfl, HB4.out⟩
  | ok s =>
    rw [hj] at hr HRJ
    subst hr
    clear hj
    go_wp2_with fail
    refine HRJ.out.mono ?_
    rintro e w3 ⟨hb3, hr⟩
    replace hr : e = .returned (.tuple #[str s, .int .i64 0]) := hr
    subst hr
    have HB3 := Lib.hid (HB2.out.trans (hb3.mono HB2.out.size))
    have HAW := Lib.hid (awake_any w3 (HG.out.below HB3.out))
    clear hb3 HRJ
    go_wp2_with fail
    refine HAW.out.mono ?_
    rintro e w4 ⟨rfl, hb4⟩
    have HB4 := Lib.hid (HB3.out.trans (hb4.mono HB3.out.size))
    clear hb4
    go_wp2_with fail
    go_ret
    exact ⟨rfl, HB4.out⟩

theorem wr_rv (R : Except Nat Bytes) : ∃ (sv : ByteArray) (cv : Int), ∀ (w w' : World) (e : Ending), WrPost R w e w' → e = .returned (.tuple #[.string sv, .int .i64 cv]) := by
  cases R with
  | error c => exact ⟨⟨#[]⟩, c, fun _ _ _ h => h.2⟩
  | ok s => exact ⟨⟨s.toArray⟩, 0, fun _ _ _ h => h.2⟩

set_option maxRecDepth 100000 in
set_option maxHeartbeats 2000000 in
theorem writes_any (k : Int) (t : Bytes) (pv : Value) (pa : List Bytes) (ln col : Int) (w : World) (hg : Gl w) (hs : Strs w pv pa) (hz : Fits ⟨k, t, pa, ln, col⟩) :
    Calls Tryz.prog 4 #[tokV k t pv ln col] w fun e w' => e = .returned (.bool true) ∧ Below w.heap.size w w' := by
  have HG := Lib.hid hg; clear hg
  have HS := Lib.hid hs
  have HZ := Lib.hid hz; clear hz
  obtain ⟨a, cap, rfl, _, _⟩ := hs
  go_enter Tryz.func4, Tryz.ntmps4
  go_upto_region 1 with fail
  have HBX := Lib.hid ((Below.refl _ w).alloc (Nat.le_refl _) (.cells #[.int .i64 k, str t, .slice a pa.length cap, .int .i64 ln, .int .i64 col] 34))
  obtain ⟨W, hW⟩ : ∃ W, w.alloc (.cells #[.int .i64 k, str t, .slice a pa.length cap, .int .i64 ln, .int .i64 col] 34) = W := ⟨_, rfl⟩
  have x0 : W.cell? ⟨w.heap.size, 0, none⟩ = some (.int .i64 k) := by rw [← hW]; simp
  have x1 : W.cell? ⟨w.heap.size, 1, none⟩ = some (str t) := by rw [← hW]; simp
  have x2 : W.cell? ⟨w.heap.size, 2, none⟩ = some (.slice a pa.length cap) := by rw [← hW]; simp
  have x3 : W.cell? ⟨w.heap.size, 3, none⟩ = some (.int .i64 ln) := by rw [← hW]; simp
  have x4 : W.cell? ⟨w.heap.size, 4, none⟩ = some (.int .i64 col) := by rw [← hW]; simp
  have hsw : w.heap.size < W.heap.size := by rw [← hW]; simp
  rw [hW] at HBX ⊢
  have HSW := Lib.hid (HS.out.below HBX.out)
  clear hW HS
  have HWR := Lib.hid (write_any k t (.slice a pa.length cap) pa ln col W (HG.out.below HBX.out) HSW.out HZ.out.1 HZ.out.2.1 HZ.out.2.2)
  go_wp2_with fail
  refine HWR.out.mono ?_
  rintro e w2 ⟨hb2, hr⟩
  have HB2 := Lib.hid (HBX.out.trans (hb2.mono HBX.out.size))
  have HS2 := Lib.hid (HSW.out.below hb2)
  have y0 := cell_later hb2 x0
  have y1 := cell_later hb2 x1
  have y2 := cell_later hb2 x2
  have y3 := cell_later hb2 x3
  have y4 := cell_later hb2 x4
  have HRW := Lib.hid (rwrite_any k t (.slice a pa.length cap) pa ln col w2 HS2.out HZ.out.1 HZ.out.2.1 HZ.out.2.2)
  clear x0 x1 x2 x3 x4 hsw HSW HBX HWR
  have ht := HZ.out.1
  obtain ⟨sv, cv, hrv⟩ := wr_rv (writeP k t pa)
  obtain rfl := hrv _ _ _ ⟨hb2, hr⟩
  clear hr hb2
  go_wp2_with fail
  refine HRW.out.mono ?_
  rintro e w3 hpost
  obtain rfl := hrv _ _ _ hpost
  have hb3 := hpost.1
  have HB3 := Lib.hid (HB2.out.trans (hb3.mono HB2.out.size))
  have z1 := cell_later hb3 y1
  clear hb3 HRW y0 y1 y2 y3 y4 hpost hrv
  obtain ⟨m, hm⟩ := (HG.out.below HB3.out).mx
  have HR1 := Lib.hid (fun W (hb : Below w3.heap.size w3 W) => reserved_any ⟨t.toArray⟩ m W (cell_later hb hm) (by simp [ByteArray.size]; omega))
  have HR2 := Lib.hid (fun W => rReserved_any ⟨t.toArray⟩ W)
  have HAW := Lib.hid (fun W (hb : Below w3.heap.size w3 W) => awake_any W (HG.out.below (HB3.out.trans (hb.mono HB3.out.size))))
  have HZ1 := Lib.hid (fun W (hb : Below w3.heap.size w3 W) => cell_later hb z1)
  go_upto_region 3 with fail
  obtain ⟨T, f, hT, hf, hsur⟩ : ∃ (T : Type) (f : T → World), Nonempty T ∧ (∀ q, Below w3.heap.size w3 (f q)) ∧ (∀ W, Below w3.heap.size w3 W → ∃ q, W = f q) :=
    ⟨{W // Below w3.heap.size w3 W}, Subtype.val, ⟨⟨w3, Below.refl _ _⟩⟩, fun q => q.2, fun W hW => ⟨⟨W, hW⟩, rfl⟩⟩
  haveI := hT
  have HF := Lib.hid hf
  have HSU := Lib.hid hsur
  have h0 := hsur _ (Below.refl w3.heap.size w3).drew
  have H0 := Lib.hid h0
  have HA := Lib.hid (fun q => (HR1.out (f q) (HF.out q)).mono fun e w' hh => (⟨hh.1, ⟨q, hh.2.symm⟩⟩ : e = Ending.returned (.bool (resB (⟨t.toArray⟩ : ByteArray).data.toList)) ∧ ∃ q', w' = f q'))
  have HB := Lib.hid (fun q => (HR2.out (f q)).mono fun e w' hh => (⟨hh.1, HSU.out w' ((HF.out q).trans (hh.2.mono (HF.out q).size))⟩ : e = Ending.returned (.bool (resB (⟨t.toArray⟩ : ByteArray).data.toList)) ∧ ∃ q', w' = f q'))
  have HC := Lib.hid (fun q => (HAW.out (f q) (HF.out q)).mono fun e w' hh => (⟨hh.1, HSU.out w' ((HF.out q).trans (hh.2.mono (HF.out q).size))⟩ : e = Ending.returned (.bool true) ∧ ∃ q', w' = f q'))
  obtain ⟨rb, hrb⟩ : ∃ rb, resB (⟨t.toArray⟩ : ByteArray).data.toList = rb := ⟨_, rfl⟩
  rw [hrb] at HA HB
  clear hrb HR1 HR2 HAW h0 hm
  have a1 := fun q => HZ1.out (f q) (HF.out q)
  clear hf hsur z1 HZ1
  refine wp_region_grown f (by kernel_rfl) (by kernel_rfl) H0.out ?_
  repeat (go_big_quiet_step (first | exact HA.out _ | exact HB.out _ | exact HC.out _))
  refine wpQuiet_nil ?_
  rintro wz ⟨qz, rfl⟩
  go_wp2_with fail
  go_ret
  exact ⟨rfl, HB3.out.trans ((HF.out qz).mono HB3.out.size)⟩

end Go.Proofs.YtcogfalhodjmfaaGreatDoor
