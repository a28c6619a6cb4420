/- A node's kids as classes (turned), and a node's class (classed): what each call returns. Conditions: those of each theorem. A node's class (classed): what the call returns. Conditions: those of the theorem. The reference's rows of nodes and classes, in memory. Conditions: those of each theorem. The reference's Same: what one more node does to its two rows. Conditions: those of each theorem. The reference's Same: what the call returns. Conditions: those of the theorem. -/
import Derived.Test.YtbchkldhnjahaaaGreatDoorTrSame
import Derived.Laws.OwnMore
import Derived.Deep.CutBlock
namespace Go.Proofs.YtbchkldhnjahaaaGreatDoor
open Go.RowKit Kiln
open Go.Proofs

/-- a row of numbers by their places -/
def OrS (w : World) (B n : Nat) (o : Nat → Int) : Prop := w.rowIs B 3 n fun j => .int .i64 (o j)
theorem OrS.keep {w w' : World} {B n : Nat} {o : Nat → Int} (h : OrS w B n o) (hk : w'.heap[B]? = w.heap[B]?) : OrS w' B n o := h.of_block hk
theorem OrS.cell {w : World} {B n : Nat} {o : Nat → Int} (h : OrS w B n o) {i : Nat} (hi : i < n) : w.cell? ⟨B, i, none⟩ = some (.int .i64 (o i)) := World.rowIs.cell h hi
theorem OrS.lt {w : World} {B n : Nat} {o : Nat → Int} (h : OrS w B n o) : B < w.heap.size := World.rowIs.lt h
theorem OrS.put {w : World} {B n k : Nat} {o : Nat → Int} (h : OrS w B n o) (c : Int) : OrS (w.setCell ⟨B, k, none⟩ (.int .i64 c)) B n (setO o k c) :=
  (h.set k (.int .i64 c)).congr fun j _ => by
    unfold setO
    by_cases hj : j = k <;> simp [hj]

theorem turn_take {l : List Nd} {i : Nat} {o : Nat → Int} {nd : Nd} (hn : l[i]? = some nd) {t : Nat} {k : Int} (hk : nd.kids[t]? = some k) :
    (turnP l i o).take (t + 1) = (turnP l i o).take t ++ [if 0 ≤ k ∧ k < (i : Int) then o k.toNat else -1] := by
  have : (turnP l i o)[t]? = some (if 0 ≤ k ∧ k < (i : Int) then o k.toNat else -1) := by
    unfold turnP kidsOf
    rw [hn, List.getElem?_map, hk]; rfl
  rw [take_snoc this]
theorem turn_len {l : List Nd} {i : Nat} {o : Nat → Int} {nd : Nd} (hn : l[i]? = some nd) : (turnP l i o).length = nd.kids.length := by
  unfold turnP kidsOf
  rw [hn]; simp

set_option maxRecDepth 100000 in
set_option maxHeartbeats 4000000 in
theorem turned_any (w : World) (lv : Value) (l : List Nd) (i : Nat) (o : Nat → Int) (Bo : Nat) (hl : NdT w lv l) (hi : i < l.length) (ho : OrS w Bo l.length o) (hlen : l.length ≤ 1048576) (hk : ∀ n ∈ l, n.kids.length ≤ 1048576) :
    Calls Tryz.prog 37 #[lv, .int .i64 i, .slice (some ⟨Bo, 0, none⟩) l.length l.length] w fun e w' => (∃ v, e = .returned v ∧ Ints w' v (turnP l i o) ∧ ∀ q, v.ownBlock = some q → w.heap.size ≤ q ∧ q < w'.heap.size) ∧ Below w.heap.size w w' := by
  have HL := Lib.hid hl
  have HO := Lib.hid ho
  obtain ⟨nd, hnd⟩ : ∃ nd, l[i]? = some nd := ⟨_, List.getElem?_eq_getElem hi⟩
  have hkl := hk nd (List.mem_of_getElem? hnd)
  have HND := Lib.hid hnd
  obtain ⟨T, hT⟩ : ∃ T, turnP l i o = T := ⟨_, rfl⟩
  have HT := Lib.hid hT
  have hTl : T.length = nd.kids.length := by rw [← hT]; exact turn_len hnd
  obtain ⟨bn, offn, capn, pv, kv, rfl, -, hkv, hc⟩ := hl.one hnd
  obtain ⟨ka, kcap, rfl, hkc, hkm, -⟩ := id hkv
  unfold maxLen at hkm
  have HKV := Lib.hid hkv
  have HC := Lib.hid hc
  have hil : (i : Int) < (l.length : Int) := by omega
  obtain ⟨j0, hj, hj0, hj1, hj2⟩ := info_parts Tryz.infoInt
  have HJ := Lib.hid (And.intro hj (And.intro hj0 (And.intro hj1 hj2)))
  rw [hT]
  clear hj hj0 hj1 hj2 hc hkv hl ho hnd hT hk
  go_enter Tryz.func37, Tryz.ntmps37
  go_wp2_with fail
  go_loopg [7, 8] (nd.kids.length + 1) (fun g u v wr => ∃ (t : Nat) (wx : World), wx = wr ∧ v = .int .i64 (t : Nat) ∧ t + g = nd.kids.length + 1 ∧ t ≤ nd.kids.length ∧ LR w.heap.size wr (fun _ => 0) u (T.take t) ∧ Below w.heap.size w wr)
  case atStart => exact ⟨0, _, rfl, rfl, by omega, Nat.zero_le _, by rw [List.take_zero]; exact LR.nil _ _ _, Below.refl _ _⟩
  case round =>
    obtain ⟨t, wx, rfl, rfl, hg, ht, hr, hb⟩ := hrel
    have HR := Lib.hid hr
    have HB := Lib.hid hb
    have hsz := hb.size
    have e3 : wx.cell? ⟨bn, offn + i * 6 + 3, none⟩ = some (.slice ka nd.kids.length kcap) := cell_later hb (HC.out 3 _ rfl _ rfl)
    have HLT := Lib.hid (show (T.take t).length = t by rw [List.length_take]; omega)
    clear hr hb
    by_cases hlt : t < nd.kids.length
    · obtain ⟨k, hk⟩ : ∃ k, nd.kids[t]? = some k := ⟨_, List.getElem?_eq_getElem hlt⟩
      obtain ⟨rb, roff, rfl, hc⟩ := ints_at HKV.out hk
      have e1 : wx.cell? ⟨rb, roff + t, none⟩ = some (.int .i64 k) := cell_later HB.out hc
      have hti : (t : Int) < (nd.kids.length : Int) := by omega
      obtain ⟨fu, rfl⟩ : ∃ fu, gk = fu + 1 := ⟨gk - 1, by omega⟩
      have HST := Lib.hid (turn_take (o := o) HND.out hk)
      rw [HT.out] at HST
      clear hc hk
      obtain ⟨c, hcd⟩ : ∃ c, (if 0 ≤ k ∧ k < (i : Int) then o k.toNat else -1) = c := ⟨_, rfl⟩
      have HCD := Lib.hid hcd
      rw [hcd] at HST
      clear hcd
      have HLT2 := HLT.out
      by_cases h0 : 0 ≤ k
      · by_cases h1 : k < (i : Int)
        · obtain ⟨kn, rfl⟩ : ∃ kn : Nat, k = kn := ⟨k.toNat, by omega⟩
          obtain rfl : o kn = c := by have := HCD.out; rw [if_pos ⟨h0, h1⟩] at this; simpa using this
          have e4 := (HO.out.keep (w' := wx) (HB.out.block _ HO.out.lt)).cell (i := kn) (by omega)
          have hknl : (kn : Int) < (l.length : Int) := by omega
          go_wp2_with (first | (at_builtin; refine wpList_append_lies _ rfl (.tmp 52) (.tmp 54) 39 rfl w.heap.size 3 j0 (.int .i64 0) 1 8 Tryz.underlying39 HJ.out.1 HJ.out.2.1 HJ.out.2.2.1 HJ.out.2.2.2 rfl (by decide) _ (T.take t).length _ rfl (HR.out.1.alloc _) ⟨wx.heap.size, 0, none⟩ 1 1 [.int .i64 (o kn)] rfl rfl (World.news_of_block (heap_alloc_new _ _)) (one_int _) (by decide) (by rw [HLT.out]; unfold maxLen; omega) (by rw [HLT.out]; omega) (by simp; omega) _ rfl ?_; intro g2 cap2 w7 hrow2 hgr2 hgb2 hgl2))
          have hr7 : LR w.heap.size w7 (fun _ => 0) (.slice (some ⟨g2, 0, none⟩) ((T.take t).length + 1) cap2) (T.take (t + 1)) := ⟨by rw [HST.out]; simpa using hrow2, fun _ _ => rfl⟩
          have hb7 := (bl_al HB.out (.cells #[.int .i64 (o kn)] 3)).grown hgr2 (by simp; omega) (fun k e => (HR.out.lt k e).1)
          have HX := Lib.hid (And.intro hr7 hb7)
          clear hr7 hb7 hrow2 hgr2 hgb2 hgl2
          go_wp2_with fail
          go_roundg fu
          case measure => omega
          case rel => exact ⟨t + 1, _, rfl, rfl, by omega, by omega, by have := HX.out.1; rwa [HLT.out] at this, HX.out.2⟩
        · obtain rfl : -1 = c := by have := HCD.out; rw [if_neg (by omega)] at this; exact this
          go_wp2_with (first | (at_builtin; refine wpList_append_lies _ rfl (.tmp 52) (.tmp 54) 39 rfl w.heap.size 3 j0 (.int .i64 0) 1 8 Tryz.underlying39 HJ.out.1 HJ.out.2.1 HJ.out.2.2.1 HJ.out.2.2.2 rfl (by decide) _ (T.take t).length _ rfl (HR.out.1.alloc _) ⟨wx.heap.size, 0, none⟩ 1 1 [.int .i64 (-1)] rfl rfl (World.news_of_block (heap_alloc_new _ _)) (one_int _) (by decide) (by rw [HLT.out]; unfold maxLen; omega) (by rw [HLT.out]; omega) (by simp; omega) _ rfl ?_; intro g2 cap2 w7 hrow2 hgr2 hgb2 hgl2))
          have hr7 : LR w.heap.size w7 (fun _ => 0) (.slice (some ⟨g2, 0, none⟩) ((T.take t).length + 1) cap2) (T.take (t + 1)) := ⟨by rw [HST.out]; simpa using hrow2, fun _ _ => rfl⟩
          have hb7 := (bl_al HB.out (.cells #[.int .i64 (-1)] 3)).grown hgr2 (by simp; omega) (fun k e => (HR.out.lt k e).1)
          have HX := Lib.hid (And.intro hr7 hb7)
          clear hr7 hb7 hrow2 hgr2 hgb2 hgl2
          go_wp2_with fail
          go_roundg fu
          case measure => omega
          case rel => exact ⟨t + 1, _, rfl, rfl, by omega, by omega, by have := HX.out.1; rwa [HLT.out] at this, HX.out.2⟩
      · obtain rfl : -1 = c := by have := HCD.out; rw [if_neg (by omega)] at this; exact this
        go_wp2_with (first | (at_builtin; refine wpList_append_lies _ rfl (.tmp 52) (.tmp 54) 39 rfl w.heap.size 3 j0 (.int .i64 0) 1 8 Tryz.underlying39 HJ.out.1 HJ.out.2.1 HJ.out.2.2.1 HJ.out.2.2.2 rfl (by decide) _ (T.take t).length _ rfl (HR.out.1.alloc _) ⟨wx.heap.size, 0, none⟩ 1 1 [.int .i64 (-1)] rfl rfl (World.news_of_block (heap_alloc_new _ _)) (one_int _) (by decide) (by rw [HLT.out]; unfold maxLen; omega) (by rw [HLT.out]; omega) (by simp; omega) _ rfl ?_; intro g2 cap2 w7 hrow2 hgr2 hgb2 hgl2))
        have hr7 : LR w.heap.size w7 (fun _ => 0) (.slice (some ⟨g2, 0, none⟩) ((T.take t).length + 1) cap2) (T.take (t + 1)) := ⟨by rw [HST.out]; simpa using hrow2, fun _ _ => rfl⟩
        have hb7 := (bl_al HB.out (.cells #[.int .i64 (-1)] 3)).grown hgr2 (by simp; omega) (fun k e => (HR.out.lt k e).1)
        have HX := Lib.hid (And.intro hr7 hb7)
        clear hr7 hb7 hrow2 hgr2 hgb2 hgl2
        go_wp2_with fail
        go_roundg fu
        case measure => omega
        case rel => exact ⟨t + 1, _, rfl, rfl, by omega, by omega, by have := HX.out.1; rwa [HLT.out] at this, HX.out.2⟩
    · obtain rfl : t = nd.kids.length := by omega
      have HRR := HR.out
      rw [show T.take nd.kids.length = T by rw [← hTl, List.take_length]] at HRR
      have HRF := Lib.hid HRR
      clear HRR
      go_wp2_with fail
      go_ret
      exact ⟨⟨_, rfl, HRF.out.ints, fun q hq => HRF.out.lt q hq⟩, HB.out⟩
end Go.Proofs.YtbchkldhnjahaaaGreatDoor

namespace Kiln
theorem findC_step {n : Nd} {ks : List Int} {ents : List (Nd × Int)} {t : Nat} {e : Nd × Int} {d : Int} (h : ents[t]? = some e) : findC n ks (ents.drop t) d = if isN n ks e.1 then e.2 else findC n ks (ents.drop (t + 1)) d := by
  obtain ⟨hi, rfl⟩ := List.getElem?_eq_some_iff.1 h
  rw [List.drop_eq_getElem_cons hi]
  rfl
end Kiln
namespace Go.Proofs.YtbchkldhnjahaaaGreatDoor
open Go.RowKit Kiln
open Go.Proofs

theorem kidsOf_some {l : List Nd} {i : Nat} {nd : Nd} (h : l[i]? = some nd) : ndAt l i = nd := by
  unfold ndAt
  simp [List.getD, h]

set_option maxRecDepth 100000 in
set_option maxHeartbeats 8000000 in
theorem classed_any (w : World) (lv ev cv : Value) (l : List Nd) (i : Nat) (o : Nat → Int) (Bo : Nat) (ents : List (Nd × Int)) (hl : NdT w lv l) (hi : i < l.length) (ho : OrS w Bo l.length o) (he : NdT w ev (ents.map (·.1))) (hc : Ints w cv (ents.map (·.2)))
    (hlen : l.length ≤ 1048576) (hk : ∀ n ∈ l, n.kids.length ≤ 1048576) (hp : ∀ n ∈ l, n.path.length ≤ 1048576) (hel : ents.length ≤ 4194304) :
    Calls Tryz.prog 36 #[lv, .int .i64 i, .slice (some ⟨Bo, 0, none⟩) l.length l.length, ev, cv] w fun e w' => e = .returned (.int .i64 (classP l i o ents)) ∧ Below w.heap.size w w' := by
  obtain ⟨nd, hnd⟩ : ∃ nd, l[i]? = some nd := ⟨_, List.getElem?_eq_getElem hi⟩
  have HT := Lib.hid (turned_any w lv l i o Bo hl hi ho hlen hk)
  have HL := Lib.hid hl
  have HE := Lib.hid he
  have HC := Lib.hid hc
  have HPB := Lib.hid (hp nd (List.mem_of_getElem? hnd))
  have HKB := Lib.hid (hk nd (List.mem_of_getElem? hnd))
  obtain ⟨ks, hks⟩ : ∃ ks, turnP l i o = ks := ⟨_, rfl⟩
  have HKS := Lib.hid hks
  have hkl : ks.length ≤ 1048576 := by rw [← hks, turn_len hnd]; exact HKB.out
  obtain ⟨R, hR⟩ : ∃ R, classP l i o ents = R := ⟨_, rfl⟩
  have HR : RowKit.Hid (R = if ks.any (fun c => decide (c < 0)) then -1 else findC nd ks ents (ents.length : Nat)) := by
    show _ = _
    rw [← hR]; unfold classP; rw [hks, kidsOf_some hnd]
  obtain ⟨bn, offn, capn, pv, kv, rfl, hpv, hkv, hcn⟩ := hl.one hnd
  obtain ⟨pa, pcap, rfl, -⟩ := id hpv
  have HPV := Lib.hid hpv
  have HCN := Lib.hid hcn
  obtain ⟨ea, ecap, rfl, -⟩ := id he
  obtain ⟨ca, ccap, rfl, -⟩ := id hc
  have hil : (i : Int) < (l.length : Int) := by omega
  rw [hR]
  clear hks hR hk hp hl he hc ho hpv hkv hcn
  simp only [List.length_map]
  go_enter Tryz.func36, Tryz.ntmps36
  go_wp2_with fail
  refine HT.out.mono ?_
  rintro e w2 ⟨⟨kv2, rfl, hk2, -⟩, hb2⟩
  rw [HKS.out] at hk2
  have HK2 := Lib.hid hk2
  have HB2 := Lib.hid hb2
  obtain ⟨k2a, k2cap, rfl, -⟩ := id hk2
  clear hk2 hb2 HT
  go_wp2_with fail
  go_loopg [12] (ks.length + 1) (fun g v wr => ∃ (t : Nat), wr = w2 ∧ v = .int .i64 (t : Nat) ∧ t + g = ks.length + 1 ∧ t ≤ ks.length ∧ ∀ (j : Nat) c, j < t → ks[j]? = some c → 0 ≤ c)
  case atStart => exact ⟨0, rfl, rfl, by omega, Nat.zero_le _, fun j c h => absurd h (by omega)⟩
  case round =>
    obtain ⟨t, hw, rfl, hg, ht, hpos⟩ := hrel
    have hw' := hw.symm
    subst hw'
    have HPOS := Lib.hid hpos
    clear hpos
    by_cases hlt : t < ks.length
    · obtain ⟨k, hk⟩ : ∃ k, ks[t]? = some k := ⟨_, List.getElem?_eq_getElem hlt⟩
      obtain ⟨rb, roff, rfl, e1⟩ := ints_at HK2.out hk
      have hti : (t : Int) < (ks.length : Int) := by omega
      obtain ⟨fu, rfl⟩ : ∃ fu, gk = fu + 1 := ⟨gk - 1, by omega⟩
      have HKT := Lib.hid hk
      clear hk
      by_cases h0 : k < 0
      · have HRN : RowKit.Hid (R = -1) := by
          show _ = _
          rw [HR.out, if_pos]
          exact List.any_eq_true.2 ⟨k, List.mem_of_getElem? HKT.out, by simpa using h0⟩
        go_wp2_with fail
        go_ret
        exact ⟨by rw [HRN.out]; rfl, HB2.out⟩
      · go_wp2_with fail
        go_roundg fu
        case measure => omega
        case rel => exact ⟨t + 1, rfl, rfl, by omega, by omega, fun j c hj hc => by
          by_cases hjt : j = t
          · subst hjt; rw [HKT.out] at hc; simp only [Option.some.injEq] at hc; omega
          · exact HPOS.out j c (by omega) hc⟩
    · obtain rfl : t = ks.length := by omega
      have HRF : RowKit.Hid (R = findC nd ks (ents.drop 0) (ents.length : Nat)) := by
        show _ = _
        rw [HR.out, if_neg, List.drop_zero]
        intro h
        obtain ⟨c, hc, hc0⟩ := List.any_eq_true.1 h
        obtain ⟨j, hj, rfl⟩ := List.getElem_of_mem hc
        have := HPOS.out j _ hj (List.getElem?_eq_getElem hj)
        simp at hc0; omega
      clear HPOS hg ht hlt
      go_wp2_with fail
      go_loopg [13] (ents.length + 1) (fun g v wr => ∃ (t : Nat) (wx : World), wx = wr ∧ v = .int .i64 (t : Nat) ∧ t + g = ents.length + 1 ∧ t ≤ ents.length ∧ R = findC nd ks (ents.drop t) (ents.length : Nat) ∧ ∃ m, wr = w2.drewN m)
      case atStart => exact ⟨0, _, rfl, rfl, by omega, Nat.zero_le _, HRF.out, 0, rfl⟩
      case round =>
        clear HRF
        obtain ⟨t, wx, rfl, rfl, hg, ht, hr, m, hbx⟩ := hrel
        have HRR := Lib.hid hr
        have HBX := Lib.hid hbx
        have hce : ∀ ad, wx.cell? ad = w2.cell? ad := fun ad => by rw [hbx]; rfl
        have hbw : Below w.heap.size w wx := by rw [hbx]; exact bl_drN HB2.out m
        have HBW := Lib.hid hbw
        clear hr hbx hbw
        by_cases hlt : t < ents.length
        · obtain ⟨en, hen⟩ : ∃ en, ents[t]? = some en := ⟨_, List.getElem?_eq_getElem hlt⟩
          obtain ⟨en, ec⟩ := en
          obtain ⟨fu, rfl⟩ : ∃ fu, gk = fu + 1 := ⟨gk - 1, by omega⟩
          obtain ⟨eb, eo, ecp, epv, ekv, hev, hep, hek, hecl⟩ := HE.out.one (i := t) (n := en) (by rw [List.getElem?_map, hen]; rfl)
          rw [List.length_map] at hev
          simp only [Value.slice.injEq] at hev
          obtain ⟨rfl, -, rfl⟩ := hev
          obtain ⟨epa, epc, rfl, -⟩ := id hep
          obtain ⟨eka, ekc, rfl, -⟩ := id hek
          obtain ⟨cb, co, rfl, hcc⟩ := ints_at HC.out (i := t) (x := ec) (by rw [List.getElem?_map, hen]; rfl)
          have z0 : wx.cell? ⟨eb, eo + t * 6, none⟩ = some (.int .i64 en.kind) := cell_later HBW.out (hecl 0 _ rfl _ rfl)
          have z1 : wx.cell? ⟨eb, eo + t * 6 + 1, none⟩ = some (str en.text) := cell_later HBW.out (hecl 1 _ rfl _ rfl)
          have z2 : wx.cell? ⟨eb, eo + t * 6 + 2, none⟩ = some (.slice epa en.path.length epc) := cell_later HBW.out (hecl 2 _ rfl _ rfl)
          have z3 : wx.cell? ⟨eb, eo + t * 6 + 3, none⟩ = some (.slice eka en.kids.length ekc) := cell_later HBW.out (hecl 3 _ rfl _ rfl)
          have y0 : wx.cell? ⟨bn, offn + i * 6, none⟩ = some (.int .i64 nd.kind) := cell_later HBW.out (HCN.out 0 _ rfl _ rfl)
          have y1 : wx.cell? ⟨bn, offn + i * 6 + 1, none⟩ = some (str nd.text) := cell_later HBW.out (HCN.out 1 _ rfl _ rfl)
          have y2 : wx.cell? ⟨bn, offn + i * 6 + 2, none⟩ = some (.slice pa nd.path.length pcap) := cell_later HBW.out (HCN.out 2 _ rfl _ rfl)
          have zc : wx.cell? ⟨cb, co + t, none⟩ = some (.int .i64 ec) := cell_later HBW.out hcc
          have hti : (t : Int) < (ents.length : Int) := by omega
          have HST : RowKit.Hid (R = if isN nd ks en then ec else findC nd ks (ents.drop (t + 1)) (ents.length : Nat)) := by
            show _ = _
            rw [HRR.out, findC_step hen]
          have HEP := Lib.hid (hep.below HBW.out)
          have HEK := Lib.hid (hek.below HBW.out)
          have HPX := Lib.hid (HPV.out.below HBW.out)
          have HKX := Lib.hid (show Ints wx (.slice k2a ks.length k2cap) ks by rw [HBX.out]; exact HK2.out.below (bl_drN (Below.refl _ _) m))
          clear hep hek hecl hcc hen hce HRR
          by_cases h1 : en.kind = nd.kind
          rotate_left
          · have q1 : (en.kind == nd.kind) = false := by rw [beq_eq_false_iff_ne]; exact h1
            have HNO : RowKit.Hid (R = findC nd ks (ents.drop (t + 1)) (ents.length : Nat)) := by
              show _ = _
              rw [HST.out, if_neg]; rw [isN_iff]; exact fun h => h1 h.1
            go_wp2_with fail
            go_quiet (fail)
            go_wp2_with fail
            go_roundg fu
            case measure => omega
            case rel => exact ⟨t + 1, _, rfl, rfl, by omega, by omega, HNO.out, m + nq, by rw [HBX.out, World.drewN_drewN]⟩
          have q1 : (en.kind == nd.kind) = true := by rw [beq_iff_eq]; exact h1
          have H1 := Lib.hid h1
          clear h1
          by_cases h2 : en.text = nd.text
          rotate_left
          · have q2 : (en.text == nd.text) = false := by rw [beq_eq_false_iff_ne]; exact h2
            have HNO : RowKit.Hid (R = findC nd ks (ents.drop (t + 1)) (ents.length : Nat)) := by
              show _ = _
              rw [HST.out, if_neg]; rw [isN_iff]; exact fun h => h2 h.2.1
            go_wp2_with fail
            go_quiet (fail)
            go_wp2_with fail
            go_roundg fu
            case measure => omega
            case rel => exact ⟨t + 1, _, rfl, rfl, by omega, by omega, HNO.out, m + nq, by rw [HBX.out, World.drewN_drewN]⟩
          have q2 : (en.text == nd.text) = true := by rw [beq_iff_eq]; exact h2
          have H2 := Lib.hid h2
          clear h2
          by_cases h3 : en.path = nd.path
          rotate_left
          · have q3 : (en.path == nd.path) = false := by rw [beq_eq_false_iff_ne]; exact h3
            have HNO : RowKit.Hid (R = findC nd ks (ents.drop (t + 1)) (ents.length : Nat)) := by
              show _ = _
              rw [HST.out, if_neg]; rw [isN_iff]; exact fun h => h3 h.2.2.1
            go_wp2_with fail
            go_quiet ((go_at_call 34; refine Calls.quiet_of (strings_eq_any _ _ _ en.path nd.path HEP.out HPX.out (by have := HPB.out; omega))))
            go_wp2_with fail
            go_roundg fu
            case measure => omega
            case rel => exact ⟨t + 1, _, rfl, rfl, by omega, by omega, HNO.out, m + nq, by rw [HBX.out, World.drewN_drewN]⟩
          have q3 : (en.path == nd.path) = true := by rw [beq_iff_eq]; exact h3
          have H3 := Lib.hid h3
          clear h3
          by_cases h4 : en.kids = ks
          rotate_left
          · have q4 : (en.kids == ks) = false := by rw [beq_eq_false_iff_ne]; exact h4
            have HNO : RowKit.Hid (R = findC nd ks (ents.drop (t + 1)) (ents.length : Nat)) := by
              show _ = _
              rw [HST.out, if_neg]; rw [isN_iff]; exact fun h => h4 h.2.2.2
            go_wp2_with fail
            go_quiet ((first | (go_at_call 34; refine Calls.quiet_of (strings_eq_any _ _ _ en.path nd.path HEP.out HPX.out (by have := HPB.out; omega))) | (go_at_call 35; refine Calls.quiet_of (ints_eq_any _ _ _ en.kids ks HEK.out HKX.out))))
            go_wp2_with fail
            go_roundg fu
            case measure => omega
            case rel => exact ⟨t + 1, _, rfl, rfl, by omega, by omega, HNO.out, m + nq, by rw [HBX.out, World.drewN_drewN]⟩
          have q4 : (en.kids == ks) = true := by rw [beq_iff_eq]; exact h4
          have HYS : RowKit.Hid (R = ec) := by
            show _ = _
            rw [HST.out, if_pos]; rw [isN_iff]; exact ⟨H1.out, H2.out, H3.out, h4⟩
          clear h4
          go_wp2_with fail
          go_quiet ((first | (go_at_call 34; refine Calls.quiet_of (strings_eq_any _ _ _ en.path nd.path HEP.out HPX.out (by have := HPB.out; omega))) | (go_at_call 35; refine Calls.quiet_of (ints_eq_any _ _ _ en.kids ks HEK.out HKX.out))))
          go_wp2_with fail
          go_ret
          exact ⟨by rw [HYS.out]; rfl, bl_drN HBW.out nq⟩
        · obtain rfl : t = ents.length := by omega
          have HRE : RowKit.Hid (R = (ents.length : Nat)) := by show _ = _; rw [HRR.out, List.drop_length]; rfl
          clear hce
          go_wp2_with fail
          go_ret
          exact ⟨by rw [HRE.out]; rfl, HBW.out⟩
end Go.Proofs.YtbchkldhnjahaaaGreatDoor

namespace Kiln
theorem class_more {l : List Nd} {s : (Nat → Int) × List (Nd × Int)} {xs : List Nat} {t x : Nat} (h : xs[t]? = some x) : classAll l s (xs.take (t + 1)) = classStep l (classAll l s (xs.take t)) x := by
  unfold classAll
  rw [take_snoc h, List.foldl_append]; rfl
theorem class_len {l : List Nd} : ∀ (xs : List Nat) (s : (Nat → Int) × List (Nd × Int)), (classAll l s xs).2.length = s.2.length + xs.length
  | [], s => rfl
  | x :: xs, s => by
    show (classAll l (classStep l s x) xs).2.length = _
    rw [class_len xs, classStep]; simp; omega
end Kiln
namespace Go.Proofs.YtbchkldhnjahaaaGreatDoor
open Go.RowKit Kiln
open Go.Proofs

/-- nodes as cells; their paths lie as at the start, their kids in rows that are written no more -/
def EnS (w0 w : World) (U : Rl) : List Nd → List Value → Prop
  | [], xs => xs = []
  | n :: l, xs => ∃ pv kv ys, xs = ndVals n pv kv ++ ys ∧ Strs w0 pv n.path ∧ Ints w kv n.kids ∧ Im U kv 4 ∧ EnS w0 w U l ys
theorem EnS.keep {w0 w w' : World} {U U' : Rl} (hk : ∀ k, U k = 4 → w'.heap[k]? = w.heap[k]? ∧ U' k = 4) : ∀ {l : List Nd} {xs : List Value}, EnS w0 w U l xs → EnS w0 w' U' l xs
  | [], _, h => h
  | _ :: _, _, ⟨pv, kv, ys, hx, hp, hq, iq, hr⟩ => ⟨pv, kv, ys, hx, hp, hq.keep fun k e => (hk k (iq k e)).1, fun k e => (hk k (iq k e)).2, EnS.keep hk hr⟩
theorem EnS.snoc {w0 w : World} {U : Rl} {n : Nd} {pv kv : Value} (hp : Strs w0 pv n.path) (hq : Ints w kv n.kids) (iq : Im U kv 4) : ∀ {l : List Nd} {xs : List Value}, EnS w0 w U l xs → EnS w0 w U (l ++ [n]) (xs ++ ndVals n pv kv)
  | [], _, h => by subst h; exact ⟨pv, kv, [], by simp, hp, hq, iq, rfl⟩
  | _ :: _, _, ⟨pv', kv', ys, hx, h1, h3, h4, hr⟩ => ⟨pv', kv', ys ++ ndVals n pv kv, by rw [hx, List.append_assoc], h1, h3, h4, EnS.snoc hp hq iq hr⟩
theorem EnS.at {w0 w : World} {U : Rl} : ∀ {l : List Nd} {xs : List Value}, EnS w0 w U l xs → ∀ (i : Nat) n, l[i]? = some n → ∃ pv kv, Strs w0 pv n.path ∧ Ints w kv n.kids ∧ ∀ (j : Nat) x, (ndVals n pv kv)[j]? = some x → xs[6 * i + j]? = some x
  | [], _, _, i, u, hi => by simp at hi
  | t :: l, xs, ⟨pv, kv, ys, hx, hp, hq, iq, hr⟩, 0, u, hi => by
    simp only [List.getElem?_cons_zero, Option.some.injEq] at hi
    subst hi
    refine ⟨pv, kv, hp, hq, fun j x hj => ?_⟩
    subst hx
    rw [Nat.mul_zero, Nat.zero_add, List.getElem?_append_left (List.getElem?_eq_some_iff.1 hj).1]; exact hj
  | t :: l, xs, ⟨pv, kv, ys, hx, hp, hq, iq, hr⟩, i + 1, u, hi => by
    obtain ⟨pv', kv', h1, h3, hc⟩ := EnS.at hr i u (by simpa using hi)
    refine ⟨pv', kv', h1, h3, fun j x hj => ?_⟩
    subst hx
    rw [List.getElem?_append_right (by simp [ndVals]; omega)]
    rw [show 6 * (i + 1) + j - (ndVals t pv kv).length = 6 * i + j by simp [ndVals]; omega]
    exact hc j x hj
theorem EnS.toT {w0 w : World} {B : Nat} {U : Rl} {v : Value} {l : List Nd} {xs : List Value} (ho : w.ownsRow B 41 6 v l.length xs) (ht : EnS w0 w U l xs) (hb : Below w0.heap.size w0 w) : NdT w v l := by
  rcases id ho.2 with ⟨rfl, h0⟩ | ⟨g, cap, cur, rfl, _⟩
  · have : l = [] := List.eq_nil_of_length_eq_zero h0
    subst this
    exact NdT.nil w
  · refine ⟨_, cap, rfl, fun _ => ⟨g, 0, rfl, fun i u hi => ?_⟩⟩
    obtain ⟨pv, kv, hs, hk, hc⟩ := ht.at i u hi
    refine ⟨pv, kv, hs.below hb, hk, fun j x hj => ?_⟩
    have := ho.cells (g := g) rfl (6 * i + j) x (hc j x hj)
    rw [Nat.zero_add, ← addr_add0]; exact this

theorem row_set {w : World} {B n size g cap : Nat} {e : TypeId} {xs : List Value} (h : w.ownsRow B e size (.slice (some ⟨g, 0, none⟩) n cap) n xs) (j : Nat) (u : Value) : (w.setCell ⟨g, j, none⟩ u).ownsRow B e size (.slice (some ⟨g, 0, none⟩) n cap) n (xs.set j u) := by
  refine ⟨by rw [List.length_set]; exact h.1, .inr ?_⟩
  rcases h.2 with ⟨e, _⟩ | ⟨g', cap', cur, hv, hb, hg, hle, hm, hs, hx⟩
  · simp at e
  · simp only [Value.slice.injEq, Option.some.injEq, Addr.mk.injEq, and_true, true_and] at hv
    obtain ⟨rfl, rfl⟩ := hv
    refine ⟨g, cap, cur.setIfInBounds j u, rfl, hb, heap_setCell_same w g j _ _ u hg, hle, hm, by simpa using hs, ?_⟩
    rw [Array.toList_setIfInBounds, List.take_set, hx]

/-- what the two rows are, at each round's head: w0 is the call's world, wZ the one ahead of the loops -/
structure RS (w0 wZ wr : World) (U : Rl) (lv cv : Value) (ents : List (Nd × Int)) (xs : List Value) : Prop where
  bel : Below w0.heap.size w0 wr
  keep : ∀ q, q < wZ.heap.size → U q = 4 → wr.heap[q]? = wZ.heap[q]?
  size : wZ.heap.size ≤ wr.heap.size
  hi : ∀ q, U q ≠ 0 → q < wr.heap.size
  lrow : wr.ownsRow wZ.heap.size 41 6 lv ents.length xs
  nds : EnS w0 wr U (ents.map (·.1)) xs
  lim : Im U lv 2
  crow : wr.ownsRow wZ.heap.size 3 1 cv ents.length ((ents.map (·.2)).map (Value.int .i64))
  cim : Im U cv 3

theorem RS.step {w0 wZ wr w' : World} {U : Rl} {lv cv : Value} {ents : List (Nd × Int)} {xs : List Value} (h : RS w0 wZ wr U lv cv ents xs) (hb : Below w0.heap.size w0 w') (hs : wr.heap.size ≤ w'.heap.size) (hk : ∀ q, U q ≠ 0 → U q ≠ 1 → w'.heap[q]? = wr.heap[q]?) :
    RS w0 wZ w' U lv cv ents xs :=
  ⟨hb, fun q hq h4 => (hk q (by omega) (by omega)).trans (h.keep q hq h4), Nat.le_trans h.size hs, fun q hq => Nat.lt_of_lt_of_le (h.hi q hq) hs, row_keep h.lrow fun q e => hk q (by rw [h.lim q e]; decide) (by rw [h.lim q e]; decide),
    h.nds.keep fun q e => ⟨hk q (by rw [e]; decide) (by rw [e]; decide), e⟩, h.lim, row_keep h.crow fun q e => hk q (by rw [h.cim q e]; decide) (by rw [h.cim q e]; decide), h.cim⟩
theorem RS.nodes {w0 wZ wr : World} {U : Rl} {lv cv : Value} {ents : List (Nd × Int)} {xs : List Value} (h : RS w0 wZ wr U lv cv ents xs) : NdT wr lv (ents.map (·.1)) := EnS.toT (by rw [List.length_map]; exact h.lrow) h.nds h.bel
theorem RS.classes {w0 wZ wr : World} {U : Rl} {lv cv : Value} {ents : List (Nd × Int)} {xs : List Value} (h : RS w0 wZ wr U lv cv ents xs) : Ints wr cv (ents.map (·.2)) := by
  have : LR wZ.heap.size wr (fun _ => 0) cv (ents.map (·.2)) := ⟨by rw [List.length_map]; exact h.crow, fun _ _ => rfl⟩
  exact this.ints
theorem RS.start {w0 wZ : World} (U : Rl) (hb : Below w0.heap.size w0 wZ) (hi : ∀ q, U q ≠ 0 → q < wZ.heap.size) : RS w0 wZ wZ U (.slice none 0 0) (.slice none 0 0) [] [] :=
  ⟨hb, fun _ _ _ => rfl, Nat.le_refl _, hi, World.ownsRow_nil _ _ _ _, rfl, Im.nil _ _, World.ownsRow_nil _ _ _ _, Im.nil _ _⟩

/-- one more node and its class -/
theorem RS.add {w0 wZ wr w' : World} {U : Rl} {lv cv lv' cv' pv kv : Value} {ents : List (Nd × Int)} {xs : List Value} {n : Nd} {c : Int} (h : RS w0 wZ wr U lv cv ents xs) (hb : Below w0.heap.size w0 w') (hs : wr.heap.size ≤ w'.heap.size)
    (hk : ∀ q, U q = 4 → w'.heap[q]? = wr.heap[q]?) (hl : w'.ownsRow wZ.heap.size 41 6 lv' (ents.length + 1) (xs ++ ndVals n pv kv)) (hc : w'.ownsRow wZ.heap.size 3 1 cv' (ents.length + 1) ((ents.map (·.2)).map (Value.int .i64) ++ [.int .i64 c]))
    (hp : Strs w0 pv n.path) (hi : Ints w' kv n.kids) (l1 : ∀ q, lv'.ownBlock = some q → U q = 2 ∨ wr.heap.size ≤ q) (c1 : ∀ q, cv'.ownBlock = some q → U q = 3 ∨ wr.heap.size ≤ q) (k1 : ∀ q, kv.ownBlock = some q → wr.heap.size ≤ q ∧ q < w'.heap.size)
    (d1 : ∀ q, lv'.ownBlock = some q → cv'.ownBlock ≠ some q) (d2 : ∀ q, kv.ownBlock = some q → lv'.ownBlock ≠ some q ∧ cv'.ownBlock ≠ some q) :
    ∃ U', RS w0 wZ w' U' lv' cv' (ents ++ [(n, c)]) (xs ++ ndVals n pv kv) ∧ ∀ q, q < wr.heap.size → U q ≠ 2 → U q ≠ 3 → U' q = U q := by
  have hlt : ∀ v m (T : TypeId) (s : Nat) (ys : List Value), w'.ownsRow wZ.heap.size T s v m ys → ∀ q, v.ownBlock = some q → q < w'.heap.size := fun v m T s ys ho q e => (World.ownsRow.lt ho q e).2
  obtain ⟨U', hU⟩ : ∃ U' : Rl, U' = fun q => if lv'.ownBlock = some q then 2 else if cv'.ownBlock = some q then 3 else if kv.ownBlock = some q then 4 else U q := ⟨_, rfl⟩
  have h4 : ∀ q, U q = 4 → U' q = 4 := fun q e => by
    rw [hU]; simp only
    have hz := h.hi q (by omega)
    split
    · rename_i e1; rcases l1 q e1 with h1 | h1 <;> omega
    · split
      · rename_i e1; rcases c1 q e1 with h1 | h1 <;> omega
      · split
        · rfl
        · exact e
  refine ⟨U', ⟨hb, fun q hq e => ?_, Nat.le_trans h.size hs, fun q hq => ?_, by rw [List.length_append]; exact hl, ?_, fun q e => ?_, ?_, fun q e => ?_⟩, fun q hq n2 n3 => ?_⟩
  · rw [hU] at e; simp only at e
    split at e
    · omega
    · split at e
      · omega
      · split at e
        · rename_i e1; have := (k1 q e1).1; have := h.size; omega
        · exact (hk q e).trans (h.keep q hq e)
  · rw [hU] at hq; simp only at hq
    split at hq
    · rename_i e1; exact hlt _ _ _ _ _ hl q e1
    · split at hq
      · rename_i e1; exact hlt _ _ _ _ _ hc q e1
      · split at hq
        · rename_i e1; exact (k1 q e1).2
        · exact Nat.lt_of_lt_of_le (h.hi q hq) hs
  · rw [List.map_append]
    exact EnS.snoc hp hi (fun q e => by rw [hU]; simp only; rw [if_neg (d2 q e).1, if_neg (d2 q e).2, if_pos e]) (h.nds.keep fun q e => ⟨hk q e, h4 q e⟩)
  · rw [hU]; simp only; rw [if_pos e]
  · rw [List.length_append, List.map_append, List.map_append]; exact hc
  · rw [hU]; simp only
    rw [if_neg (fun e1 => d1 q e1 e), if_pos e]
  · rw [hU]; simp only
    split
    · rename_i e1; rcases l1 q e1 with h1 | h1
      · exact absurd h1 n2
      · omega
    · split
      · rename_i e1; rcases c1 q e1 with h1 | h1
        · exact absurd h1 n3
        · omega
      · split
        · rename_i e1; have := (k1 q e1).1; omega
        · rfl
end Go.Proofs.YtbchkldhnjahaaaGreatDoor

namespace Go.Proofs.YtbchkldhnjahaaaGreatDoor
open Go.RowKit Kiln
open Go.Proofs

/-- behind the two appends -/
structure App (wZ wc wx : World) (U : Rl) (n : Nat) (xs ys : List Value) (nd : Nd) (npv nkv : Value) (c : Int) (gl capl gc capc : Nat) : Prop where
  lrow : wx.ownsRow wZ.heap.size 41 6 (.slice (some ⟨gl, 0, none⟩) (n + 1) capl) (n + 1) (xs ++ ndVals nd npv nkv)
  crow : wx.ownsRow wZ.heap.size 3 1 (.slice (some ⟨gc, 0, none⟩) (n + 1) capc) (n + 1) (ys ++ [.int .i64 c])
  keep : ∀ q, q < wc.heap.size → ((U q ≠ 2 ∧ U q ≠ 3) ∨ q < wZ.heap.size) → wx.heap[q]? = wc.heap[q]?
  size : wc.heap.size ≤ wx.heap.size
  l1 : U gl = 2 ∨ wc.heap.size ≤ gl
  c1 : U gc = 3 ∨ wc.heap.size ≤ gc
  ne : gl ≠ gc
  os : wx.os = wc.os
  tape : wx.tape = wc.tape
  output : wx.output = wc.output

theorem app_fin {w4 wZ wc wl wm : World} {U : Rl} {lv cv npv nkv : Value} {ents : List (Nd × Int)} {xs : List Value} {nd : Nd} {c : Int} {gl capl gc capc : Nat} (h : RS w4 wZ wc U lv cv ents xs)
    (hKl : ∀ q, q < wc.heap.size → lv.ownBlock ≠ some q → wl.heap[q]? = wc.heap[q]?) (hsl : wc.heap.size ≤ wl.heap.size)
    (hrl : wl.ownsRow wZ.heap.size 41 6 (.slice (some ⟨gl, 0, none⟩) (ents.length + 1) capl) (ents.length + 1) (xs ++ ndVals nd npv nkv)) (hbl : lv.ownBlock = some gl ∨ wc.heap.size ≤ gl) (hll : gl < wl.heap.size)
    (hKm : ∀ q, q < wl.heap.size → cv.ownBlock ≠ some q → wm.heap[q]? = wl.heap[q]?) (hsm : wl.heap.size ≤ wm.heap.size)
    (hrm : wm.ownsRow wZ.heap.size 3 1 (.slice (some ⟨gc, 0, none⟩) (ents.length + 1) capc) (ents.length + 1) ((ents.map (·.2)).map (Value.int .i64) ++ [.int .i64 c])) (hbm : cv.ownBlock = some gc ∨ wl.heap.size ≤ gc)
    (o1 : wm.os = wc.os) (o2 : wm.tape = wc.tape) (o3 : wm.output = wc.output) : App wZ wc wm U ents.length xs ((ents.map (·.2)).map (Value.int .i64)) nd npv nkv c gl capl gc capc := by
  have hL : ∀ q, lv.ownBlock = some q → U q = 2 ∧ wZ.heap.size ≤ q ∧ q < wc.heap.size := fun q e => ⟨h.lim q e, (World.ownsRow.lt h.lrow q e).1, (World.ownsRow.lt h.lrow q e).2⟩
  have hC : ∀ q, cv.ownBlock = some q → U q = 3 ∧ wZ.heap.size ≤ q ∧ q < wc.heap.size := fun q e => ⟨h.cim q e, (World.ownsRow.lt h.crow q e).1, (World.ownsRow.lt h.crow q e).2⟩
  have hne : cv.ownBlock ≠ some gl := fun e => by
    have h1 := hC _ e
    rcases hbl with h2 | h2
    · have := hL _ h2; omega
    · omega
  refine ⟨row_keep hrl fun q e => ?_, hrm, fun q hq hU => (hKm q (by omega) fun e => ?_).trans (hKl q hq fun e => ?_), Nat.le_trans hsl hsm, ?_, ?_, ?_, o1, o2, o3⟩
  · simp only [Value.ownBlock, Option.some.injEq] at e
    subst e
    exact hKm _ hll hne
  · have := hC q e; omega
  · have := hL q e; omega
  · rcases hbl with h2 | h2
    · exact .inl (hL _ h2).1
    · exact .inr h2
  · rcases hbm with h2 | h2
    · exact .inl (hC _ h2).1
    · exact .inr (by omega)
  · intro e
    subst e
    rcases hbm with h2 | h2
    · exact hne h2
    · omega

theorem set_kids {n : Nat} {xs : List Value} {nd : Nd} {npv nkv v : Value} {K : List Int} (h : xs.length = n * 6) : (xs ++ ndVals nd npv nkv).set (n * 6 + 3) v = xs ++ ndVals { nd with kids := K } npv v := by
  rw [List.set_append_right _ _ (by omega), show n * 6 + 3 - xs.length = 3 by omega]
  rfl

theorem App.more {w4 wZ wc wx w2 : World} {U : Rl} {lv cv npv nkv v : Value} {ents : List (Nd × Int)} {xs : List Value} {nd : Nd} {c : Int} {gl capl gc capc : Nat} {K : List Int} (h : RS w4 wZ wc U lv cv ents xs) (hz : w4.heap.size ≤ wZ.heap.size)
    (ap : App wZ wc wx U ents.length xs ((ents.map (·.2)).map (Value.int .i64)) nd npv nkv c gl capl gc capc) (hp : Strs w4 npv nd.path) (hb2 : Below wx.heap.size wx w2) (hi : Ints w2 v K) (hv : ∀ q, v.ownBlock = some q → wx.heap.size ≤ q ∧ q < w2.heap.size) :
    w2.cell? ⟨gl, ents.length * 6 + 3, none⟩ = some nkv ∧ w2.frozen? ⟨gl, ents.length * 6 + 3, none⟩ = false ∧
    (∃ U', RS w4 wZ (w2.setCell ⟨gl, ents.length * 6 + 3, none⟩ v) U' (.slice (some ⟨gl, 0, none⟩) (ents.length + 1) capl) (.slice (some ⟨gc, 0, none⟩) (ents.length + 1) capc) (ents ++ [({ nd with kids := K }, c)]) (xs ++ ndVals { nd with kids := K } npv v) ∧
      ∀ q, q < wc.heap.size → U q ≠ 2 → U q ≠ 3 → U' q = U q) ∧
    ∀ B n o, OrS wc B n o → U B = 1 → OrS (w2.setCell ⟨gl, ents.length * 6 + 3, none⟩ v) B n o := by
  have hgx := (World.ownsRow.lt ap.lrow gl rfl).2
  have hgz := (World.ownsRow.lt ap.lrow gl rfl).1
  have hl2 : w2.ownsRow wZ.heap.size 41 6 (.slice (some ⟨gl, 0, none⟩) (ents.length + 1) capl) (ents.length + 1) (xs ++ ndVals nd npv nkv) := row_keep ap.lrow fun q e => by
    simp only [Value.ownBlock, Option.some.injEq] at e
    subst e
    exact hb2.block _ hgx
  have hxl := h.lrow.1
  have hcx := (World.ownsRow.lt ap.crow gc rfl).2
  have hsw : ∀ u, (w2.setCell ⟨gl, ents.length * 6 + 3, none⟩ u).heap.size = w2.heap.size := fun u => by simp [World.setCell]
  have hs2 := hb2.size
  have hsx := ap.size
  have h4l : ∀ q, q < wc.heap.size → U q ≠ 2 → q ≠ gl := fun q hq hu e => by
    subst e
    rcases ap.l1 with h1 | h1
    · exact hu h1
    · omega
  have hkq : ∀ q, q < wc.heap.size → U q ≠ 2 → U q ≠ 3 → (w2.setCell ⟨gl, ents.length * 6 + 3, none⟩ v).heap[q]? = wc.heap[q]? := fun q hq n2 n3 =>
    (heap_setCell_other _ _ q _ (h4l q hq n2)).trans ((hb2.block q (by omega)).trans (ap.keep q hq (.inl ⟨n2, n3⟩)))
  refine ⟨?_, World.ownsRow.frozenAt hl2 _, ?_, fun B n o ho e => ho.keep (hkq B ho.lt (by omega) (by omega))⟩
  · have := hl2.cells (g := gl) rfl (ents.length * 6 + 3) nkv (by rw [List.getElem?_append_right (by omega), show ents.length * 6 + 3 - xs.length = 3 by omega]; rfl)
    rw [← addr_add0]; exact this
  · refine RS.add h ?_ (by rw [hsw]; omega) (fun q e => hkq q (h.hi q (by omega)) (by omega) (by omega)) ?_ ?_ hp (hi.keep fun q e => ?_) (fun q e => ?_) (fun q e => ?_) (fun q e => ?_) (fun q e e2 => ?_) (fun q e => ⟨fun e2 => ?_, fun e2 => ?_⟩)
    · have hb4 : Below w4.heap.size w4 wx := ⟨ap.os.trans h.bel.os, ap.tape.trans h.bel.tape, ap.output.trans h.bel.output, Nat.le_trans h.bel.size hsx, fun q hq => (ap.keep q (by have := h.bel.size; omega) (.inr (by omega))).trans (h.bel.block q hq)⟩
      exact (hb4.trans (hb2.mono hb4.size)).setCell (Nat.le_trans hz hgz) _
    · have := row_set hl2 (ents.length * 6 + 3) v
      rw [set_kids (K := K) hxl] at this
      exact this
    · refine row_keep ap.crow fun q e => ?_
      simp only [Value.ownBlock, Option.some.injEq] at e
      subst e
      exact (heap_setCell_other _ _ _ _ (fun e => ap.ne e.symm)).trans (hb2.block _ hcx)
    · exact heap_setCell_other _ _ _ _ (by have := hv q e; show q ≠ gl; omega)
    · simp only [Value.ownBlock, Option.some.injEq] at e
      subst e; exact ap.l1
    · simp only [Value.ownBlock, Option.some.injEq] at e
      subst e; exact ap.c1
    · rw [hsw]
      have := hv q e
      omega
    · simp only [Value.ownBlock, Option.some.injEq] at e e2
      exact ap.ne (e.trans e2.symm)
    · simp only [Value.ownBlock, Option.some.injEq] at e2
      have := hv q e; omega
    · simp only [Value.ownBlock, Option.some.injEq] at e2
      have := hv q e; omega
theorem App.bel {w4 wZ wc wx : World} {U : Rl} {lv cv npv nkv : Value} {ents : List (Nd × Int)} {xs ys : List Value} {nd : Nd} {c : Int} {n gl capl gc capc : Nat} (h : RS w4 wZ wc U lv cv ents xs) (hz : w4.heap.size ≤ wZ.heap.size)
    (ap : App wZ wc wx U n xs ys nd npv nkv c gl capl gc capc) : Below w4.heap.size w4 wx :=
  ⟨ap.os.trans h.bel.os, ap.tape.trans h.bel.tape, ap.output.trans h.bel.output, Nat.le_trans h.bel.size ap.size, fun q hq => (ap.keep q (by have := h.bel.size; omega) (.inr (by omega))).trans (h.bel.block q hq)⟩
theorem App.ors {wZ wc wx : World} {U : Rl} {npv nkv : Value} {xs ys : List Value} {nd : Nd} {c : Int} {n gl capl gc capc : Nat} (ap : App wZ wc wx U n xs ys nd npv nkv c gl capl gc capc) {B m : Nat} {o : Nat → Int} (ho : OrS wc B m o) (e : U B = 1) : OrS wx B m o :=
  ho.keep (ap.keep B ho.lt (.inl ⟨by omega, by omega⟩))
theorem class_next {l : List Nd} {s : (Nat → Int) × List (Nd × Int)} {xs : List Nat} {t x : Nat} {o : Nat → Int} {ents : List (Nd × Int)} {c : Int} {nd : Nd} (hx : xs[t]? = some x) (hc : classAll l s (xs.take t) = (o, ents)) (hn : l[x]? = some nd) (hp : classP l x o ents = c) :
    classAll l s (xs.take (t + 1)) = (setO o x c, ents ++ [({ nd with kids := turnP l x (setO o x c) }, c)]) := by
  have hna : ndAt l x = nd := by unfold ndAt; rw [List.getD_eq_getElem?_getD, hn]; rfl
  rw [class_more hx, hc]
  unfold classStep
  simp only [hp, hna]
theorem new21 (w : World) (o o' : Obj) : ((w.alloc o).alloc o').heap[w.heap.size]? = some o :=
  (Below.heap_alloc (w.alloc o) o' _ (by simp)).trans (heap_alloc_new w o)
theorem old2 (w : World) (o o' : Obj) (q : Nat) (h : q < w.heap.size) : ((w.alloc o).alloc o').heap[q]? = w.heap[q]? :=
  (Below.heap_alloc (w.alloc o) o' q (by simp; omega)).trans (Below.heap_alloc w o q h)
end Go.Proofs.YtbchkldhnjahaaaGreatDoor

namespace Go.Proofs.YtbchkldhnjahaaaGreatDoor
open Go.RowKit Kiln
open Go.Proofs

theorem ints_one (w : World) (x : Int) (o : Obj) (ho : o = .cells #[.int .i64 x] 3) : Ints (w.alloc o) (.slice (some ⟨w.heap.size, 0, none⟩) 1 1) [x] := by
  subst ho
  refine ⟨_, 1, rfl, by simp, by simp [maxLen], fun _ => ⟨w.heap.size, 0, rfl, fun i y hi => ?_⟩⟩
  cases i with
  | zero =>
    simp only [List.getElem?_cons_zero, Option.some.injEq] at hi
    subst hi
    exact cell3 (heap_alloc_new w _) 0 _ rfl
  | succ i => simp at hi

theorem one_nd2 (a b c : Int) (t : Bytes) (o o' : Option Addr) (n n' cap cap' : Nat) : ∀ u ∈ [Value.int .i64 a, str t, .slice o n cap, .slice o' n' cap', .int .i64 b, .int .i64 c], u.oneCell' = true := by
  intro u hu
  simp only [List.mem_cons, List.not_mem_nil, or_false] at hu
  rcases hu with rfl | rfl | rfl | rfl | rfl | rfl <;> rfl
/-- the roles at the loops' start: the two rows of classes, and what is older -/
def u1 (n : Nat) : Rl := fun q => if q = n ∨ q = n + 1 then 1 else if q < n then 4 else 0
theorem u1_hi {n q : Nat} (h : u1 n q ≠ 0) : q < n + 2 := by
  unfold u1 at h
  split at h
  · omega
  · split at h
    · omega
    · exact absurd rfl h
theorem u1_a (n : Nat) : u1 n n = 1 := by simp [u1]
theorem u1_b (n : Nat) : u1 n (n + 1) = 1 := by simp [u1]

set_option maxRecDepth 100000 in
set_option maxHeartbeats 8000000 in
theorem rsame_any (w : World) (av bv : Value) (a b : List Nd) (i k : Int) (B : Bool) (hB : B = true ↔ SameT a b i k) (ha : NdT w av a) (hb : NdT w bv b) (hla : a.length ≤ 1048576) (hlb : b.length ≤ 1048576)
    (hka : ∀ n ∈ a, n.kids.length ≤ 1048576) (hpa : ∀ n ∈ a, n.path.length ≤ 1048576) (hkb : ∀ n ∈ b, n.kids.length ≤ 1048576) (hpb : ∀ n ∈ b, n.path.length ≤ 1048576) :
    Calls Tryz.prog 18 #[av, .int .i64 i, bv, .int .i64 k] w fun e w' => e = .returned (.bool B) ∧ Below w.heap.size w w' := by
  have HA := Lib.hid ha
  have HB := Lib.hid hb
  have HBB := Lib.hid hB
  obtain ⟨aa, acap, rfl, -⟩ := ha
  obtain ⟨ba, bcap, rfl, -⟩ := hb
  have hmk1 : ∀ w : World, (Instr.makeSlice 39 (.int .i64 (a.length : Nat)) (.int .i64 (a.length : Nat))).run Tryz.prog w = .ok (.slice (some ⟨w.heap.size, 0, none⟩) a.length a.length) (w.alloc (.cells (madeCells #[.int .i64 0] a.length) 3)) := fun w =>
    run_make_row' (P := Tryz.prog) 39 3 (.int .i64 0) 8 Tryz.underlying39 Tryz.infoInt rfl .i64 .i64 a.length (by omega) (by omega) w
  have hmk2 : ∀ w : World, (Instr.makeSlice 39 (.int .i64 (b.length : Nat)) (.int .i64 (b.length : Nat))).run Tryz.prog w = .ok (.slice (some ⟨w.heap.size, 0, none⟩) b.length b.length) (w.alloc (.cells (madeCells #[.int .i64 0] b.length) 3)) := fun w =>
    run_make_row' (P := Tryz.prog) 39 3 (.int .i64 0) 8 Tryz.underlying39 Tryz.infoInt rfl .i64 .i64 b.length (by omega) (by omega) w
  by_cases h1 : i < 0
  · have HF : RowKit.Hid (B = false) := by
      show _ = _
      cases hBv : B with
      | false => rfl
      | true => obtain ⟨x, y, hx, hy, _⟩ := (HBB.out.1 hBv).head; have := nodeAt_some hx; omega
    clear hmk1 hmk2 hB
    go_enter Tryz.func18, Tryz.ntmps18
    go_wp2_with fail
    go_ret
    exact ⟨by rw [HF.out]; rfl, Below.refl _ _⟩
  by_cases h2 : k < 0
  · have HF : RowKit.Hid (B = false) := by
      show _ = _
      cases hBv : B with
      | false => rfl
      | true => obtain ⟨x, y, hx, hy, _⟩ := (HBB.out.1 hBv).head; have := nodeAt_some hy; omega
    clear hmk1 hmk2 hB
    go_enter Tryz.func18, Tryz.ntmps18
    go_wp2_with fail
    go_ret
    exact ⟨by rw [HF.out]; rfl, Below.refl _ _⟩
  by_cases h3 : (a.length : Int) ≤ i
  · have HF : RowKit.Hid (B = false) := by
      show _ = _
      cases hBv : B with
      | false => rfl
      | true => obtain ⟨x, y, hx, hy, _⟩ := (HBB.out.1 hBv).head; have := nodeAt_some hx; omega
    clear hmk1 hmk2 hB
    go_enter Tryz.func18, Tryz.ntmps18
    go_wp2_with fail
    go_ret
    exact ⟨by rw [HF.out]; rfl, Below.refl _ _⟩
  by_cases h4 : (b.length : Int) ≤ k
  · have HF : RowKit.Hid (B = false) := by
      show _ = _
      cases hBv : B with
      | false => rfl
      | true => obtain ⟨x, y, hx, hy, _⟩ := (HBB.out.1 hBv).head; have := nodeAt_some hy; omega
    clear hmk1 hmk2 hB
    go_enter Tryz.func18, Tryz.ntmps18
    go_wp2_with fail
    go_ret
    exact ⟨by rw [HF.out]; rfl, Below.refl _ _⟩
  obtain ⟨iN, rfl⟩ : ∃ iN : Nat, i = iN := ⟨i.toNat, by omega⟩
  obtain ⟨kN, rfl⟩ : ∃ kN : Nat, k = kN := ⟨k.toNat, by omega⟩
  have HBR : RowKit.Hid (B = rsameP a b iN kN) := by
    show _ = _
    have := rsame_iff (a := a) (b := b) (i := iN) (k := kN) (by omega) (by omega)
    cases hb1 : B <;> cases hb2 : rsameP a b iN kN
    · rfl
    · have h5 := this.1 hb2; rw [← HBB.out, hb1] at h5; cases h5
    · have h5 := HBB.out.1 hb1; rw [← this, hb2] at h5; cases h5
    · rfl
  have q1 : decide ((iN : Int) < 0) = false := by simp
  have q2 : decide ((kN : Int) < 0) = false := by simp
  obtain ⟨w1, hw1⟩ : ∃ w1, w.alloc (.cells #[.int .i64 (iN : Nat)] 3) = w1 := ⟨_, rfl⟩
  have hb1 : Below w.heap.size w w1 := by rw [← hw1]; exact bl_al (Below.refl _ _) _
  have hr1 : Ints w1 (.slice (some ⟨w.heap.size, 0, none⟩) 1 1) [(iN : Int)] := by rw [← hw1]; exact ints_one w _ _ rfl
  have HX1 := Lib.hid (rbelow_any w1 _ _ a [(iN : Int)] (HA.out.below hb1) hr1 (by omega))
  have HB1 := Lib.hid hb1
  have HKA := Lib.hid hka
  have HPA := Lib.hid hpa
  have HKB := Lib.hid hkb
  have HPB := Lib.hid hpb
  clear hb1 hr1 hB hka hpa hkb hpb HBB
  go_enter Tryz.func18, Tryz.ntmps18
  go_wp2_with fail
  refine HX1.out.mono ?_
  rintro e w2 ⟨⟨xv, rfl, hx⟩, hb2⟩
  have HB2 := Lib.hid (HB1.out.trans (hb2.mono HB1.out.size))
  have HXV := Lib.hid hx
  clear hw1 hb2 hx HX1 HB1
  obtain ⟨w3, hw3⟩ : ∃ w3, w2.alloc (.cells #[.int .i64 (kN : Nat)] 3) = w3 := ⟨_, rfl⟩
  have hb3 : Below w.heap.size w w3 := by rw [← hw3]; exact bl_al HB2.out _
  have hr3 : Ints w3 (.slice (some ⟨w2.heap.size, 0, none⟩) 1 1) [(kN : Int)] := by rw [← hw3]; exact ints_one w2 _ _ rfl
  have HX3 := Lib.hid (HXV.out.below (w' := w3) (by rw [← hw3]; exact bl_al (Below.refl _ _) _))
  have HY1 := Lib.hid (rbelow_any w3 _ _ b [(kN : Int)] (HB.out.below hb3) hr3 (by omega))
  have HB3 := Lib.hid hb3
  clear hb3 hr3 HXV HB2
  go_wp2_with fail
  refine HY1.out.mono ?_
  rintro e w4 ⟨⟨yv, rfl, hy⟩, hb4⟩
  have HB4 := Lib.hid (HB3.out.trans (hb4.mono HB3.out.size))
  have HX4 := Lib.hid (HX3.out.below hb4)
  have HY4 := Lib.hid hy
  clear hw3 hb4 hy HX3 HY1 HB3
  obtain ⟨X, hX⟩ : ∃ X, belowP a [(iN : Int)] = X := ⟨_, rfl⟩
  obtain ⟨Y, hY⟩ : ∃ Y, belowP b [(kN : Int)] = Y := ⟨_, rfl⟩
  rw [hX] at HX4
  rw [hY] at HY4
  have HXX := Lib.hid hX
  have HYY := Lib.hid hY
  have hXl : X.length ≤ a.length := by rw [← hX]; exact filter_len _ _
  have hYl : Y.length ≤ b.length := by rw [← hY]; exact filter_len _ _
  clear hX hY
  obtain ⟨xa, xcap, hxf, -⟩ := id HX4.out
  obtain ⟨ya, ycap, hyf, -⟩ := id HY4.out
  rw [List.length_map] at hxf hyf
  subst hxf; subst hyf
  -- the two rows of classes
  obtain ⟨w5, hw5⟩ : ∃ w5, w4.alloc (.cells (madeCells #[.int .i64 0] a.length) 3) = w5 := ⟨_, rfl⟩
  obtain ⟨wZ, hwZ⟩ : ∃ wZ, w5.alloc (.cells (madeCells #[.int .i64 0] b.length) 3) = wZ := ⟨_, rfl⟩
  have h5s : w5.heap.size = w4.heap.size + 1 := by rw [← hw5]; simp
  have hZs : wZ.heap.size = w4.heap.size + 2 := by rw [← hwZ]; simp [h5s]
  have ho5 : OrS w5 w4.heap.size a.length c0 := by rw [← hw5]; exact World.rowIs_made w4 (.int .i64 0) a.length _
  have hoA : OrS wZ w4.heap.size a.length c0 := ho5.keep (by rw [← hwZ]; exact Below.heap_alloc _ _ _ (by omega))
  have hoB : OrS wZ (w4.heap.size + 1) b.length c0 := by rw [← hwZ, ← h5s]; exact World.rowIs_made w5 (.int .i64 0) b.length _
  have hbZ : Below w4.heap.size w4 wZ := by rw [← hwZ]; exact bl_al (by rw [← hw5]; exact bl_al (Below.refl _ _) _) _
  have HZ4 := Lib.hid hbZ
  have HOA := Lib.hid hoA
  have HOB := Lib.hid hoB
  have HA4 := Lib.hid (HA.out.below HB4.out)
  have HBB4 := Lib.hid (HB.out.below HB4.out)
  have hZl := Lib.hid hZs
  have hw4s := HB4.out.size
  clear ho5 hoA hoB hbZ hZs HA HB
  go_wp2_with fail
  clear hmk1 hmk2 hw5 hwZ q1 q2
  go_loopg [11, 12, 15] (X.length + 1) (fun g u v x wr => ∃ (t : Nat) (o : Nat → Int) (ents : List (Nd × Int)) (U : Rl) (xs : List Value) (wx : World), wx = wr ∧ x = .int .i64 (t : Nat) ∧ t + g = X.length + 1 ∧ t ≤ X.length ∧ classAll a (c0, []) (X.take t) = (o, ents) ∧ RS w4 wZ wr U u v ents xs ∧ OrS wr (w4.heap.size) a.length o ∧ U (w4.heap.size) = 1 ∧ OrS wr (w4.heap.size + 1) b.length c0 ∧ U (w4.heap.size + 1) = 1 ∧ Below w4.heap.size w4 wr)
  case atStart => exact ⟨0, c0, [], u1 w4.heap.size, [], _, rfl, rfl, by omega, Nat.zero_le _, rfl, RS.start _ HZ4.out (fun q hq => by have := u1_hi hq; have := hZl.out; omega), HOA.out, u1_a _, HOB.out, u1_b _, HZ4.out⟩
  case round =>
    clear HOA HOB
    obtain ⟨t, o, ents, U, xs, wx1, rfl, rfl, hg, ht, hcl, hrs, hor, hub, hox, hux, hbw⟩ := hrel
    have hel : ents.length ≤ 2097152 := by
      have := class_len (l := a) (X.take t) (c0, [])
      rw [hcl, List.length_take] at this
      simp only [List.length_nil] at this
      omega
    have HRS := Lib.hid hrs
    have HOR := Lib.hid hor
    have HOX := Lib.hid hox
    have HBW := Lib.hid hbw
    have HCL := Lib.hid hcl
    have HUB := Lib.hid hub
    have HUX := Lib.hid hux
    obtain ⟨la, lcap, hlf⟩ := row_form hrs.lrow
    obtain ⟨va, vcap, hvf⟩ := row_form hrs.crow
    subst hlf; subst hvf
    have hwz := hrs.size
    clear hrs hor hox hbw hcl hub hux
    by_cases hlt : t < X.length
    · obtain ⟨xj, hxj⟩ : ∃ xj, X[t]? = some xj := ⟨_, List.getElem?_eq_getElem hlt⟩
      have hxm : xj < a.length := (below_mem.1 (by rw [HXX.out]; exact List.mem_of_getElem? hxj)).1
      obtain ⟨xb, xo, hxa, hcx⟩ := ints_at HX4.out (i := t) (x := (xj : Int)) (by rw [List.getElem?_map, hxj]; rfl)
      subst hxa
      obtain ⟨nd, hnd⟩ : ∃ nd, a[xj]? = some nd := ⟨_, List.getElem?_eq_getElem hxm⟩
      obtain ⟨nb, no, nc, npv, nkv, hnv, hnp, hnk, hncl⟩ := HA4.out.one hnd
      simp only [Value.slice.injEq] at hnv
      obtain ⟨hn1, -, hn2⟩ := hnv
      subst hn1; subst hn2
      obtain ⟨npa, npc, rfl, -⟩ := id hnp
      obtain ⟨nka, nkc, rfl, -⟩ := id hnk
      obtain ⟨fu, rfl⟩ : ∃ fu, gk = fu + 1 := ⟨gk - 1, by omega⟩
      have hxbl : xb < w4.heap.size := World.block_lt_of_cell? w4 _ hcx
      have HCX := Lib.hid hcx
      have HNC := Lib.hid hncl
      have HNP := Lib.hid hnp
      have HXJ := Lib.hid hxj
      have HND := Lib.hid hnd
      have ex : wx1.cell? ⟨xb, xo + t, none⟩ = some (.int .i64 (xj : Nat)) := cell_later HBW.out hcx
      obtain ⟨c, hc⟩ : ∃ c, classP a xj o ents = c := ⟨_, rfl⟩
      have HCA := classed_any wx1.drew (.slice (some ⟨nb, no, none⟩) a.length acap) (.slice la ents.length lcap) (.slice va ents.length vcap) a xj o (w4.heap.size) ents (HA4.out.below (bl_dr HBW.out)) hxm (by exact HOR.out) (by exact HRS.out.nodes) (by exact HRS.out.classes) (by omega) HKA.out HPA.out (by omega)
      rw [hc] at HCA
      have HCA := Lib.hid HCA
      have HC := Lib.hid hc
      have hti : (t : Int) < (X.length : Int) := by omega
      have hxi : (xj : Int) < (a.length : Int) := by omega
      have g1 : wx1.frozen? ⟨w4.heap.size, xj, none⟩ = false := World.rowIs.frozen HOR.out xj
      have g2 := HOR.out.cell hxm
      have hBl := HOR.out.lt
      clear hcx hncl hnp hnk hxj hnd hc
      go_upto_region 11 with fail
      go_cut [15] (fun x wc => x = .int .i64 (t : Nat) ∧ Below w4.heap.size w4 wc ∧ (∀ q, q < wx1.heap.size → q ≠ w4.heap.size → wc.heap[q]? = wx1.heap[q]?) ∧ wx1.heap.size ≤ wc.heap.size ∧ OrS wc (w4.heap.size) a.length (setO o xj c))
      case first =>
        go_region_with (first | (go_at_call 36; refine HCA.out.mono ?_; rintro e wc2 ⟨rfl, hbc2⟩; have ex2 : wc2.cell? ⟨xb, xo + t, none⟩ = some (.int .i64 (xj : Nat)) := cell_later hbc2 ex; have g12 : wc2.frozen? ⟨w4.heap.size, xj, none⟩ = false := (World.frozen?_of_block (w := wx1.drew) (hbc2.block _ (by exact hBl))).trans g1; have g22 : wc2.cell? ⟨w4.heap.size, xj, none⟩ = some (.int .i64 (o xj)) := cell_later hbc2 g2; have HX2 := Lib.hid hbc2; clear hbc2))
        all_goals
          go_wp2_with fail
          go_meet
          exact ⟨rfl, ((bl_dr HBW.out).trans (HX2.out.mono HBW.out.size)).setCell (p := ⟨w4.heap.size, xj, none⟩) (Nat.le_refl _) _, fun q hq hne => (heap_setCell_other _ _ q _ hne).trans (HX2.out.block q hq), by have := HX2.out.size; simpa [World.setCell] using this, (HOR.out.keep (w' := wc2) (HX2.out.block _ hBl)).put c⟩
      case rest =>
        obtain ⟨hj, hb3, hk3, hs3, ho3⟩ := hcut
        subst hj
        obtain ⟨wy, hwy⟩ : ∃ wy, wy = wc := ⟨_, rfl⟩
        subst hwy
        have HRC := Lib.hid (RS.step HRS.out hb3 hs3 (fun q h0 h1 => hk3 q (HRS.out.hi q h0) (fun e => h1 (by rw [e]; exact HUB.out))))
        have hxl4 : w4.heap.size ≤ wZ.heap.size := by have := hZl.out; omega
        have hBz : w4.heap.size < wZ.heap.size := by have := hZl.out; omega
        have hBc : w4.heap.size < wy.heap.size := by omega
        have ex3 : wy.cell? ⟨xb, xo + t, none⟩ = some (.int .i64 (xj : Nat)) := cell_later hb3 HCX.out
        have oc : wy.cell? ⟨w4.heap.size, xj, none⟩ = some (.int .i64 c) := by have := ho3.cell hxm; simpa [setO] using this
        have m0 : wy.cell? ⟨nb, no + xj * 6, none⟩ = some (.int .i64 nd.kind) := cell_later hb3 (HNC.out 0 _ rfl _ rfl)
        have m1 : wy.cell? ⟨nb, no + xj * 6 + 1, none⟩ = some (str nd.text) := cell_later hb3 (HNC.out 1 _ rfl _ rfl)
        have m2 : wy.cell? ⟨nb, no + xj * 6 + 2, none⟩ = some (.slice npa nd.path.length npc) := cell_later hb3 (HNC.out 2 _ rfl _ rfl)
        have m3 : wy.cell? ⟨nb, no + xj * 6 + 3, none⟩ = some (.slice nka nd.kids.length nkc) := cell_later hb3 (HNC.out 3 _ rfl _ rfl)
        have m4 : wy.cell? ⟨nb, no + xj * 6 + 4, none⟩ = some (.int .i64 nd.line) := cell_later hb3 (HNC.out 4 _ rfl _ rfl)
        have m5 : wy.cell? ⟨nb, no + xj * 6 + 5, none⟩ = some (.int .i64 nd.col) := cell_later hb3 (HNC.out 5 _ rfl _ rfl)
        have ex3a := cell_al ex3
        have ex3b := fun o => cell_al (ex3a o)
        have oca := cell_al oc
        have ocb := fun o => cell_al (oca o)
        have m0a := cell_al m0
        have m0b := fun o => cell_al (m0a o)
        have m1a := cell_al m1
        have m1b := fun o => cell_al (m1a o)
        have m2a := cell_al m2
        have m2b := fun o => cell_al (m2a o)
        have m3a := cell_al m3
        have m3b := fun o => cell_al (m3a o)
        have m4a := cell_al m4
        have m4b := fun o => cell_al (m4a o)
        have m5a := cell_al m5
        have m5b := fun o => cell_al (m5a o)
        obtain ⟨i0, hq, hq0, hq1, hq2⟩ := info_parts Tryz.infoNode
        obtain ⟨j0, hj, hj0, hj1, hj2⟩ := info_parts Tryz.infoInt
        have HQ := Lib.hid (And.intro hq (And.intro hq0 (And.intro hq1 hq2)))
        have HJ := Lib.hid (And.intro hj (And.intro hj0 (And.intro hj1 hj2)))
        have HR1 := Lib.hid (fun o => HRC.out.lrow.alloc o)
        have HR2 := Lib.hid (fun o1 o2 => (HRC.out.lrow.alloc o1).alloc o2)
        have HLn : RowKit.Hid (∀ q, q < wZ.heap.size → (Value.slice la ents.length lcap).ownBlock ≠ some q) := fun q hq e => by have := (HRC.out.lrow.lt q e).1; omega
        have HB3 := Lib.hid hb3
        have HOX9 := Lib.hid (HOX.out.keep (w' := wy) (hk3 _ HOX.out.lt (by omega)))
        have HO3 := Lib.hid ho3
        have HK3 := Lib.hid hk3
        have hzc := HRC.out.size
        clear hq hq0 hq1 hq2 hj hj0 hj1 hj2 hb3 ho3 hk3 ex g1 g2
        go_upto_region 12 with fail
        go_cut [11, 12] (fun u v wx => ∃ gl capl gc capc, u = .slice (some ⟨gl, 0, none⟩) (ents.length + 1) capl ∧ v = .slice (some ⟨gc, 0, none⟩) (ents.length + 1) capc ∧ App wZ wy wx U ents.length xs ((ents.map (·.2)).map (Value.int .i64)) nd (.slice npa nd.path.length npc) (.slice nka nd.kids.length nkc) c gl capl gc capc)
        case first =>
          have hnbl : nb < w4.heap.size := World.block_lt_of_cell? w4 _ (HNC.out 0 _ rfl _ rfl)
          have HCn : RowKit.Hid (∀ q, q < wZ.heap.size → (Value.slice va ents.length vcap).ownBlock ≠ some q) := fun q hq e => by have := (HRC.out.crow.lt q e).1; omega
          have HKS : RowKit.Hid (∀ W : World, (∀ q, q < wy.heap.size → (Value.slice la ents.length lcap).ownBlock ≠ some q → (Value.slice va ents.length vcap).ownBlock ≠ some q → W.heap[q]? = wy.heap[q]?) → (W.cell? ⟨xb, xo + t, none⟩ = some (.int .i64 (xj : Nat)) ∧ W.cell? ⟨w4.heap.size, xj, none⟩ = some (.int .i64 c) ∧ W.cell? ⟨nb, no + xj * 6, none⟩ = some (.int .i64 nd.kind) ∧ W.cell? ⟨nb, no + xj * 6 + 1, none⟩ = some (str nd.text) ∧ W.cell? ⟨nb, no + xj * 6 + 2, none⟩ = some (.slice npa nd.path.length npc) ∧ W.cell? ⟨nb, no + xj * 6 + 3, none⟩ = some (.slice nka nd.kids.length nkc) ∧ W.cell? ⟨nb, no + xj * 6 + 4, none⟩ = some (.int .i64 nd.line) ∧ W.cell? ⟨nb, no + xj * 6 + 5, none⟩ = some (.int .i64 nd.col))) := fun W hW => by
            have k1 := fun q (h : q < wZ.heap.size) => hW q (by omega) (HLn.out q h) (HCn.out q h)
            have kx := fun o => World.cell?_of_block (w := wy) (w' := W) (a := ⟨xb, o, none⟩) (k1 xb (by omega))
            have kn := fun o => World.cell?_of_block (w := wy) (w' := W) (a := ⟨nb, o, none⟩) (k1 nb (by omega))
            have ka := fun o => World.cell?_of_block (w := wy) (w' := W) (a := ⟨w4.heap.size, o, none⟩) (k1 _ hBz)
            exact ⟨(kx _).trans ex3, (ka _).trans oc, (kn _).trans m0, (kn _).trans m1, (kn _).trans m2, (kn _).trans m3, (kn _).trans m4, (kn _).trans m5⟩
          go_region_held3 (fun W => W.cell? ⟨xb, xo + t, none⟩ = some (.int .i64 (xj : Nat)) ∧ W.cell? ⟨w4.heap.size, xj, none⟩ = some (.int .i64 c) ∧ W.cell? ⟨nb, no + xj * 6, none⟩ = some (.int .i64 nd.kind) ∧ W.cell? ⟨nb, no + xj * 6 + 1, none⟩ = some (str nd.text) ∧ W.cell? ⟨nb, no + xj * 6 + 2, none⟩ = some (.slice npa nd.path.length npc) ∧ W.cell? ⟨nb, no + xj * 6 + 3, none⟩ = some (.slice nka nd.kids.length nkc) ∧ W.cell? ⟨nb, no + xj * 6 + 4, none⟩ = some (.int .i64 nd.line) ∧ W.cell? ⟨nb, no + xj * 6 + 5, none⟩ = some (.int .i64 nd.col)) (first | exact HKS.out _ (fun q hq h1 h2 => rfl) | exact HKS.out _ (fun q hq h1 h2 => Below.heap_alloc wy _ q hq) | exact HKS.out _ (fun q hq h1 h2 => old2 wy _ _ q hq) | exact HKS.out _ (fun q hq h1 h2 => hKl q hq h1) | exact HKS.out _ (fun q hq h1 h2 => (Below.heap_alloc wl _ q (by omega)).trans (hKl q hq h1)) | exact HKS.out _ (fun q hq h1 h2 => (hgm.block q (by first | omega | (simp; omega)) (fun e => h2 e.symm)).trans (by first | exact hKl q hq h1 | exact (Below.heap_alloc wl _ q (by omega)).trans (hKl q hq h1)))) (first | (refine step_append_lies _ rfl (.tmp 70) (.tmp 78) 33 rfl wZ.heap.size 41 i0 (.agg #[.int .i64 0, .string ⟨#[]⟩, .slice none 0 0, .slice none 0 0, .int .i64 0, .int .i64 0]) 6 88 Tryz.underlying33 HQ.out.1 HQ.out.2.1 HQ.out.2.2.1 HQ.out.2.2.2 rfl (by decide) (.slice la ents.length lcap) ents.length xs (by simp [Act.eval, Act.put]) (by first | exact HR1.out _ | exact HR2.out _ _) ⟨wy.heap.size, 0, none⟩ 1 1 [.int .i64 nd.kind, str nd.text, .slice npa nd.path.length npc, .slice nka nd.kids.length nkc, .int .i64 nd.line, .int .i64 nd.col] (by simp [Act.eval, Act.put]) rfl (by first | exact World.news_of_block (heap_alloc_new wy _) | exact World.news_of_block (new21 wy _ _)) (one_nd2 _ _ _ _ _ _ _ _ _ _) (by decide) (by unfold maxLen; omega) (by omega) (by simp [World.drew]; omega) _ rfl ?_; intro gl capl wl hrl hgl hbl hll; have hKl : ∀ q, q < wy.heap.size → (Value.slice la ents.length lcap).ownBlock ≠ some q → wl.heap[q]? = wy.heap[q]? := fun q hq hne => (hgl.block q (by simp [World.drew]; omega) (fun e => hne e.symm)).trans (by first | exact Below.heap_alloc wy _ q hq | exact old2 wy _ _ q hq); have hsl : wy.heap.size + 1 ≤ wl.heap.size := (by have := hgl.size; simp [World.drew] at this; omega); have exl := (World.cell?_of_block (w := wy) (a := ⟨xb, xo + t, none⟩) (hKl xb (by omega) (HLn.out xb (by omega)))).trans ex3; have ocl := (World.cell?_of_block (w := wy) (a := ⟨w4.heap.size, xj, none⟩) (hKl (w4.heap.size) hBc (HLn.out _ hBz))).trans oc; have exla := cell_al exl; have ocla := cell_al ocl; have hcw := row_keep HRC.out.crow (w' := wl) (fun q e => hKl q (HRC.out.hi q (by rw [HRC.out.cim q e]; decide)) (fun e2 => by have h1 := HRC.out.cim q e; have h2 := HRC.out.lim q e2; omega)); (first | (have hB1 : wl.heap[wy.heap.size + 1]? = some (.cells #[.int .i64 c] 3 (0, 0)) := (hgl.block _ (by simp [World.drew]; try omega) (fun e => by have := HRC.out.hi _ (by rw [HRC.out.lim _ e.symm]; decide); omega)).trans (by exact heap_new2 wy _ _)) | skip); (first | (have hB0 : wl.heap[wy.heap.size]? = some (.cells #[.int .i64 c] 3 (0, 0)) := (hgl.block _ (by simp [World.drew]; try omega) (fun e => by have := HRC.out.hi _ (by rw [HRC.out.lim _ e.symm]; decide); omega)).trans (by exact new21 wy _ _)) | skip)) | (refine step_append_lies _ rfl (.tmp 70) (.tmp 78) 33 rfl wZ.heap.size 41 i0 (.agg #[.int .i64 0, .string ⟨#[]⟩, .slice none 0 0, .slice none 0 0, .int .i64 0, .int .i64 0]) 6 88 Tryz.underlying33 HQ.out.1 HQ.out.2.1 HQ.out.2.2.1 HQ.out.2.2.2 rfl (by decide) (.slice la ents.length lcap) ents.length xs (by simp [Act.eval, Act.put]) (by first | exact HR1.out _ | exact HR2.out _ _) ⟨wy.heap.size + 1, 0, none⟩ 1 1 [.int .i64 nd.kind, str nd.text, .slice npa nd.path.length npc, .slice nka nd.kids.length nkc, .int .i64 nd.line, .int .i64 nd.col] (by simp [Act.eval, Act.put]) rfl (by exact World.news_of_block (heap_new2 wy _ _)) (one_nd2 _ _ _ _ _ _ _ _ _ _) (by decide) (by unfold maxLen; omega) (by omega) (by simp [World.drew]; omega) _ rfl ?_; intro gl capl wl hrl hgl hbl hll; have hKl : ∀ q, q < wy.heap.size → (Value.slice la ents.length lcap).ownBlock ≠ some q → wl.heap[q]? = wy.heap[q]? := fun q hq hne => (hgl.block q (by simp [World.drew]; omega) (fun e => hne e.symm)).trans (by first | exact Below.heap_alloc wy _ q hq | exact old2 wy _ _ q hq); have hsl : wy.heap.size + 1 ≤ wl.heap.size := (by have := hgl.size; simp [World.drew] at this; omega); have exl := (World.cell?_of_block (w := wy) (a := ⟨xb, xo + t, none⟩) (hKl xb (by omega) (HLn.out xb (by omega)))).trans ex3; have ocl := (World.cell?_of_block (w := wy) (a := ⟨w4.heap.size, xj, none⟩) (hKl (w4.heap.size) hBc (HLn.out _ hBz))).trans oc; have exla := cell_al exl; have ocla := cell_al ocl; have hcw := row_keep HRC.out.crow (w' := wl) (fun q e => hKl q (HRC.out.hi q (by rw [HRC.out.cim q e]; decide)) (fun e2 => by have h1 := HRC.out.cim q e; have h2 := HRC.out.lim q e2; omega)); (first | (have hB1 : wl.heap[wy.heap.size + 1]? = some (.cells #[.int .i64 c] 3 (0, 0)) := (hgl.block _ (by simp [World.drew]; try omega) (fun e => by have := HRC.out.hi _ (by rw [HRC.out.lim _ e.symm]; decide); omega)).trans (by exact heap_new2 wy _ _)) | skip); (first | (have hB0 : wl.heap[wy.heap.size]? = some (.cells #[.int .i64 c] 3 (0, 0)) := (hgl.block _ (by simp [World.drew]; try omega) (fun e => by have := HRC.out.hi _ (by rw [HRC.out.lim _ e.symm]; decide); omega)).trans (by exact new21 wy _ _)) | skip)) | (refine step_append_lies _ rfl (.tmp 80) (.tmp 88) 39 rfl wZ.heap.size 3 j0 (.int .i64 0) 1 8 Tryz.underlying39 HJ.out.1 HJ.out.2.1 HJ.out.2.2.1 HJ.out.2.2.2 rfl (by decide) (.slice va ents.length vcap) ents.length _ (by simp [Act.eval, Act.put]) (by exact hcw.alloc _) ⟨wl.heap.size, 0, none⟩ 1 1 [.int .i64 c] (by simp [Act.eval, Act.put]) rfl (by exact World.news_of_block (heap_alloc_new wl _)) (one_int _) (by decide) (by unfold maxLen; omega) (by omega) (by first | omega | (simp; omega)) _ rfl ?_; intro gc capc wm hrm hgm hbm hlm) | (refine step_append_lies _ rfl (.tmp 80) (.tmp 88) 39 rfl wZ.heap.size 3 j0 (.int .i64 0) 1 8 Tryz.underlying39 HJ.out.1 HJ.out.2.1 HJ.out.2.2.1 HJ.out.2.2.2 rfl (by decide) (.slice va ents.length vcap) ents.length _ (by simp [Act.eval, Act.put]) (by exact hcw) ⟨wy.heap.size + 1, 0, none⟩ 1 1 [.int .i64 c] (by simp [Act.eval, Act.put]) rfl (by exact World.news_of_block hB1) (one_int _) (by decide) (by unfold maxLen; omega) (by omega) (by first | omega | (simp; omega)) _ rfl ?_; intro gc capc wm hrm hgm hbm hlm) | (refine step_append_lies _ rfl (.tmp 80) (.tmp 88) 39 rfl wZ.heap.size 3 j0 (.int .i64 0) 1 8 Tryz.underlying39 HJ.out.1 HJ.out.2.1 HJ.out.2.2.1 HJ.out.2.2.2 rfl (by decide) (.slice va ents.length vcap) ents.length _ (by simp [Act.eval, Act.put]) (by exact hcw) ⟨wy.heap.size, 0, none⟩ 1 1 [.int .i64 c] (by simp [Act.eval, Act.put]) rfl (by exact World.news_of_block hB0) (one_int _) (by decide) (by unfold maxLen; omega) (by omega) (by first | omega | (simp; omega)) _ rfl ?_; intro gc capc wm hrm hgm hbm hlm))
          all_goals
            go_wp2_with fail
            go_meet
            exact ⟨_, _, _, _, rfl, rfl, app_fin HRC.out hKl (by omega) hrl (hbl.imp id (fun e => by simp [World.drew] at e; omega)) hll (fun q hq hne => (hgm.block q (by first | exact hq | (simp; omega)) (fun e => hne e.symm)).trans (by first | rfl | exact Below.heap_alloc wl _ q hq)) (by first | exact hgm.size | (have := hgm.size; simp at this; omega)) hrm (hbm.imp id (fun e => by first | omega | (simp at e; omega))) (hgm.os.trans hgl.os) (hgm.tape.trans hgl.tape) (hgm.output.trans hgl.output)⟩
        case rest =>
          obtain ⟨gl, capl, gc, capc, hu, hv, hap⟩ := hcut
          subst hu; subst hv
          have HAP := Lib.hid hap
          have hsx := hap.size
          have HBX := Lib.hid (hap.bel HRC.out hxl4)
          have HOX3 := Lib.hid (hap.ors HO3.out HUB.out)
          have ex4 : wc.cell? ⟨xb, xo + t, none⟩ = some (.int .i64 (xj : Nat)) := cell_later HBX.out HCX.out
          have HTU := Lib.hid (turned_any wc (.slice (some ⟨nb, no, none⟩) a.length acap) a xj (setO o xj c) (w4.heap.size) (HA4.out.below HBX.out) hxm HOX3.out (by omega) HKA.out)
          clear hap ex3 oc m0 m1 m2 m3 m4 m5 ex3a ex3b oca ocb m0a m0b m1a m1b m2a m2b m3a m3b m4a m4b m5a m5b
          go_wp2_with (first | (go_at_call 37; refine HTU.out.mono ?_; rintro e w6 ⟨⟨kv, rfl, hi6, hv6⟩, hb6⟩; have hm6 := HAP.out.more (w2 := w6) HRC.out hxl4 HNP.out hb6 hi6 (by exact hv6); obtain ⟨k6, kc6, rfl, -⟩ := id hi6; have c6 := hm6.1; have f6 := hm6.2.1; have HM6 := Lib.hid hm6.2.2; clear hm6 hi6 hv6 hb6))
          all_goals
            go_wp2_with fail
            go_roundg fu
            case measure => omega
            case rel =>
              obtain ⟨U', hrs', hu'⟩ := HM6.out.1
              have hub2 := HUB.out
              have hux2 := HUX.out
              exact ⟨t + 1, _, _, U', _, _, rfl, rfl, by omega, by omega, class_next HXJ.out HCL.out HND.out HC.out, hrs', HM6.out.2 _ _ _ HO3.out hub2, by rw [hu' _ HO3.out.lt (by omega) (by omega)]; exact hub2, HM6.out.2 _ _ _ HOX9.out hux2, by rw [hu' _ HOX9.out.lt (by omega) (by omega)]; exact hux2, hrs'.bel⟩
    · obtain rfl : t = X.length := by omega
      obtain ⟨E1, hE1⟩ : ∃ E1, E1 = ents := ⟨_, rfl⟩
      subst hE1
      obtain ⟨o1, ho1⟩ : ∃ o1, o1 = o := ⟨_, rfl⟩
      subst ho1
      obtain ⟨U1, hU1⟩ : ∃ U1, U1 = U := ⟨_, rfl⟩
      subst hU1
      obtain ⟨xs1, hxs1⟩ : ∃ xs1, xs1 = xs := ⟨_, rfl⟩
      subst hxs1
      have HS1 : RowKit.Hid (classAll a (c0, []) X = (o1, E1)) := by
        have := HCL.out
        rwa [List.take_length] at this
      have HE1L : RowKit.Hid (E1.length = X.length) := by
        show _ = _
        have := class_len (l := a) X (c0, [])
        rw [HS1.out] at this
        simpa using this
      clear hlt hg ht hel HCL
      go_wp2_with fail
      go_loopg [11, 12, 16] (Y.length + 1) (fun g u v x wr => ∃ (t : Nat) (o : Nat → Int) (ents : List (Nd × Int)) (U : Rl) (xs : List Value) (wx : World), wx = wr ∧ x = .int .i64 (t : Nat) ∧ t + g = Y.length + 1 ∧ t ≤ Y.length ∧ classAll b (c0, E1) (Y.take t) = (o, ents) ∧ RS w4 wZ wr U u v ents xs ∧ OrS wr (w4.heap.size + 1) b.length o ∧ U (w4.heap.size + 1) = 1 ∧ OrS wr (w4.heap.size) a.length o1 ∧ U (w4.heap.size) = 1 ∧ Below w4.heap.size w4 wr)
      case atStart => exact ⟨0, c0, E1, U1, xs1, _, rfl, rfl, by omega, Nat.zero_le _, rfl, HRS.out, HOX.out, HUX.out, HOR.out, HUB.out, HBW.out⟩
      case round =>
        clear HRS HOR HOX HBW HUB HUX
        obtain ⟨t, o, ents, U, xs, wx1, rfl, rfl, hg, ht, hcl, hrs, hor, hub, hox, hux, hbw⟩ := hrel
        have hel : ents.length ≤ 2097152 := by
          have := class_len (l := b) (Y.take t) (c0, E1)
          rw [hcl, List.length_take] at this
          simp only [HE1L.out] at this
          omega
        have HRS := Lib.hid hrs
        have HOR := Lib.hid hor
        have HOX := Lib.hid hox
        have HBW := Lib.hid hbw
        have HCL := Lib.hid hcl
        have HUB := Lib.hid hub
        have HUX := Lib.hid hux
        obtain ⟨la, lcap, hlf⟩ := row_form hrs.lrow
        obtain ⟨va, vcap, hvf⟩ := row_form hrs.crow
        subst hlf; subst hvf
        have hwz := hrs.size
        clear hrs hor hox hbw hcl hub hux
        by_cases hlt : t < Y.length
        · obtain ⟨xj, hxj⟩ : ∃ xj, Y[t]? = some xj := ⟨_, List.getElem?_eq_getElem hlt⟩
          have hxm : xj < b.length := (below_mem.1 (by rw [HYY.out]; exact List.mem_of_getElem? hxj)).1
          obtain ⟨xb, xo, hxa, hcx⟩ := ints_at HY4.out (i := t) (x := (xj : Int)) (by rw [List.getElem?_map, hxj]; rfl)
          subst hxa
          obtain ⟨nd, hnd⟩ : ∃ nd, b[xj]? = some nd := ⟨_, List.getElem?_eq_getElem hxm⟩
          obtain ⟨nb, no, nc, npv, nkv, hnv, hnp, hnk, hncl⟩ := HBB4.out.one hnd
          simp only [Value.slice.injEq] at hnv
          obtain ⟨hn1, -, hn2⟩ := hnv
          subst hn1; subst hn2
          obtain ⟨npa, npc, rfl, -⟩ := id hnp
          obtain ⟨nka, nkc, rfl, -⟩ := id hnk
          obtain ⟨fu, rfl⟩ : ∃ fu, gk = fu + 1 := ⟨gk - 1, by omega⟩
          have hxbl : xb < w4.heap.size := World.block_lt_of_cell? w4 _ hcx
          have HCX := Lib.hid hcx
          have HNC := Lib.hid hncl
          have HNP := Lib.hid hnp
          have HXJ := Lib.hid hxj
          have HND := Lib.hid hnd
          have ex : wx1.cell? ⟨xb, xo + t, none⟩ = some (.int .i64 (xj : Nat)) := cell_later HBW.out hcx
          obtain ⟨c, hc⟩ : ∃ c, classP b xj o ents = c := ⟨_, rfl⟩
          have HCA := classed_any wx1.drew (.slice (some ⟨nb, no, none⟩) b.length bcap) (.slice la ents.length lcap) (.slice va ents.length vcap) b xj o (w4.heap.size + 1) ents (HBB4.out.below (bl_dr HBW.out)) hxm (by exact HOR.out) (by exact HRS.out.nodes) (by exact HRS.out.classes) (by omega) HKB.out HPB.out (by omega)
          rw [hc] at HCA
          have HCA := Lib.hid HCA
          have HC := Lib.hid hc
          have hti : (t : Int) < (Y.length : Int) := by omega
          have hxi : (xj : Int) < (b.length : Int) := by omega
          have g1 : wx1.frozen? ⟨w4.heap.size + 1, xj, none⟩ = false := World.rowIs.frozen HOR.out xj
          have g2 := HOR.out.cell hxm
          have hBl := HOR.out.lt
          clear hcx hncl hnp hnk hxj hnd hc
          go_upto_region 17 with fail
          go_cut [16] (fun x wc => x = .int .i64 (t : Nat) ∧ Below w4.heap.size w4 wc ∧ (∀ q, q < wx1.heap.size → q ≠ w4.heap.size + 1 → wc.heap[q]? = wx1.heap[q]?) ∧ wx1.heap.size ≤ wc.heap.size ∧ OrS wc (w4.heap.size + 1) b.length (setO o xj c))
          case first =>
            go_region_with (first | (go_at_call 36; refine HCA.out.mono ?_; rintro e wc2 ⟨rfl, hbc2⟩; have ex2 : wc2.cell? ⟨xb, xo + t, none⟩ = some (.int .i64 (xj : Nat)) := cell_later hbc2 ex; have g12 : wc2.frozen? ⟨w4.heap.size + 1, xj, none⟩ = false := (World.frozen?_of_block (w := wx1.drew) (hbc2.block _ (by exact hBl))).trans g1; have g22 : wc2.cell? ⟨w4.heap.size + 1, xj, none⟩ = some (.int .i64 (o xj)) := cell_later hbc2 g2; have HX2 := Lib.hid hbc2; clear hbc2))
            all_goals
              go_wp2_with fail
              go_meet
              exact ⟨rfl, ((bl_dr HBW.out).trans (HX2.out.mono HBW.out.size)).setCell (p := ⟨w4.heap.size + 1, xj, none⟩) (Nat.le_succ _) _, fun q hq hne => (heap_setCell_other _ _ q _ hne).trans (HX2.out.block q hq), by have := HX2.out.size; simpa [World.setCell] using this, (HOR.out.keep (w' := wc2) (HX2.out.block _ hBl)).put c⟩
          case rest =>
            obtain ⟨hj, hb3, hk3, hs3, ho3⟩ := hcut
            subst hj
            obtain ⟨wy, hwy⟩ : ∃ wy, wy = wc := ⟨_, rfl⟩
            subst hwy
            have HRC := Lib.hid (RS.step HRS.out hb3 hs3 (fun q h0 h1 => hk3 q (HRS.out.hi q h0) (fun e => h1 (by rw [e]; exact HUB.out))))
            have hxl4 : w4.heap.size ≤ wZ.heap.size := by have := hZl.out; omega
            have hBz : w4.heap.size + 1 < wZ.heap.size := by have := hZl.out; omega
            have hBc : w4.heap.size + 1 < wy.heap.size := by omega
            have ex3 : wy.cell? ⟨xb, xo + t, none⟩ = some (.int .i64 (xj : Nat)) := cell_later hb3 HCX.out
            have oc : wy.cell? ⟨w4.heap.size + 1, xj, none⟩ = some (.int .i64 c) := by have := ho3.cell hxm; simpa [setO] using this
            have m0 : wy.cell? ⟨nb, no + xj * 6, none⟩ = some (.int .i64 nd.kind) := cell_later hb3 (HNC.out 0 _ rfl _ rfl)
            have m1 : wy.cell? ⟨nb, no + xj * 6 + 1, none⟩ = some (str nd.text) := cell_later hb3 (HNC.out 1 _ rfl _ rfl)
            have m2 : wy.cell? ⟨nb, no + xj * 6 + 2, none⟩ = some (.slice npa nd.path.length npc) := cell_later hb3 (HNC.out 2 _ rfl _ rfl)
            have m3 : wy.cell? ⟨nb, no + xj * 6 + 3, none⟩ = some (.slice nka nd.kids.length nkc) := cell_later hb3 (HNC.out 3 _ rfl _ rfl)
            have m4 : wy.cell? ⟨nb, no + xj * 6 + 4, none⟩ = some (.int .i64 nd.line) := cell_later hb3 (HNC.out 4 _ rfl _ rfl)
            have m5 : wy.cell? ⟨nb, no + xj * 6 + 5, none⟩ = some (.int .i64 nd.col) := cell_later hb3 (HNC.out 5 _ rfl _ rfl)
            have ex3a := cell_al ex3
            have ex3b := fun o => cell_al (ex3a o)
            have oca := cell_al oc
            have ocb := fun o => cell_al (oca o)
            have m0a := cell_al m0
            have m0b := fun o => cell_al (m0a o)
            have m1a := cell_al m1
            have m1b := fun o => cell_al (m1a o)
            have m2a := cell_al m2
            have m2b := fun o => cell_al (m2a o)
            have m3a := cell_al m3
            have m3b := fun o => cell_al (m3a o)
            have m4a := cell_al m4
            have m4b := fun o => cell_al (m4a o)
            have m5a := cell_al m5
            have m5b := fun o => cell_al (m5a o)
            obtain ⟨i0, hq, hq0, hq1, hq2⟩ := info_parts Tryz.infoNode
            obtain ⟨j0, hj, hj0, hj1, hj2⟩ := info_parts Tryz.infoInt
            have HQ := Lib.hid (And.intro hq (And.intro hq0 (And.intro hq1 hq2)))
            have HJ := Lib.hid (And.intro hj (And.intro hj0 (And.intro hj1 hj2)))
            have HR1 := Lib.hid (fun o => HRC.out.lrow.alloc o)
            have HR2 := Lib.hid (fun o1 o2 => (HRC.out.lrow.alloc o1).alloc o2)
            have HLn : RowKit.Hid (∀ q, q < wZ.heap.size → (Value.slice la ents.length lcap).ownBlock ≠ some q) := fun q hq e => by have := (HRC.out.lrow.lt q e).1; omega
            have HB3 := Lib.hid hb3
            have HOX9 := Lib.hid (HOX.out.keep (w' := wy) (hk3 _ HOX.out.lt (by omega)))
            have HO3 := Lib.hid ho3
            have HK3 := Lib.hid hk3
            have hzc := HRC.out.size
            clear hq hq0 hq1 hq2 hj hj0 hj1 hj2 hb3 ho3 hk3 ex g1 g2
            go_upto_region 18 with fail
            go_cut [11, 12] (fun u v wx => ∃ gl capl gc capc, u = .slice (some ⟨gl, 0, none⟩) (ents.length + 1) capl ∧ v = .slice (some ⟨gc, 0, none⟩) (ents.length + 1) capc ∧ App wZ wy wx U ents.length xs ((ents.map (·.2)).map (Value.int .i64)) nd (.slice npa nd.path.length npc) (.slice nka nd.kids.length nkc) c gl capl gc capc)
            case first =>
              have hnbl : nb < w4.heap.size := World.block_lt_of_cell? w4 _ (HNC.out 0 _ rfl _ rfl)
              have HCn : RowKit.Hid (∀ q, q < wZ.heap.size → (Value.slice va ents.length vcap).ownBlock ≠ some q) := fun q hq e => by have := (HRC.out.crow.lt q e).1; omega
              have HKS : RowKit.Hid (∀ W : World, (∀ q, q < wy.heap.size → (Value.slice la ents.length lcap).ownBlock ≠ some q → (Value.slice va ents.length vcap).ownBlock ≠ some q → W.heap[q]? = wy.heap[q]?) → (W.cell? ⟨xb, xo + t, none⟩ = some (.int .i64 (xj : Nat)) ∧ W.cell? ⟨w4.heap.size + 1, xj, none⟩ = some (.int .i64 c) ∧ W.cell? ⟨nb, no + xj * 6, none⟩ = some (.int .i64 nd.kind) ∧ W.cell? ⟨nb, no + xj * 6 + 1, none⟩ = some (str nd.text) ∧ W.cell? ⟨nb, no + xj * 6 + 2, none⟩ = some (.slice npa nd.path.length npc) ∧ W.cell? ⟨nb, no + xj * 6 + 3, none⟩ = some (.slice nka nd.kids.length nkc) ∧ W.cell? ⟨nb, no + xj * 6 + 4, none⟩ = some (.int .i64 nd.line) ∧ W.cell? ⟨nb, no + xj * 6 + 5, none⟩ = some (.int .i64 nd.col))) := fun W hW => by
                have k1 := fun q (h : q < wZ.heap.size) => hW q (by omega) (HLn.out q h) (HCn.out q h)
                have kx := fun o => World.cell?_of_block (w := wy) (w' := W) (a := ⟨xb, o, none⟩) (k1 xb (by omega))
                have kn := fun o => World.cell?_of_block (w := wy) (w' := W) (a := ⟨nb, o, none⟩) (k1 nb (by omega))
                have ka := fun o => World.cell?_of_block (w := wy) (w' := W) (a := ⟨w4.heap.size + 1, o, none⟩) (k1 _ hBz)
                exact ⟨(kx _).trans ex3, (ka _).trans oc, (kn _).trans m0, (kn _).trans m1, (kn _).trans m2, (kn _).trans m3, (kn _).trans m4, (kn _).trans m5⟩
              go_region_held3 (fun W => W.cell? ⟨xb, xo + t, none⟩ = some (.int .i64 (xj : Nat)) ∧ W.cell? ⟨w4.heap.size + 1, xj, none⟩ = some (.int .i64 c) ∧ W.cell? ⟨nb, no + xj * 6, none⟩ = some (.int .i64 nd.kind) ∧ W.cell? ⟨nb, no + xj * 6 + 1, none⟩ = some (str nd.text) ∧ W.cell? ⟨nb, no + xj * 6 + 2, none⟩ = some (.slice npa nd.path.length npc) ∧ W.cell? ⟨nb, no + xj * 6 + 3, none⟩ = some (.slice nka nd.kids.length nkc) ∧ W.cell? ⟨nb, no + xj * 6 + 4, none⟩ = some (.int .i64 nd.line) ∧ W.cell? ⟨nb, no + xj * 6 + 5, none⟩ = some (.int .i64 nd.col)) (first | exact HKS.out _ (fun q hq h1 h2 => rfl) | exact HKS.out _ (fun q hq h1 h2 => Below.heap_alloc wy _ q hq) | exact HKS.out _ (fun q hq h1 h2 => old2 wy _ _ q hq) | exact HKS.out _ (fun q hq h1 h2 => hKl q hq h1) | exact HKS.out _ (fun q hq h1 h2 => (Below.heap_alloc wl _ q (by omega)).trans (hKl q hq h1)) | exact HKS.out _ (fun q hq h1 h2 => (hgm.block q (by first | omega | (simp; omega)) (fun e => h2 e.symm)).trans (by first | exact hKl q hq h1 | exact (Below.heap_alloc wl _ q (by omega)).trans (hKl q hq h1)))) (first | (refine step_append_lies _ rfl (.tmp 124) (.tmp 132) 33 rfl wZ.heap.size 41 i0 (.agg #[.int .i64 0, .string ⟨#[]⟩, .slice none 0 0, .slice none 0 0, .int .i64 0, .int .i64 0]) 6 88 Tryz.underlying33 HQ.out.1 HQ.out.2.1 HQ.out.2.2.1 HQ.out.2.2.2 rfl (by decide) (.slice la ents.length lcap) ents.length xs (by simp [Act.eval, Act.put]) (by first | exact HR1.out _ | exact HR2.out _ _) ⟨wy.heap.size, 0, none⟩ 1 1 [.int .i64 nd.kind, str nd.text, .slice npa nd.path.length npc, .slice nka nd.kids.length nkc, .int .i64 nd.line, .int .i64 nd.col] (by simp [Act.eval, Act.put]) rfl (by first | exact World.news_of_block (heap_alloc_new wy _) | exact World.news_of_block (new21 wy _ _)) (one_nd2 _ _ _ _ _ _ _ _ _ _) (by decide) (by unfold maxLen; omega) (by omega) (by simp [World.drew]; omega) _ rfl ?_; intro gl capl wl hrl hgl hbl hll; have hKl : ∀ q, q < wy.heap.size → (Value.slice la ents.length lcap).ownBlock ≠ some q → wl.heap[q]? = wy.heap[q]? := fun q hq hne => (hgl.block q (by simp [World.drew]; omega) (fun e => hne e.symm)).trans (by first | exact Below.heap_alloc wy _ q hq | exact old2 wy _ _ q hq); have hsl : wy.heap.size + 1 ≤ wl.heap.size := (by have := hgl.size; simp [World.drew] at this; omega); have exl := (World.cell?_of_block (w := wy) (a := ⟨xb, xo + t, none⟩) (hKl xb (by omega) (HLn.out xb (by omega)))).trans ex3; have ocl := (World.cell?_of_block (w := wy) (a := ⟨w4.heap.size + 1, xj, none⟩) (hKl (w4.heap.size + 1) hBc (HLn.out _ hBz))).trans oc; have exla := cell_al exl; have ocla := cell_al ocl; have hcw := row_keep HRC.out.crow (w' := wl) (fun q e => hKl q (HRC.out.hi q (by rw [HRC.out.cim q e]; decide)) (fun e2 => by have h1 := HRC.out.cim q e; have h2 := HRC.out.lim q e2; omega)); (first | (have hB1 : wl.heap[wy.heap.size + 1]? = some (.cells #[.int .i64 c] 3 (0, 0)) := (hgl.block _ (by simp [World.drew]; try omega) (fun e => by have := HRC.out.hi _ (by rw [HRC.out.lim _ e.symm]; decide); omega)).trans (by exact heap_new2 wy _ _)) | skip); (first | (have hB0 : wl.heap[wy.heap.size]? = some (.cells #[.int .i64 c] 3 (0, 0)) := (hgl.block _ (by simp [World.drew]; try omega) (fun e => by have := HRC.out.hi _ (by rw [HRC.out.lim _ e.symm]; decide); omega)).trans (by exact new21 wy _ _)) | skip)) | (refine step_append_lies _ rfl (.tmp 124) (.tmp 132) 33 rfl wZ.heap.size 41 i0 (.agg #[.int .i64 0, .string ⟨#[]⟩, .slice none 0 0, .slice none 0 0, .int .i64 0, .int .i64 0]) 6 88 Tryz.underlying33 HQ.out.1 HQ.out.2.1 HQ.out.2.2.1 HQ.out.2.2.2 rfl (by decide) (.slice la ents.length lcap) ents.length xs (by simp [Act.eval, Act.put]) (by first | exact HR1.out _ | exact HR2.out _ _) ⟨wy.heap.size + 1, 0, none⟩ 1 1 [.int .i64 nd.kind, str nd.text, .slice npa nd.path.length npc, .slice nka nd.kids.length nkc, .int .i64 nd.line, .int .i64 nd.col] (by simp [Act.eval, Act.put]) rfl (by exact World.news_of_block (heap_new2 wy _ _)) (one_nd2 _ _ _ _ _ _ _ _ _ _) (by decide) (by unfold maxLen; omega) (by omega) (by simp [World.drew]; omega) _ rfl ?_; intro gl capl wl hrl hgl hbl hll; have hKl : ∀ q, q < wy.heap.size → (Value.slice la ents.length lcap).ownBlock ≠ some q → wl.heap[q]? = wy.heap[q]? := fun q hq hne => (hgl.block q (by simp [World.drew]; omega) (fun e => hne e.symm)).trans (by first | exact Below.heap_alloc wy _ q hq | exact old2 wy _ _ q hq); have hsl : wy.heap.size + 1 ≤ wl.heap.size := (by have := hgl.size; simp [World.drew] at this; omega); have exl := (World.cell?_of_block (w := wy) (a := ⟨xb, xo + t, none⟩) (hKl xb (by omega) (HLn.out xb (by omega)))).trans ex3; have ocl := (World.cell?_of_block (w := wy) (a := ⟨w4.heap.size + 1, xj, none⟩) (hKl (w4.heap.size + 1) hBc (HLn.out _ hBz))).trans oc; have exla := cell_al exl; have ocla := cell_al ocl; have hcw := row_keep HRC.out.crow (w' := wl) (fun q e => hKl q (HRC.out.hi q (by rw [HRC.out.cim q e]; decide)) (fun e2 => by have h1 := HRC.out.cim q e; have h2 := HRC.out.lim q e2; omega)); (first | (have hB1 : wl.heap[wy.heap.size + 1]? = some (.cells #[.int .i64 c] 3 (0, 0)) := (hgl.block _ (by simp [World.drew]; try omega) (fun e => by have := HRC.out.hi _ (by rw [HRC.out.lim _ e.symm]; decide); omega)).trans (by exact heap_new2 wy _ _)) | skip); (first | (have hB0 : wl.heap[wy.heap.size]? = some (.cells #[.int .i64 c] 3 (0, 0)) := (hgl.block _ (by simp [World.drew]; try omega) (fun e => by have := HRC.out.hi _ (by rw [HRC.out.lim _ e.symm]; decide); omega)).trans (by exact new21 wy _ _)) | skip)) | (refine step_append_lies _ rfl (.tmp 134) (.tmp 142) 39 rfl wZ.heap.size 3 j0 (.int .i64 0) 1 8 Tryz.underlying39 HJ.out.1 HJ.out.2.1 HJ.out.2.2.1 HJ.out.2.2.2 rfl (by decide) (.slice va ents.length vcap) ents.length _ (by simp [Act.eval, Act.put]) (by exact hcw.alloc _) ⟨wl.heap.size, 0, none⟩ 1 1 [.int .i64 c] (by simp [Act.eval, Act.put]) rfl (by exact World.news_of_block (heap_alloc_new wl _)) (one_int _) (by decide) (by unfold maxLen; omega) (by omega) (by first | omega | (simp; omega)) _ rfl ?_; intro gc capc wm hrm hgm hbm hlm) | (refine step_append_lies _ rfl (.tmp 134) (.tmp 142) 39 rfl wZ.heap.size 3 j0 (.int .i64 0) 1 8 Tryz.underlying39 HJ.out.1 HJ.out.2.1 HJ.out.2.2.1 HJ.out.2.2.2 rfl (by decide) (.slice va ents.length vcap) ents.length _ (by simp [Act.eval, Act.put]) (by exact hcw) ⟨wy.heap.size + 1, 0, none⟩ 1 1 [.int .i64 c] (by simp [Act.eval, Act.put]) rfl (by exact World.news_of_block hB1) (one_int _) (by decide) (by unfold maxLen; omega) (by omega) (by first | omega | (simp; omega)) _ rfl ?_; intro gc capc wm hrm hgm hbm hlm) | (refine step_append_lies _ rfl (.tmp 134) (.tmp 142) 39 rfl wZ.heap.size 3 j0 (.int .i64 0) 1 8 Tryz.underlying39 HJ.out.1 HJ.out.2.1 HJ.out.2.2.1 HJ.out.2.2.2 rfl (by decide) (.slice va ents.length vcap) ents.length _ (by simp [Act.eval, Act.put]) (by exact hcw) ⟨wy.heap.size, 0, none⟩ 1 1 [.int .i64 c] (by simp [Act.eval, Act.put]) rfl (by exact World.news_of_block hB0) (one_int _) (by decide) (by unfold maxLen; omega) (by omega) (by first | omega | (simp; omega)) _ rfl ?_; intro gc capc wm hrm hgm hbm hlm))
              all_goals
                go_wp2_with fail
                go_meet
                exact ⟨_, _, _, _, rfl, rfl, app_fin HRC.out hKl (by omega) hrl (hbl.imp id (fun e => by simp [World.drew] at e; omega)) hll (fun q hq hne => (hgm.block q (by first | exact hq | (simp; omega)) (fun e => hne e.symm)).trans (by first | rfl | exact Below.heap_alloc wl _ q hq)) (by first | exact hgm.size | (have := hgm.size; simp at this; omega)) hrm (hbm.imp id (fun e => by first | omega | (simp at e; omega))) (hgm.os.trans hgl.os) (hgm.tape.trans hgl.tape) (hgm.output.trans hgl.output)⟩
            case rest =>
              obtain ⟨gl, capl, gc, capc, hu, hv, hap⟩ := hcut
              subst hu; subst hv
              have HAP := Lib.hid hap
              have hsx := hap.size
              have HBX := Lib.hid (hap.bel HRC.out hxl4)
              have HOX3 := Lib.hid (hap.ors HO3.out HUB.out)
              have ex4 : wc.cell? ⟨xb, xo + t, none⟩ = some (.int .i64 (xj : Nat)) := cell_later HBX.out HCX.out
              have HTU := Lib.hid (turned_any wc (.slice (some ⟨nb, no, none⟩) b.length bcap) b xj (setO o xj c) (w4.heap.size + 1) (HBB4.out.below HBX.out) hxm HOX3.out (by omega) HKB.out)
              clear hap ex3 oc m0 m1 m2 m3 m4 m5 ex3a ex3b oca ocb m0a m0b m1a m1b m2a m2b m3a m3b m4a m4b m5a m5b
              go_wp2_with (first | (go_at_call 37; refine HTU.out.mono ?_; rintro e w6 ⟨⟨kv, rfl, hi6, hv6⟩, hb6⟩; have hm6 := HAP.out.more (w2 := w6) HRC.out hxl4 HNP.out hb6 hi6 (by exact hv6); obtain ⟨k6, kc6, rfl, -⟩ := id hi6; have c6 := hm6.1; have f6 := hm6.2.1; have HM6 := Lib.hid hm6.2.2; clear hm6 hi6 hv6 hb6))
              all_goals
                go_wp2_with fail
                go_roundg fu
                case measure => omega
                case rel =>
                  obtain ⟨U', hrs', hu'⟩ := HM6.out.1
                  have hub2 := HUB.out
                  have hux2 := HUX.out
                  exact ⟨t + 1, _, _, U', _, _, rfl, rfl, by omega, by omega, class_next HXJ.out HCL.out HND.out HC.out, hrs', HM6.out.2 _ _ _ HO3.out hub2, by rw [hu' _ HO3.out.lt (by omega) (by omega)]; exact hub2, HM6.out.2 _ _ _ HOX9.out hux2, by rw [hu' _ HOX9.out.lt (by omega) (by omega)]; exact hux2, hrs'.bel⟩
        · obtain rfl : t = Y.length := by omega
          have HS2 : RowKit.Hid (classAll b (c0, E1) Y = (o, ents)) := by
            have := HCL.out
            rwa [List.take_length] at this
          obtain ⟨p1, hp1⟩ : ∃ p, o1 iN = p := ⟨_, rfl⟩
          obtain ⟨p2, hp2⟩ : ∃ p, o kN = p := ⟨_, rfl⟩
          have HFB : RowKit.Hid (B = (decide (0 ≤ p1) && p1 == p2)) := by
            show _ = _
            rw [HBR.out]
            unfold rsameP
            simp only [HXX.out, HYY.out, HS1.out, HS2.out, hp1, hp2]
          have r1 := HOX.out.cell (i := iN) (by omega)
          have r2 := HOR.out.cell (i := kN) (by omega)
          rw [hp1] at r1
          rw [hp2] at r2
          clear hp1 hp2
          by_cases h0 : 0 ≤ p1
          · by_cases h5 : p1 = p2
            · have HF2 : RowKit.Hid (B = true) := by
                show _ = _
                rw [HFB.out, h5]; simp; omega
              subst h5
              clear hel
              go_upto_region 20 with fail
              go_quiet (fail)
              all_goals
                go_wp2_with fail
                go_ret
                exact ⟨by rw [HF2.out]; first | rfl | simp [h5], bl_drN (HB4.out.trans (HBW.out.mono HB4.out.size)) _⟩
            · have HF2 : RowKit.Hid (B = false) := by
                show _ = _
                rw [HFB.out]; simp [h5]
              clear hel
              go_upto_region 20 with fail
              go_quiet (fail)
              all_goals
                go_wp2_with fail
                go_ret
                exact ⟨by rw [HF2.out]; first | rfl | simp [h5], bl_drN (HB4.out.trans (HBW.out.mono HB4.out.size)) _⟩
          · have HF2 : RowKit.Hid (B = false) := by
              show _ = _
              rw [HFB.out]; simp; omega
            clear hel
            go_upto_region 20 with fail
            go_quiet (fail)
            all_goals
              go_wp2_with fail
              go_ret
              exact ⟨by rw [HF2.out]; rfl, bl_drN (HB4.out.trans (HBW.out.mono HB4.out.size)) _⟩
end Go.Proofs.YtbchkldhnjahaaaGreatDoor
