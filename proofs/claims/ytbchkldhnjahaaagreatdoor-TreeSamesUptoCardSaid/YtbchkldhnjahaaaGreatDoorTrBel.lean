/- Of which nodes some are made: the program's Below and the reference's answer alike. Conditions: those of each theorem. Of which nodes some are made: the reference's answer. Conditions: those of each theorem. -/
import Derived.Test.YtbchkldhnjahaaaGreatDoorTrNd
import Derived.Test.YtbchkldhnjahaaaGreatDoorTrP
import Derived.Deep.OwnRows
namespace Go.Proofs.YtbchkldhnjahaaaGreatDoor
open Go.RowKit Kiln
open Go.Proofs

theorem info81 : (Tryz.prog.info? 4).map (fun i => (i.zero, i.size, i.bytes)) = some (some (.bool false), 1, 1) := by kernel_rfl
/-- what is marked, in memory -/
def MetS (w : World) (B n : Nat) (m : Nat → Bool) : Prop := w.rowIs B 4 n fun j => .bool (m j)
theorem MetS.below {w w' : World} {B n : Nat} {m : Nat → Bool} (h : MetS w B n m) (hk : w'.heap[B]? = w.heap[B]?) : MetS w' B n m := h.of_block hk
theorem MetS.put {w : World} {B n k : Nat} {m m' : Nat → Bool} (h : MetS w B n m) (hm : ∀ j, m' j = if j = k then true else m j) : MetS (w.setCell ⟨B, k, none⟩ (.bool true)) B n m' :=
  (h.set k (.bool true)).congr fun j _ => by
    rw [hm j]
    by_cases hj : j = k <;> simp [hj]
theorem MetS.cell {w : World} {B n : Nat} {m : Nat → Bool} (h : MetS w B n m) {i : Nat} (hi : i < n) : w.cell? ⟨B, i, none⟩ = some (.bool (m i)) := World.rowIs.cell h hi

theorem ints_at {w : World} {a : Option Addr} {n cap : Nat} {l : List Int} (h : Ints w (.slice a n cap) l) {i : Nat} {x : Int} (hi : l[i]? = some x) : ∃ b off, a = some ⟨b, off, none⟩ ∧ w.cell? ⟨b, off + i, none⟩ = some (.int .i64 x) := by
  obtain ⟨a', cap', hv, -, -, hl⟩ := h
  simp only [Value.slice.injEq] at hv
  obtain ⟨rfl, -, -⟩ := hv
  obtain ⟨b, off, rfl, hx⟩ := hl (by rintro rfl; simp at hi)
  exact ⟨b, off, rfl, hx i x hi⟩

set_option maxRecDepth 100000 in
set_option maxHeartbeats 4000000 in
theorem below_any (w : World) (lv rv : Value) (l : List Nd) (roots : List Int) (hl : NdT w lv l) (hr : Ints w rv roots) (hlen : l.length ≤ 4398046511104) :
    Calls Tryz.prog 15 #[lv, rv] w fun e w' => (∃ v, e = .returned v ∧ Ints w' v ((belowP l roots).map Int.ofNat)) ∧ Below w.heap.size w w' := by
  have hmk := run_make_row' (P := Tryz.prog) 81 4 (.bool false) 1 Tryz.underlying81 info81 rfl .i64 .i64 l.length (by omega) (by omega)
  have HL := Lib.hid hl
  have HR := Lib.hid hr
  obtain ⟨la, lcap, rfl, -⟩ := hl
  obtain ⟨ra, rcap, rfl, hrc, hrm, -⟩ := hr
  unfold maxLen at hrm
  have HM0 := Lib.hid (show MetS (w.alloc (.cells (madeCells #[.bool false] l.length) 4)) w.heap.size l.length (fun _ => false) from World.rowIs_made w (.bool false) l.length _)
  have HB0 := Lib.hid (bl_al (Below.refl _ w) (.cells (madeCells #[.bool false] l.length) 4))
  go_enter Tryz.func15, Tryz.ntmps15
  go_wp2_with fail
  clear hmk
  go_loopg [19] (roots.length + 1) (fun g v wr => ∃ (t : Nat) (wx : World), wx = wr ∧ v = .int .i64 (t : Nat) ∧ t + g = roots.length + 1 ∧ t ≤ roots.length ∧ MetS wr w.heap.size l.length (markP l.length (roots.take t) fun _ => false) ∧ Below w.heap.size w wr)
  case atStart => exact ⟨0, _, rfl, rfl, by omega, Nat.zero_le _, by rw [List.take_zero, markP_nil]; exact HM0.out, HB0.out⟩
  case round =>
    clear HM0 HB0
    obtain ⟨t, wx1, rfl, rfl, hg, ht, hm, hb⟩ := hrel
    by_cases hlt : t < roots.length
    · obtain ⟨k, hk⟩ : ∃ k, roots[t]? = some k := ⟨_, List.getElem?_eq_getElem hlt⟩
      obtain ⟨rb, roff, rfl, hc⟩ := ints_at HR.out hk
      have e1 : wx1.cell? ⟨rb, roff + t, none⟩ = some (.int .i64 k) := cell_later hb hc
      have hti : (t : Int) < (roots.length : Int) := by omega
      obtain ⟨fu, rfl⟩ : ∃ fu, gk = fu + 1 := ⟨gk - 1, by omega⟩
      have HB := Lib.hid hb
      have HM := Lib.hid hm
      have HK := Lib.hid hk
      have hsz := hb.size
      clear hc hb hm hk
      by_cases h0 : 0 ≤ k
      · by_cases h1 : k < (l.length : Int)
        · obtain ⟨kn, rfl⟩ : ∃ kn : Nat, k = kn := ⟨k.toNat, by omega⟩
          have e2 := HM.out.cell (i := kn) (by omega)
          have f2 := World.rowIs.frozen HM.out kn
          go_wp2_with fail
          go_roundg fu
          case measure => omega
          case rel => exact ⟨t + 1, _, rfl, rfl, by omega, by omega, HM.out.put (fun j => markP_on _ _ _ _ _ HK.out (by omega) j), HB.out.setCell (Nat.le_refl _) _⟩
        · have HX := Lib.hid (markP_off l.length roots (fun _ => false) t k HK.out (by omega))
          go_wp2_with fail
          go_roundg fu
          case measure => omega
          case rel => exact ⟨t + 1, _, rfl, rfl, by omega, by omega, by rw [HX.out]; exact HM.out, HB.out⟩
      · have HX := Lib.hid (markP_off l.length roots (fun _ => false) t k HK.out (by omega))
        go_wp2_with fail
        go_roundg fu
        case measure => omega
        case rel => exact ⟨t + 1, _, rfl, rfl, by omega, by omega, by rw [HX.out]; exact HM.out, HB.out⟩
    · obtain rfl : t = roots.length := by omega
      rw [List.take_length] at hm
      have HM := Lib.hid hm
      have HB := Lib.hid hb
      clear hm hb hg
      go_wp2_with fail
      go_loopg [8] (l.length + 1) (fun g v wr => ∃ (n : Nat) (m : Nat → Bool) (z : Int) (wx : World), wx = wr ∧ v = .int .i64 z ∧ z = (n : Int) - 1 ∧ n + 1 = g ∧ n ≤ l.length ∧ MetS wr w.heap.size l.length m ∧ downP l n m = metP l roots ∧ Below w.heap.size w wr)
      case atStart => exact ⟨l.length, _, _, _, rfl, rfl, rfl, rfl, Nat.le_refl _, HM.out, rfl, HB.out⟩
      case round =>
        clear HM HB ht hlt
        obtain ⟨n, m, z, wx2, rfl, rfl, hz, hg, hn, hm, hd, hb⟩ := hrel
        have HB := Lib.hid hb
        have HM := Lib.hid hm
        have HD := Lib.hid hd
        have hsz := hb.size
        clear hb hm hd
        cases n with
        | zero =>
          obtain rfl : z = -1 := by omega
          clear hz hg hn
          obtain rfl : m = metP l roots := HD.out
          obtain ⟨j0, hj, hj0, hj1, hj2⟩ := info_parts Tryz.infoInt
          have HJ := Lib.hid (And.intro hj (And.intro hj0 (And.intro hj1 hj2)))
          clear hj hj0 hj1 hj2 HD
          obtain ⟨M, hM⟩ : ∃ M, metP l roots = M := ⟨_, rfl⟩
          rw [hM] at HM
          have HMM := Lib.hid hM
          clear hM
          go_wp2_with fail
          go_loopg [11, 70] (l.length + 1) (fun g o v wr => ∃ (t : Nat) (wx : World), wx = wr ∧ v = .int .i64 (t : Nat) ∧ t + g = l.length + 1 ∧ t ≤ l.length ∧ MetS wr w.heap.size l.length M ∧ LR (w.heap.size + 1) wr (fun _ => 0) o (((List.range t).filter M).map Int.ofNat) ∧ Below w.heap.size w wr ∧ w.heap.size + 1 ≤ wr.heap.size)
          case atStart => exact ⟨0, _, rfl, rfl, by omega, Nat.zero_le _, HM.out, LR.nil _ _ _, HB.out, by have := World.rowIs.lt HM.out; omega⟩
          case round =>
            clear HM HB
            obtain ⟨t, wx3, rfl, rfl, hg, ht, hm, hl, hb, hs1⟩ := hrel
            have HB := Lib.hid hb
            have HM := Lib.hid hm
            have HLR := Lib.hid hl
            have hsz := hb.size
            clear hb hm hl
            by_cases hlt : t < l.length
            · have e2 := HM.out.cell (i := t) hlt
              have hti : (t : Int) < (l.length : Int) := by omega
              obtain ⟨fu, rfl⟩ : ∃ fu, gk = fu + 1 := ⟨gk - 1, by omega⟩
              have hfl := filter_len M t
              have HF := Lib.hid (filter_snoc M t)
              cases hmt : M t with
              | false =>
                rw [hmt] at e2 HF
                clear hmt
                go_wp2_with fail
                go_roundg fu
                case measure => omega
                case rel => exact ⟨t + 1, _, rfl, rfl, by omega, by omega, HM.out, by rw [HF.out]; simpa using HLR.out, HB.out, hs1⟩
              | true =>
                rw [hmt] at e2 HF
                clear hmt
                go_wp2_with (first | (at_builtin; refine wpList_append_lies _ rfl (.tmp 76) (.tmp 78) 39 rfl (w.heap.size + 1) 3 j0 (.int .i64 0) 1 8 Tryz.underlying39 HJ.out.1 HJ.out.2.1 HJ.out.2.2.1 HJ.out.2.2.2 rfl (by decide) _ (((List.range t).filter M).map Int.ofNat).length _ rfl (HLR.out.1.alloc _) ⟨wx3.heap.size, 0, none⟩ 1 1 [.int .i64 t] rfl rfl (World.news_of_block (heap_alloc_new _ _)) (one_int _) (by decide) (by simp; unfold maxLen; omega) (by simp; omega) (by simp; omega) _ rfl ?_; intro g2 cap2 w7 hrow2 hgr2 hgb2 hgl2))
                have hm7 : MetS w7 w.heap.size l.length M := HM.out.below ((hgr2.block _ (by simp; omega) (fun e => by have := (HLR.out.lt _ e.symm).1; omega)).trans (Below.heap_alloc wx3 _ _ (by omega)))
                have hl7 : LR (w.heap.size + 1) w7 (fun _ => 0) (.slice (some ⟨g2, 0, none⟩) (((List.range t).filter M).length + 1) cap2) (((List.range (t + 1)).filter M).map Int.ofNat) := ⟨by rw [HF.out]; simpa using hrow2, fun _ _ => rfl⟩
                have hb7 := (HB.out.alloc hsz (.cells #[.int .i64 t] 3)).grown hgr2 (by simp; omega) (fun k e => by have := (HLR.out.lt k e).1; omega)
                have hs7 : w.heap.size + 1 ≤ w7.heap.size := by have := hgr2.size; simp at this; omega
                have HX := Lib.hid (And.intro hm7 (And.intro hl7 (And.intro hb7 hs7)))
                clear hm7 hl7 hb7 hs7 hrow2 hgr2 hgb2 hgl2
                go_wp2_with fail
                go_roundg fu
                case measure => omega
                case rel => exact ⟨t + 1, _, rfl, rfl, by omega, by omega, HX.out.1, by simpa using HX.out.2.1, HX.out.2.2.1, HX.out.2.2.2⟩
            · obtain rfl : t = l.length := by omega
              have HX : RowKit.Hid (belowP l roots = (List.range l.length).filter M) := by show _ = _; rw [← HMM.out]; rfl
              go_wp2_with fail
              go_ret
              exact ⟨⟨_, rfl, by rw [HX.out]; exact HLR.out.ints⟩, HB.out⟩
        | succ i =>
          obtain rfl : z = (i : Int) := by omega
          obtain ⟨fu, rfl⟩ : ∃ fu, gk = fu + 1 := ⟨gk - 1, by omega⟩
          have hi0 : (i : Int) < (l.length : Int) := by omega
          clear hz
          have e2 := HM.out.cell (i := i) (by omega)
          cases hmi : m i with
          | false =>
            rw [hmi] at e2
            have HX := Lib.hid (show downP l i m = metP l roots by rw [← HD.out]; simp [downP, hmi])
            clear hmi
            go_wp2_with fail
            go_roundg fu
            case measure => omega
            case rel => exact ⟨i, m, _, _, rfl, rfl, by omega, by omega, by omega, HM.out, HX.out, HB.out⟩
          | true =>
            rw [hmi] at e2
            obtain ⟨nd, hnd⟩ : ∃ nd, l[i]? = some nd := ⟨_, List.getElem?_eq_getElem (by omega)⟩
            have HX := Lib.hid (show downP l i (markP i nd.kids m) = metP l roots by rw [← HD.out]; simp [downP, hmi, kidsOf, hnd])
            clear hmi HD
            obtain ⟨bn, offn, capn, pv, kv, hv, -, hkv, hc⟩ := HL.out.one hnd
            simp only [Value.slice.injEq] at hv
            obtain ⟨rfl, -, rfl⟩ := hv
            obtain ⟨ka, kcap, rfl, hkc, hkm, -⟩ := id hkv
            unfold maxLen at hkm
            have HKV := Lib.hid hkv
            have e3 : wx2.cell? ⟨bn, offn + i * 6 + 3, none⟩ = some (.slice ka nd.kids.length kcap) := cell_later HB.out (hc 3 _ rfl _ rfl)
            clear hc hkv hnd
            go_wp2_with fail
            go_loopg [53] (nd.kids.length + 1) (fun g v wr => ∃ (t : Nat) (wx : World), wx = wr ∧ v = .int .i64 (t : Nat) ∧ t + g = nd.kids.length + 1 ∧ t ≤ nd.kids.length ∧ MetS wr w.heap.size l.length (markP i (nd.kids.take t) m) ∧ Below w.heap.size w wr)
            case atStart => exact ⟨0, _, rfl, rfl, by omega, Nat.zero_le _, by rw [List.take_zero, markP_nil]; exact HM.out, HB.out⟩
            case round =>
              clear HM HB e2 e3
              obtain ⟨t, wx3, rfl, rfl, hg, ht, hm, hb⟩ := hrel
              have HB := Lib.hid hb
              have HM := Lib.hid hm
              have hsz := hb.size
              by_cases hlt : t < nd.kids.length
              · obtain ⟨k, hk⟩ : ∃ k, nd.kids[t]? = some k := ⟨_, List.getElem?_eq_getElem hlt⟩
                obtain ⟨rb, roff, rfl, hc⟩ := ints_at HKV.out hk
                have e1 : wx3.cell? ⟨rb, roff + t, none⟩ = some (.int .i64 k) := cell_later hb hc
                have hti : (t : Int) < (nd.kids.length : Int) := by omega
                obtain ⟨fv, rfl⟩ : ∃ fv, gk = fv + 1 := ⟨gk - 1, by omega⟩
                have HK := Lib.hid hk
                clear hc hb hm hk
                by_cases h0 : 0 ≤ k
                · by_cases h1 : k < (i : Int)
                  · obtain ⟨kn, rfl⟩ : ∃ kn : Nat, k = kn := ⟨k.toNat, by omega⟩
                    have e2 := HM.out.cell (i := kn) (by omega)
                    have f2 := World.rowIs.frozen HM.out kn
                    go_wp2_with fail
                    go_roundg fv
                    case measure => omega
                    case rel => exact ⟨t + 1, _, rfl, rfl, by omega, by omega, HM.out.put (fun j => markP_on _ _ _ _ _ HK.out (by omega) j), HB.out.setCell (Nat.le_refl _) _⟩
                  · have HX := Lib.hid (markP_off i nd.kids m t k HK.out (by omega))
                    go_wp2_with fail
                    go_roundg fv
                    case measure => omega
                    case rel => exact ⟨t + 1, _, rfl, rfl, by omega, by omega, by rw [HX.out]; exact HM.out, HB.out⟩
                · have HX := Lib.hid (markP_off i nd.kids m t k HK.out (by omega))
                  go_wp2_with fail
                  go_roundg fv
                  case measure => omega
                  case rel => exact ⟨t + 1, _, rfl, rfl, by omega, by omega, by rw [HX.out]; exact HM.out, HB.out⟩
              · obtain rfl : t = nd.kids.length := by omega
                rw [List.take_length] at hm
                have HM := Lib.hid hm
                clear hm hb hg
                go_wp2_with fail
                go_roundg fu
                case measure => omega
                case rel => exact ⟨i, _, _, _, rfl, rfl, by omega, by omega, by omega, HM.out, HX.out, HB.out⟩
end Go.Proofs.YtbchkldhnjahaaaGreatDoor

namespace Go.Proofs.YtbchkldhnjahaaaGreatDoor
open Go.RowKit Kiln
open Go.Proofs

theorem markP_self (i : Nat) (ks : List Int) (m : Nat → Bool) : markP i ks m i = m i := by simp [markP]

set_option maxRecDepth 100000 in
set_option maxHeartbeats 4000000 in
theorem rbelow_any (w : World) (lv rv : Value) (l : List Nd) (roots : List Int) (hl : NdT w lv l) (hr : Ints w rv roots) (hlen : l.length ≤ 4398046511104) :
    Calls Tryz.prog 16 #[lv, rv] w fun e w' => (∃ v, e = .returned v ∧ Ints w' v ((belowP l roots).map Int.ofNat)) ∧ Below w.heap.size w w' := by
  have hmk := run_make_row' (P := Tryz.prog) 81 4 (.bool false) 1 Tryz.underlying81 info81 rfl .i64 .i64 l.length (by omega) (by omega)
  have HL := Lib.hid hl
  have HR := Lib.hid hr
  obtain ⟨la, lcap, rfl, -⟩ := hl
  obtain ⟨ra, rcap, rfl, hrc, hrm, -⟩ := hr
  unfold maxLen at hrm
  have HM0 := Lib.hid (show MetS (w.alloc (.cells (madeCells #[.bool false] l.length) 4)) w.heap.size l.length (fun _ => false) from World.rowIs_made w (.bool false) l.length _)
  have HB0 := Lib.hid (bl_al (Below.refl _ w) (.cells (madeCells #[.bool false] l.length) 4))
  go_enter Tryz.func16, Tryz.ntmps16
  go_wp2_with fail
  clear hmk
  go_loopg [6] (roots.length + 1) (fun g v wr => ∃ (t : Nat) (wx : World), wx = wr ∧ v = .int .i64 (t : Nat) ∧ t + g = roots.length + 1 ∧ t ≤ roots.length ∧ MetS wr w.heap.size l.length (markP l.length (roots.take t) fun _ => false) ∧ Below w.heap.size w wr)
  case atStart => exact ⟨0, _, rfl, rfl, by omega, Nat.zero_le _, by rw [List.take_zero, markP_nil]; exact HM0.out, HB0.out⟩
  case round =>
    clear HM0 HB0
    obtain ⟨t, wx1, rfl, rfl, hg, ht, hm, hb⟩ := hrel
    by_cases hlt : t < roots.length
    · obtain ⟨k, hk⟩ : ∃ k, roots[t]? = some k := ⟨_, List.getElem?_eq_getElem hlt⟩
      obtain ⟨rb, roff, rfl, hc⟩ := ints_at HR.out hk
      have e1 : wx1.cell? ⟨rb, roff + t, none⟩ = some (.int .i64 k) := cell_later hb hc
      have hti : (t : Int) < (roots.length : Int) := by omega
      obtain ⟨fu, rfl⟩ : ∃ fu, gk = fu + 1 := ⟨gk - 1, by omega⟩
      have HB := Lib.hid hb
      have HM := Lib.hid hm
      have HK := Lib.hid hk
      have hsz := hb.size
      clear hc hb hm hk
      by_cases h0 : 0 ≤ k
      · by_cases h1 : k < (l.length : Int)
        · obtain ⟨kn, rfl⟩ : ∃ kn : Nat, k = kn := ⟨k.toNat, by omega⟩
          have e2 := HM.out.cell (i := kn) (by omega)
          have f2 := World.rowIs.frozen HM.out kn
          go_wp2_with fail
          go_roundg fu
          case measure => omega
          case rel => exact ⟨t + 1, _, rfl, rfl, by omega, by omega, HM.out.put (fun j => markP_on _ _ _ _ _ HK.out (by omega) j), HB.out.setCell (Nat.le_refl _) _⟩
        · have HX := Lib.hid (markP_off l.length roots (fun _ => false) t k HK.out (by omega))
          go_wp2_with fail
          go_roundg fu
          case measure => omega
          case rel => exact ⟨t + 1, _, rfl, rfl, by omega, by omega, by rw [HX.out]; exact HM.out, HB.out⟩
      · have HX := Lib.hid (markP_off l.length roots (fun _ => false) t k HK.out (by omega))
        go_wp2_with fail
        go_roundg fu
        case measure => omega
        case rel => exact ⟨t + 1, _, rfl, rfl, by omega, by omega, by rw [HX.out]; exact HM.out, HB.out⟩
    · obtain rfl : t = roots.length := by omega
      rw [List.take_length] at hm
      have HM := Lib.hid hm
      have HB := Lib.hid hb
      clear hm hb hg
      go_wp2_with fail
      go_loopg [7] (l.length + 1) (fun g v wr => ∃ (n : Nat) (m : Nat → Bool) (z : Int) (wx : World), wx = wr ∧ v = .int .i64 z ∧ z = (n : Int) - 1 ∧ n + 1 = g ∧ n ≤ l.length ∧ MetS wr w.heap.size l.length m ∧ downP l n m = metP l roots ∧ Below w.heap.size w wr)
      case atStart => exact ⟨l.length, _, _, _, rfl, rfl, rfl, rfl, Nat.le_refl _, HM.out, rfl, HB.out⟩
      case round =>
        clear HM HB ht hlt
        obtain ⟨n, m, z, wx2, rfl, rfl, hz, hg, hn, hm, hd, hb⟩ := hrel
        have HB := Lib.hid hb
        have HM := Lib.hid hm
        have HD := Lib.hid hd
        have hsz := hb.size
        clear hb hm hd
        cases n with
        | zero =>
          obtain rfl : z = -1 := by omega
          clear hz hg hn
          obtain rfl : m = metP l roots := HD.out
          obtain ⟨j0, hj, hj0, hj1, hj2⟩ := info_parts Tryz.infoInt
          have HJ := Lib.hid (And.intro hj (And.intro hj0 (And.intro hj1 hj2)))
          clear hj hj0 hj1 hj2 HD
          obtain ⟨M, hM⟩ : ∃ M, metP l roots = M := ⟨_, rfl⟩
          rw [hM] at HM
          have HMM := Lib.hid hM
          clear hM
          go_wp2_with fail
          go_loopg [10, 11] (l.length + 1) (fun g o v wr => ∃ (t : Nat) (wx : World), wx = wr ∧ v = .int .i64 (t : Nat) ∧ t + g = l.length + 1 ∧ t ≤ l.length ∧ MetS wr w.heap.size l.length M ∧ LR (w.heap.size + 1) wr (fun _ => 0) o (((List.range t).filter M).map Int.ofNat) ∧ Below w.heap.size w wr ∧ w.heap.size + 1 ≤ wr.heap.size)
          case atStart => exact ⟨0, _, rfl, rfl, by omega, Nat.zero_le _, HM.out, LR.nil _ _ _, HB.out, by have := World.rowIs.lt HM.out; omega⟩
          case round =>
            clear HM HB
            obtain ⟨t, wx3, rfl, rfl, hg, ht, hm, hl, hb, hs1⟩ := hrel
            have HB := Lib.hid hb
            have HM := Lib.hid hm
            have HLR := Lib.hid hl
            have hsz := hb.size
            clear hb hm hl
            by_cases hlt : t < l.length
            · have e2 := HM.out.cell (i := t) hlt
              have hti : (t : Int) < (l.length : Int) := by omega
              obtain ⟨fu, rfl⟩ : ∃ fu, gk = fu + 1 := ⟨gk - 1, by omega⟩
              have hfl := filter_len M t
              have HF := Lib.hid (filter_snoc M t)
              cases hmt : M t with
              | false =>
                rw [hmt] at e2 HF
                clear hmt
                go_wp2_with fail
                go_roundg fu
                case measure => omega
                case rel => exact ⟨t + 1, _, rfl, rfl, by omega, by omega, HM.out, by rw [HF.out]; simpa using HLR.out, HB.out, hs1⟩
              | true =>
                rw [hmt] at e2 HF
                clear hmt
                go_wp2_with (first | (at_builtin; refine wpList_append_lies _ rfl (.tmp 92) (.tmp 94) 39 rfl (w.heap.size + 1) 3 j0 (.int .i64 0) 1 8 Tryz.underlying39 HJ.out.1 HJ.out.2.1 HJ.out.2.2.1 HJ.out.2.2.2 rfl (by decide) _ (((List.range t).filter M).map Int.ofNat).length _ rfl (HLR.out.1.alloc _) ⟨wx3.heap.size, 0, none⟩ 1 1 [.int .i64 t] rfl rfl (World.news_of_block (heap_alloc_new _ _)) (one_int _) (by decide) (by simp; unfold maxLen; omega) (by simp; omega) (by simp; omega) _ rfl ?_; intro g2 cap2 w7 hrow2 hgr2 hgb2 hgl2))
                have hm7 : MetS w7 w.heap.size l.length M := HM.out.below ((hgr2.block _ (by simp; omega) (fun e => by have := (HLR.out.lt _ e.symm).1; omega)).trans (Below.heap_alloc wx3 _ _ (by omega)))
                have hl7 : LR (w.heap.size + 1) w7 (fun _ => 0) (.slice (some ⟨g2, 0, none⟩) (((List.range t).filter M).length + 1) cap2) (((List.range (t + 1)).filter M).map Int.ofNat) := ⟨by rw [HF.out]; simpa using hrow2, fun _ _ => rfl⟩
                have hb7 := (HB.out.alloc hsz (.cells #[.int .i64 t] 3)).grown hgr2 (by simp; omega) (fun k e => by have := (HLR.out.lt k e).1; omega)
                have hs7 : w.heap.size + 1 ≤ w7.heap.size := by have := hgr2.size; simp at this; omega
                have HX := Lib.hid (And.intro hm7 (And.intro hl7 (And.intro hb7 hs7)))
                clear hm7 hl7 hb7 hs7 hrow2 hgr2 hgb2 hgl2
                go_wp2_with fail
                go_roundg fu
                case measure => omega
                case rel => exact ⟨t + 1, _, rfl, rfl, by omega, by omega, HX.out.1, by simpa using HX.out.2.1, HX.out.2.2.1, HX.out.2.2.2⟩
            · obtain rfl : t = l.length := by omega
              have HX : RowKit.Hid (belowP l roots = (List.range l.length).filter M) := by show _ = _; rw [← HMM.out]; rfl
              go_wp2_with fail
              go_ret
              exact ⟨⟨_, rfl, by rw [HX.out]; exact HLR.out.ints⟩, HB.out⟩
        | succ i =>
          obtain rfl : z = (i : Int) := by omega
          obtain ⟨fu, rfl⟩ : ∃ fu, gk = fu + 1 := ⟨gk - 1, by omega⟩
          have hi0 : (i : Int) < (l.length : Int) := by omega
          clear hz
          have e2 := HM.out.cell (i := i) (by omega)
          obtain ⟨nd, hnd⟩ : ∃ nd, l[i]? = some nd := ⟨_, List.getElem?_eq_getElem (by omega)⟩
          obtain ⟨bn, offn, capn, pv, kv, hv, -, hkv, hc⟩ := HL.out.one hnd
          simp only [Value.slice.injEq] at hv
          obtain ⟨rfl, -, rfl⟩ := hv
          obtain ⟨ka, kcap, rfl, hkc, hkm, -⟩ := id hkv
          unfold maxLen at hkm
          have HKV := Lib.hid hkv
          have HC := Lib.hid hc
          clear hc hkv
          cases hmi : m i with
          | false =>
            rw [hmi] at e2
            have HX := Lib.hid (show downP l i m = metP l roots by rw [← HD.out]; simp [downP, hmi])
            have HMF := Lib.hid hmi
            clear hmi hnd
            go_wp2_with fail
            go_loopg [8] (1) (fun g v wr => ∃ (wx : World), wx = wr ∧ v = .int .i64 0 ∧ MetS wr w.heap.size l.length m ∧ Below w.heap.size w wr)
            case atStart => exact ⟨_, rfl, rfl, HM.out, HB.out⟩
            case round =>
              clear HM HB
              obtain ⟨wx3, rfl, rfl, hm, hb⟩ := hrel
              have HB := Lib.hid hb
              have HM := Lib.hid hm
              have hsz := hb.size
              have e4 := HM.out.cell (i := i) (by omega)
              rw [HMF.out] at e4
              clear hm hb
              go_wp2_with fail
              go_roundg fu
              case measure => omega
              case rel => exact ⟨i, m, _, _, rfl, rfl, by omega, by omega, by omega, HM.out, HX.out, HB.out⟩
          | true =>
            have hmi' := hmi
            rw [hmi] at e2
            have HX := Lib.hid (show downP l i (markP i nd.kids m) = metP l roots by rw [← HD.out]; simp [downP, hmi, kidsOf, hnd])
            have HMI := Lib.hid hmi
            clear hmi hmi' HD hnd
            go_wp2_with fail
            go_loopg [8] (nd.kids.length + 1) (fun g v wr => ∃ (t : Nat) (wx : World), wx = wr ∧ v = .int .i64 (t : Nat) ∧ t + g = nd.kids.length + 1 ∧ t ≤ nd.kids.length ∧ MetS wr w.heap.size l.length (markP i (nd.kids.take t) m) ∧ Below w.heap.size w wr)
            case atStart => exact ⟨0, _, rfl, rfl, by omega, Nat.zero_le _, by rw [List.take_zero, markP_nil]; exact HM.out, HB.out⟩
            case round =>
              clear HM HB e2
              obtain ⟨t, wx3, rfl, rfl, hg, ht, hm, hb⟩ := hrel
              have HB := Lib.hid hb
              have HM := Lib.hid hm
              have hsz := hb.size
              have e4 := HM.out.cell (i := i) (by omega)
              rw [markP_self, HMI.out] at e4
              have e3 : wx3.cell? ⟨bn, offn + i * 6 + 3, none⟩ = some (.slice ka nd.kids.length kcap) := cell_later HB.out (HC.out 3 _ rfl _ rfl)
              by_cases hlt : t < nd.kids.length
              · obtain ⟨k, hk⟩ : ∃ k, nd.kids[t]? = some k := ⟨_, List.getElem?_eq_getElem hlt⟩
                obtain ⟨rb, roff, rfl, hc⟩ := ints_at HKV.out hk
                have e1 : wx3.cell? ⟨rb, roff + t, none⟩ = some (.int .i64 k) := cell_later hb hc
                have hti : (t : Int) < (nd.kids.length : Int) := by omega
                obtain ⟨fv, rfl⟩ : ∃ fv, gk = fv + 1 := ⟨gk - 1, by omega⟩
                have HK := Lib.hid hk
                clear hc hb hm hk
                by_cases h0 : 0 ≤ k
                · by_cases h1 : k < (i : Int)
                  · obtain ⟨kn, rfl⟩ : ∃ kn : Nat, k = kn := ⟨k.toNat, by omega⟩
                    have e2 := HM.out.cell (i := kn) (by omega)
                    have f2 := World.rowIs.frozen HM.out kn
                    go_wp2_with fail
                    go_roundg fv
                    case measure => omega
                    case rel => exact ⟨t + 1, _, rfl, rfl, by omega, by omega, HM.out.put (fun j => markP_on _ _ _ _ _ HK.out (by omega) j), HB.out.setCell (Nat.le_refl _) _⟩
                  · have HX := Lib.hid (markP_off i nd.kids m t k HK.out (by omega))
                    go_wp2_with fail
                    go_roundg fv
                    case measure => omega
                    case rel => exact ⟨t + 1, _, rfl, rfl, by omega, by omega, by rw [HX.out]; exact HM.out, HB.out⟩
                · have HX := Lib.hid (markP_off i nd.kids m t k HK.out (by omega))
                  go_wp2_with fail
                  go_roundg fv
                  case measure => omega
                  case rel => exact ⟨t + 1, _, rfl, rfl, by omega, by omega, by rw [HX.out]; exact HM.out, HB.out⟩
              · obtain rfl : t = nd.kids.length := by omega
                rw [List.take_length] at hm
                have HM := Lib.hid hm
                clear hm hb hg
                go_wp2_with fail
                go_roundg fu
                case measure => omega
                case rel => exact ⟨i, _, _, _, rfl, rfl, by omega, by omega, by omega, HM.out, HX.out, HB.out⟩
end Go.Proofs.YtbchkldhnjahaaaGreatDoor
