/- Nodes that came in, and how large they are by their bulk. The call of TreeSames: true, where the lists are short. Conditions: those of the theorem. TreeSames, where what it reads is of bulk at most 1048576: the row and its card. -/
import Derived.Test.YtbchkldhnjahaaaGreatDoorTrOp
import Derived.Test.YtbchkldhnjahaaaGreatDoorTrSame
import Derived.Test.YtbchkldhnjahaaaGreatDoorRows
import Derived.Test.YtbchkldhnjahaaaGreatDoorTrAl
import Derived.Test.YtbchkldhnjahaaaGreatDoorTrRef
import Derived.Test.YtbchkldhnjahaaaGreatDoorTie
import Derived.Test.YtbchkldhnjahaaaGreatDoorCards
import Derived.SevenTiedAt
import Derived.Carry
import Derived.Deep.DeepHandedRow
import Derived.Deep.DeepWitnessRowRef
namespace Go.Proofs.YtbchkldhnjahaaaGreatDoor
open Go Go.ChangeShapes Go.WideShapes Go.RowKit Kiln
section
variable {H : Type} {enc : TypeId × Value → H} {W : World} {sp : Nat → Bool} {held : Bool}

theorem bk_one {H : Type} (d : DataW H) : 1 ≤ Rows.uptoBulk d := by
  cases d with
  | lit l => cases l <;> simp [Rows.uptoBulk]
  | nil => simp [Rows.uptoBulk]
  | ptr d => simp [Rows.uptoBulk]
  | slice elems spare => simp [Rows.uptoBulk]
  | agg parts => simp [Rows.uptoBulk]
  | iface t d => simp [Rows.uptoBulk]
  | map entries => simp [Rows.uptoBulk]
  | held h => simp [Rows.uptoBulk]
theorem bk_len {H : Type} (l : List (DataW H)) : l.length ≤ Rows.uptoBulkAll l := by
  induction l with
  | nil => simp [Rows.uptoBulkAll]
  | cons x r ih => have := bk_one x; simp only [Rows.uptoBulkAll, List.length_cons]; omega
theorem bk_sum {H A : Type} (f : Nat → A) (g : A → Nat) (D : Nat → DataW H) : ∀ r : List Nat, (∀ i ∈ r, g (f i) ≤ Rows.uptoBulk (D i)) → ((r.map f).map g).sum ≤ Rows.uptoBulkAll (r.map D)
  | [], _ => by simp
  | i :: r, h => by
    have h1 := h i (List.mem_cons_self ..)
    have h2 := bk_sum f g D r fun j hj => h j (List.mem_cons_of_mem _ hj)
    simp only [List.map_cons, List.sum_cons, Rows.uptoBulkAll]
    omega

theorem path_bk {v : Value} {fuel : Nat} {y : DataW H × List MemPlace} (h : DataW.trod enc Tryz.prog W 0 sp held fuel 30 [v] = some y) : ∃ pa : List Bytes, Strs W v pa ∧ pa.length ≤ Rows.uptoBulk y.1 := by
  rcases open_strings Tryz.underlying30 Tryz.underlying9 cellsStr h with ⟨hcs, hx⟩ | ⟨a, len, cap, ss, hcs, _, hl, _, hz, hx, hcell, _⟩
  · simp only [List.cons.injEq, and_true] at hcs
    subst hcs
    exact ⟨[], Strs.nil W, Nat.zero_le _⟩
  · simp only [List.cons.injEq, and_true] at hcs
    subst hcs
    have hle : len ≤ ss.length := by rw [hz]; split <;> omega
    have hpl : ((ss.take len).map fun s => s.data.toList).length = len := by rw [List.length_map, List.length_take, Nat.min_eq_left hle]
    refine ⟨(ss.take len).map fun s => s.data.toList, ⟨some a, cap, by rw [hpl], by rw [hpl]; exact hl, fun hne => ?_⟩, by
      subst hx
      simp only [Rows.uptoBulk]
      refine Nat.le_trans ?_ (Nat.le_succ_of_le (Nat.le_add_right _ _))
      refine Nat.le_trans (Nat.le_of_eq ?_) (bk_len _)
      simp [strs]⟩
    have hl0 : 0 < len := by
      rw [← hpl]
      cases h : (ss.take len).map fun s => s.data.toList with
      | nil => exact absurd h hne
      | cons x l => simp
    obtain ⟨b, off, spot⟩ := a
    have hspot : spot = none := by simpa [Addr.add] using World.cell?_spot (hcell 0 (by omega))
    subst hspot
    refine ⟨b, off, rfl, fun i x hi => ?_⟩
    rw [List.getElem?_map, Option.map_eq_some_iff] at hi
    obtain ⟨s, hs, rfl⟩ := hi
    have hil : i < len := by
      have := (List.getElem?_eq_some_iff.1 hs).1
      rw [List.length_take] at this; omega
    have hc := hcell i (by omega)
    rw [adr_add] at hc
    rw [hc, str, Lib.mk_data]
    rw [List.getElem?_take_of_lt hil] at hs
    rw [List.getD_eq_getElem?_getD, hs]; rfl


theorem ints_bk {v : Value} {fuel : Nat} {y : DataW H × List MemPlace} (h : DataW.trod enc Tryz.prog W 0 sp held fuel 39 [v] = some y) : ∃ l : List Int, Ints W v l ∧ l.length ≤ Rows.uptoBulk y.1 := by
  rcases Go.Deep.open_slice1 Tryz.underlying39 cellsInt h with ⟨hcs, hx⟩ | ⟨a, len, cap, m, n, V, D, Pl, hcs, _, hl, hcm, hm, hx, hel⟩
  · simp only [List.cons.injEq, and_true] at hcs
    subst hcs
    exact ⟨[], Ints.nil W, Nat.zero_le _⟩
  · simp only [List.cons.injEq, and_true] at hcs
    subst hcs
    have hlm : len ≤ m := by rw [hm]; split <;> omega
    have each : ∀ i, i < len → ∃ z : Int, W.cell? (a.add i) = some (.int .i64 z) := by
      intro i hi
      obtain ⟨hc, ht⟩ := hel i (by omega)
      obtain ⟨z, e0, _⟩ := DataW.trod_int Tryz.underlying3 ht
      simp only [List.cons.injEq, and_true] at e0
      exact ⟨z, by rw [hc, e0]⟩
    obtain ⟨f, hf⟩ := Go.Deep.choose_lt each
    have hl2 : ((List.range len).map f).length = len := by simp
    refine ⟨(List.range len).map f, ⟨some a, cap, by rw [hl2], by rw [hl2]; exact hl, hcm, fun hne => ?_⟩, by
      rw [show y.1 = _ from congrArg Prod.fst hx]
      simp only [Rows.uptoBulk]
      refine Nat.le_trans ?_ (Nat.le_succ_of_le (Nat.le_add_right _ _))
      refine Nat.le_trans (Nat.le_of_eq ?_) (bk_len _)
      simp⟩
    have h0 : 0 < len := by
      rw [← hl2]
      cases h : (List.range len).map f with
      | nil => exact absurd h hne
      | cons x l => simp
    obtain ⟨b, off, spot⟩ := a
    have hspot : spot = none := by simpa [Addr.add] using World.cell?_spot (hf 0 h0)
    subst hspot
    refine ⟨b, off, rfl, fun i x hi => ?_⟩
    rw [List.getElem?_map, Option.map_eq_some_iff] at hi
    obtain ⟨i', hi', rfl⟩ := hi
    have hil : i < len := by
      have := (List.getElem?_eq_some_iff.1 hi').1
      simpa using this
    rw [List.getElem?_range hil] at hi'
    simp only [Option.some.injEq] at hi'
    subst hi'
    have := hf i hil
    rw [adr_add] at this
    exact this

set_option maxRecDepth 100000 in
theorem node_bk {cs : List Value} {fuel : Nat} {y : DataW H × List MemPlace} (h : DataW.trod enc Tryz.prog W 0 sp held fuel 41 cs = some y) : ∃ (n : Nd) (pv kv : Value), cs = ndVals n pv kv ∧ Strs W pv n.path ∧ Ints W kv n.kids ∧ n.path.length + n.kids.length ≤ Rows.uptoBulk y.1 := by
  obtain ⟨xs, n, _, rfl, hlen, hxl, hf⟩ := DataW.trod_struct Tryz.underlying41 h
  rw [cellsNode] at hlen
  have hxl : xs.length = 6 := hxl
  match cs, hlen, xs, hxl, hf with
  | [c0, c1, c2, c3, c4, c5], _, [x0, x1, x2, x3, x4, x5], _, hf =>
    have f0 : DataW.trod enc Tryz.prog W 0 sp held n 38 (([c0, c1, c2, c3, c4, c5].drop 0).take (Tryz.prog.cellsOf 38)) = some x0 := hf 0 _ rfl
    rw [cellsKind] at f0
    replace f0 : DataW.trod enc Tryz.prog W 0 sp held n 38 [c0] = some x0 := f0
    have f1 : DataW.trod enc Tryz.prog W 0 sp held n 9 (([c0, c1, c2, c3, c4, c5].drop 1).take (Tryz.prog.cellsOf 9)) = some x1 := hf 1 _ rfl
    rw [cellsStr] at f1
    replace f1 : DataW.trod enc Tryz.prog W 0 sp held n 9 [c1] = some x1 := f1
    have f2 : DataW.trod enc Tryz.prog W 0 sp held n 30 (([c0, c1, c2, c3, c4, c5].drop 2).take (Tryz.prog.cellsOf 30)) = some x2 := hf 2 _ rfl
    rw [cellsStrs] at f2
    replace f2 : DataW.trod enc Tryz.prog W 0 sp held n 30 [c2] = some x2 := f2
    have f3 : DataW.trod enc Tryz.prog W 0 sp held n 39 (([c0, c1, c2, c3, c4, c5].drop 3).take (Tryz.prog.cellsOf 39)) = some x3 := hf 3 _ rfl
    rw [cellsInts] at f3
    replace f3 : DataW.trod enc Tryz.prog W 0 sp held n 39 [c3] = some x3 := f3
    have f4 : DataW.trod enc Tryz.prog W 0 sp held n 3 (([c0, c1, c2, c3, c4, c5].drop 4).take (Tryz.prog.cellsOf 3)) = some x4 := hf 4 _ rfl
    rw [cellsInt] at f4
    replace f4 : DataW.trod enc Tryz.prog W 0 sp held n 3 [c4] = some x4 := f4
    have f5 : DataW.trod enc Tryz.prog W 0 sp held n 3 (([c0, c1, c2, c3, c4, c5].drop 5).take (Tryz.prog.cellsOf 3)) = some x5 := hf 5 _ rfl
    rw [cellsInt] at f5
    replace f5 : DataW.trod enc Tryz.prog W 0 sp held n 3 [c5] = some x5 := f5
    obtain ⟨k, e0, rfl, _⟩ := DataW.trod_int Tryz.underlying38 f0
    obtain ⟨s, e1, rfl, _⟩ := DataW.trod_string Tryz.underlying9 f1
    obtain ⟨pa, hs, hb1⟩ := path_bk f2
    obtain ⟨ki, hk, hb2⟩ := ints_bk f3
    obtain ⟨ln, e4, rfl, _⟩ := DataW.trod_int Tryz.underlying3 f4
    obtain ⟨col, e5, rfl, _⟩ := DataW.trod_int Tryz.underlying3 f5
    simp only [List.cons.injEq, and_true] at e0 e1 e4 e5
    subst e0; subst e1; subst e4; subst e5
    refine ⟨⟨k, s.data.toList, pa, ki, ln, col⟩, c2, c3, by simp only [ndVals, str, Lib.mk_data], hs, hk, ?_⟩
    simp only [List.map_cons, List.map_nil, Rows.uptoBulk, Rows.uptoBulkAll]
    omega


theorem nodes_bk {v : Value} {d : DataW H} {ps : List MemPlace} (h : DataW.Trod enc Tryz.prog W 0 sp held 33 v d ps) (hv : ∃ a len cap, v = .slice a len cap) :
    ∃ l : List Nd, NdT W v l ∧ l.length ≤ Rows.uptoBulk d ∧ (l.map fun n => n.path.length + n.kids.length).sum ≤ Rows.uptoBulk d := by
  obtain ⟨a0, len0, cap0, rfl⟩ := hv
  obtain ⟨fuel, hf⟩ := h
  rcases Go.Deep.open_slice Tryz.underlying33 hf with ⟨hcs, hx⟩ | ⟨a, len, cap, m, n, D, Pl, hcs, _, hl, _, hm, hx, hel⟩
  · simp only [Value.cells, List.cons.injEq, and_true] at hcs
    rw [hcs]
    exact ⟨[], NdT.nil W, Nat.zero_le _, Nat.zero_le _⟩
  · simp only [Value.cells, List.cons.injEq, and_true] at hcs
    rw [hcs]
    have hlm : len ≤ m := by rw [hm]; split <;> omega
    rw [cellsNode] at hel
    have each : ∀ i, i < len → ∃ u : Nd, (∃ pv kv, Strs W pv u.path ∧ Ints W kv u.kids ∧ ∀ (j : Nat) x, (ndVals u pv kv)[j]? = some x → W.cell? (a.add (i * 6 + j)) = some x) ∧ u.path.length + u.kids.length ≤ Rows.uptoBulk (D i) := by
      intro i hi
      obtain ⟨cs', hc, ht⟩ := hel i (by omega)
      obtain ⟨u, pv, kv, rfl, hs, hk, hbk⟩ := node_bk ht
      obtain ⟨_, _, hc⟩ := World.cells?_some hc
      refine ⟨u, ⟨pv, kv, hs, hk, fun j x hj => ?_⟩, hbk⟩
      have hj6 : j < 6 := by
        have := (List.getElem?_eq_some_iff.1 hj).1
        simpa [ndVals] using this
      have := hc j hj6
      rw [hj, Go.Deep.add_add] at this
      exact this
    obtain ⟨f, hfu⟩ := Go.Deep.choose_lt each
    have hl2 : ((List.range len).map f).length = len := by simp
    have hd := congrArg Prod.fst hx
    have hbd : Rows.uptoBulkAll ((List.range len).map D) ≤ Rows.uptoBulk d := by
      rw [show d = _ from hd]
      simp only [Rows.uptoBulk]
      omega
    refine ⟨(List.range len).map f, ⟨some a, cap, by rw [hl2], fun hne => ?_⟩, ?_, Nat.le_trans (bk_sum f (fun n => n.path.length + n.kids.length) D _ fun i hi => (hfu i (List.mem_range.1 hi)).2) hbd⟩
    case refine_2 =>
      refine Nat.le_trans (Nat.le_of_eq ?_) (Nat.le_trans (bk_len _) hbd)
      simp
    have h0 : 0 < len := by
      rw [← hl2]
      cases h : (List.range len).map f with
      | nil => exact absurd h hne
      | cons x l => simp
    obtain ⟨b, off, spot⟩ := a
    obtain ⟨⟨pv, kv, hs, hk, hc⟩, _⟩ := hfu 0 h0
    have hspot : spot = none := by simpa [Addr.add] using World.cell?_spot (hc 0 _ rfl)
    subst hspot
    refine ⟨b, off, rfl, fun i u hi => ?_⟩
    rw [List.getElem?_map, Option.map_eq_some_iff] at hi
    obtain ⟨i', hi', rfl⟩ := hi
    have hil : i < len := by
      have := (List.getElem?_eq_some_iff.1 hi').1
      simpa using this
    rw [List.getElem?_range hil] at hi'
    simp only [Option.some.injEq] at hi'
    subst hi'
    obtain ⟨⟨pv, kv, hs, hk, hc⟩, _⟩ := hfu i hil
    refine ⟨pv, kv, hs, hk, fun j x hj => ?_⟩
    have := hc j x hj
    rw [adr_add] at this
    rw [show off + (6 * i + j) = off + (i * 6 + j) by omega]
    exact this
end

/-- a list that is short in all its parts -/
structure NdShort (l : List Nd) : Prop where
  len : l.length ≤ 1048576
  kids : ∀ n ∈ l, n.kids.length ≤ 1048576
  path : ∀ n ∈ l, n.path.length ≤ 1048576
  sum : kidsSum l 0 ≤ 1048576

theorem sum_mem {A : Type} (g : A → Nat) : ∀ {l : List A} {x : A}, x ∈ l → g x ≤ (l.map g).sum
  | y :: l, x, h => by
    simp only [List.map_cons, List.sum_cons]
    rcases List.mem_cons.1 h with rfl | h
    · omega
    · have := sum_mem g h; omega
theorem sum_le {A : Type} (g g' : A → Nat) (h : ∀ x, g x ≤ g' x) : ∀ l : List A, (l.map g).sum ≤ (l.map g').sum
  | [] => by simp
  | y :: l => by
    have := sum_le g g' h l
    have := h y
    simp only [List.map_cons, List.sum_cons]; omega
theorem short_of {l : List Nd} {B : Nat} (h1 : l.length ≤ B) (h2 : (l.map fun n => n.path.length + n.kids.length).sum ≤ B) (hB : B ≤ 1048576) : NdShort l :=
  ⟨by omega, fun n hn => by have := sum_mem (fun n : Nd => n.path.length + n.kids.length) hn; omega, fun n hn => by have := sum_mem (fun n : Nd => n.path.length + n.kids.length) hn; omega,
    by unfold kidsSum; rw [List.drop_zero]; have := sum_le (fun n : Nd => n.kids.length) (fun n => n.path.length + n.kids.length) (fun n => Nat.le_add_left _ _) l; omega⟩
end Go.Proofs.YtbchkldhnjahaaaGreatDoor

namespace Go.Proofs.YtbchkldhnjahaaaGreatDoor
open Go.RowKit Kiln
open Go.Proofs

set_option maxRecDepth 100000 in
set_option maxHeartbeats 4000000 in
theorem treeSames_any (w : World) (av bv : Value) (a b : List Nd) (i k : Int) (hg : Gl w) (ha : NdT w av a) (hb : NdT w bv b) (sa : NdShort a) (sb : NdShort b) :
    Calls Tryz.prog 6 #[av, bv, .int .i64 i, .int .i64 k] w fun e w' => e = .returned (.bool true) ∧ Below w.heap.size w w' := by
  obtain ⟨B, hB⟩ : ∃ B : Bool, B = true ↔ SameT a b i k := by
    by_cases h : SameT a b i k
    · exact ⟨true, by simp [h]⟩
    · exact ⟨false, by simp [h]⟩
  obtain ⟨C, hC⟩ : ∃ C : Bool, C = true ↔ SameT a a i k := by
    by_cases h : SameT a a i k
    · exact ⟨true, by simp [h]⟩
    · exact ⟨false, by simp [h]⟩
  have HG := Lib.hid hg
  have HA := Lib.hid ha
  have HB := Lib.hid hb
  have HSA := Lib.hid sa
  have HSB := Lib.hid sb
  have HBB := Lib.hid hB
  have HCC := Lib.hid hC
  obtain ⟨aa, acap, rfl, -⟩ := ha
  obtain ⟨ba, bcap, rfl, -⟩ := hb
  have H1 := Lib.hid (same_any w _ _ a b i k B hB HA.out HB.out sa.len sb.len sa.sum sa.path)
  have qb : (B == B) = true := by simp
  have qc : (C == C) = true := by simp
  clear hg hB hC sa sb
  go_enter Tryz.func6, Tryz.ntmps6
  go_wp2_with fail
  refine H1.out.mono ?_
  rintro e w2 ⟨rfl, hb2⟩
  have HB2 := Lib.hid hb2
  have H2 := Lib.hid (rsame_any w2 _ _ a b i k B HBB.out (HA.out.below hb2) (HB.out.below hb2) HSA.out.len HSB.out.len HSA.out.kids HSA.out.path HSB.out.kids HSB.out.path)
  clear hb2 H1
  go_wp2_with fail
  refine H2.out.mono ?_
  rintro e w3 ⟨rfl, hb3⟩
  have HB3 := Lib.hid (HB2.out.trans (hb3.mono HB2.out.size))
  clear hb3 H2 HB2
  have H3 := Lib.hid (same_any w3 _ _ a a i k C HCC.out (HA.out.below HB3.out) (HA.out.below HB3.out) HSA.out.len HSA.out.len HSA.out.sum HSA.out.path)
  go_wp2_with fail
  refine H3.out.mono ?_
  rintro e w4 ⟨rfl, hb4⟩
  have HB4 := Lib.hid (HB3.out.trans (hb4.mono HB3.out.size))
  clear hb4 H3 HB3
  have H4 := Lib.hid (rsame_any w4 _ _ a a i k C HCC.out (HA.out.below HB4.out) (HA.out.below HB4.out) HSA.out.len HSA.out.len HSA.out.kids HSA.out.path HSA.out.kids HSA.out.path)
  go_wp2_with fail
  refine H4.out.mono ?_
  rintro e w5 ⟨rfl, hb5⟩
  have HB5 := Lib.hid (HB4.out.trans (hb5.mono HB4.out.size))
  clear hb5 H4 HB4
  have H5 := Lib.hid (alive_any w5 (HG.out.below HB5.out))
  go_wp2_with fail
  refine H5.out.mono ?_
  rintro e w6 ⟨rfl, hb6⟩
  have HB6 := Lib.hid (HB5.out.trans (hb6.mono HB5.out.size))
  clear hb6 H5 HB5
  go_wp2_with fail
  go_ret
  exact ⟨rfl, HB6.out⟩
end Go.Proofs.YtbchkldhnjahaaaGreatDoor

namespace Go.Proofs.YtbchkldhnjahaaaGreatDoor
open Go Go.ChangeShapes Go.WideShapes Go.ChangeAt Go.RowKit Kiln

set_option maxRecDepth 100000 in
theorem sames_contract (H : Type) (enc : TypeId × Value → H) (W : World) (base : Nat) (args : Array Value) (ds gs : List (DataW H)) (before : List MemPlace)
    (hval : ∀ (j : Nat) t v, Tryz.f6.params[j]? = some t → args[j]? = some v → Value.okWide Tryz.prog W .any base t v)
    (hW : DataW.Whole enc Tryz.prog Tryz.f6.params.toList Rows.treeSamesSpec.vars false W args.toList ds gs before) (hk : Rows.uptoSmall H (ds ++ gs) = true) (hg : Gl W) :
    Calls Tryz.prog 6 args W fun e W' => ∃ v, e = .returned v ∧ Rows.treeSamesSpec.post enc Tryz.prog Tryz.f6 false true false false W args v W' := by
  have hW' := hW
  have hlt : ∀ x ∈ before, x.block < W.heap.size := fun x hx => hW'.lt x hx
  obtain ⟨p, q, hA0, hV, rfl, hfz, hnd⟩ := hW
  have hA : DataW.TrodAll enc Tryz.prog W 0 (fun _ => true) true Tryz.f6.params.toList args.toList ds p := hA0
  rw [Tryz.params6] at hA hval
  obtain ⟨v0, v1, v2, v3, d0, d1, d2, d3, p0, p1, p2, p3, rfl, rfl, rfl, h0, h1, h2, h3⟩ := trodAll_four hA
  obtain ⟨rfl, rfl⟩ := trodVars_none hV
  have s0 := okWide_slice Tryz.underlying33 (hval 0 33 v0 rfl rfl)
  have s1 := okWide_slice Tryz.underlying33 (hval 1 33 v1 rfl rfl)
  obtain ⟨i, rfl⟩ := okWide_int Tryz.underlying3 (hval 2 3 v2 rfl rfl)
  obtain ⟨k, rfl⟩ := okWide_int Tryz.underlying3 (hval 3 3 v3 rfl rfl)
  obtain ⟨a, ha, la, sa⟩ := nodes_bk h0 s0
  obtain ⟨b, hb, lb, sb⟩ := nodes_bk h1 s1
  have hbk : Rows.uptoBulk d0 ≤ 1048576 ∧ Rows.uptoBulk d1 ≤ 1048576 := by
    have h := of_decide_eq_true hk
    simp only [List.append_nil, Rows.uptoBulkAll] at h
    omega
  clear hA0 hval
  simp only [List.append_nil] at hW' hlt
  refine (treeSames_any W v0 v1 a b i k hg ha hb (short_of la sa hbk.1) (short_of lb sb hbk.2)).mono fun e W' ⟨he, hbe⟩ => ?_
  subst he
  have t0 := Below.trod prog_laidOut (by kernel_rfl) (of_decide_eq_true (by kernel_rfl)) h0 hbe (fun x hx => hlt x (by simp [hx]))
  have t1 := Below.trod prog_laidOut (by kernel_rfl) (of_decide_eq_true (by kernel_rfl)) h1 hbe (fun x hx => hlt x (by simp [hx]))
  have t2 := Below.trod prog_laidOut (by kernel_rfl) (of_decide_eq_true (by kernel_rfl)) h2 hbe (fun x hx => hlt x (by simp [hx]))
  have t3 := Below.trod prog_laidOut (by kernel_rfl) (of_decide_eq_true (by kernel_rfl)) h3 hbe (fun x hx => hlt x (by simp [hx]))
  have tt : DataW.TrodAll enc Tryz.prog W' 0 (fun b => decide (b < W.heap.size)) true [33, 33, 3, 3] [v0, v1, .int .i64 i, .int .i64 k] [d0, d1, d2, d3] (p0 ++ p1 ++ p2 ++ p3) := by
    simp only [List.append_assoc]
    exact ⟨p0, p1 ++ (p2 ++ p3), t0, trodAll_mk3 t1 t2 t3, rfl⟩
  exact ⟨_, rfl, _, _, _, [], p0 ++ p1 ++ p2 ++ p3, [], hW', trodAll_mk1 (shut_bool Tryz.underlying4 true), tt, rfl, hbe.frame _, fun h => by cases h⟩

theorem sames_reads (os : Os) {H : Type} (enc : TypeId × Value → H) : ∃ places, DataW.whole enc Tryz.prog ((World.doorLaid Tryz.prog 100 os).forCall (fun _ _ => 0) ⟨#[], #[.slice none 0 0, .slice none 0 0, .int .i64 0, .int .i64 0], []⟩).memory Tryz.f6.params.toList Rows.treeSamesSpec.vars false #[Value.slice none 0 0, Value.slice none 0 0, Value.int .i64 0, Value.int .i64 0].toList 8 = some ([.nil, .nil, .lit (.int .i64 0), .lit (.int .i64 0)], [], places) :=
  ⟨[], by kernel_rfl⟩

set_option maxRecDepth 100000 in
theorem sames_lifted (os : Os) (started : os.Started) (H : Type) (enc : TypeId × Value → H) (F : Stop.Interp) :
    ReturnsInHanded {} Tryz.checked os 6 .any ((Rows.OpenSpec.upto Rows.treeSamesSpec).preRow enc Tryz.prog Tryz.f6 Rows.treeSamesUptoRow.domain false Rows.treeSamesUptoRow.laid) (((Rows.OpenSpec.upto Rows.treeSamesSpec).at F).post enc Tryz.prog Tryz.f6 false true false false) := by
  obtain ⟨places, hx⟩ := sames_reads os enc
  refine returnsInHanded_of_row (C := Tryz.checked) (s := Rows.OpenSpec.upto Rows.treeSamesSpec) ownK started (by kernel_rfl) Tryz.func6
    (witness_row_atRef (enc := enc) (C := Tryz.checked) false (World.doorLaid Tryz.prog 100 os) #[.slice none 0 0, .slice none 0 0, .int .i64 0, .int .i64 0] rfl (by kernel_rfl) (by kernel_rfl) (by kernel_rfl)
      (OpenSpec.preRow_of_cond 8 hx (by kernel_rfl) (fun k hk => by cases hk; kernel_rfl) (by kernel_rfl) (door_met os _))) ?_
  intro W base args ds gs before hval hW _ hcond _ hL hsh _
  exact sames_contract H enc W base args ds gs before hval hW (hcond _ rfl) (gl_of hL hsh)

theorem treeSamesUpto_holds : Rows.TreeSamesUptoSaid :=
  OpenClaim.holds_of_cond 6 Tryz.f6 rfl rfl rfl rfl rfl rfl rfl ⟨rfl, rfl, rfl, rfl, rfl⟩ rfl rfl rfl rfl rfl (by kernel_rfl) Tryz.func6 (by kernel_rfl)
    (of_decide_eq_true (by kernel_rfl)) (by unfold Func.isWrapper; first | (rw [if_pos (by decide +kernel)]; kernel_rfl) | (rw [if_neg (by decide +kernel)]; exact ⟨rfl, rfl⟩))
    (fun os started H enc _ F => by rw [OpenClaim.pre_eq_preRow]; exact sames_lifted os started H enc F)

theorem sames_plain (f : FuncId) (fn : Func) (hf : Tryz.pinned.checked.prog.funcNamed "kiln/kilnlaw05.TreeSames" = some f) (hfn : Tryz.pinned.checked.prog.funcs[f]? = some fn) :
    true = Tryz.pinned.checked.prog.looks [] ∧ ∀ (j : Nat) t, fn.params[j]? = some t → Tryz.pinned.checked.prog.wantsStandIn t = false := by
  obtain rfl : f = 6 := Option.some.inj ((show Tryz.prog.funcNamed "kiln/kilnlaw05.TreeSames" = some 6 by kernel_rfl).symm.trans hf) |>.symm
  obtain rfl : fn = Tryz.f6 := (Option.some.inj (Tryz.func6.symm.trans hfn)).symm
  refine ⟨by kernel_rfl, fun j t ht => ?_⟩
  rw [Tryz.params6] at ht
  have h3 : t = 33 ∨ t = 3 := by
    rcases j with _ | _ | _ | _ | j
    · left; simpa using ht.symm
    · left; simpa using ht.symm
    · right; simpa using ht.symm
    · right; simpa using ht.symm
    · simp at ht
  rcases h3 with rfl | rfl
  · exact (show Tryz.prog.wantsStandIn 33 = false by kernel_rfl)
  · exact (show Tryz.prog.wantsStandIn 3 = false by kernel_rfl)

theorem treeSamesUpto_card : Rows.TreeSamesUptoCardSaid :=
  Claim7.holds_tied_plain_at .later [] _ _ _ _ treeSamesUpto_holds (fun _ h => by cases h) (by kernel_rfl) (fun _ h => by cases h) treeSamesUpto_row_tie rfl ⟨rfl, rfl⟩ (by kernel_rfl) rfl sames_plain (by kernel_rfl)
#print axioms treeSamesUpto_card
end Go.Proofs.YtbchkldhnjahaaaGreatDoor
