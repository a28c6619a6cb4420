/- Nodes and numbers that came in: what a reading of them as data says of the cells. -/
import Derived.Test.YtbchkldhnjahaaaGreatDoorTrNd
import Derived.Test.YtbchkldhnjahaaaGreatDoorLexRow
import Derived.Deep.Slices
import Derived.SliceStrings
namespace Go.Proofs.YtbchkldhnjahaaaGreatDoor
open Go Go.ChangeShapes Go.WideShapes Go.RowKit Kiln
section
variable {H : Type} {enc : TypeId × Value → H} {W : World} {sp : Nat → Bool} {held : Bool}

theorem adr_add (b off n : Nat) : (⟨b, off, none⟩ : Addr).add n = ⟨b, off + n, none⟩ := by
  unfold Addr.add
  split
  · rename_i h; simp_all
  · simp

theorem path_in {v : Value} {fuel : Nat} {y : DataW H × List MemPlace} (h : DataW.trod enc Tryz.prog W 0 sp held fuel 30 [v] = some y) : ∃ pa : List Bytes, Strs W v pa := by
  rcases open_strings Tryz.underlying30 Tryz.underlying9 cellsStr h with ⟨hcs, hx⟩ | ⟨a, len, cap, ss, hcs, _, hl, _, hz, hx, hcell, _⟩
  · simp only [List.cons.injEq, and_true] at hcs
    subst hcs
    exact ⟨[], Strs.nil W⟩
  · simp only [List.cons.injEq, and_true] at hcs
    subst hcs
    have hle : len ≤ ss.length := by rw [hz]; split <;> omega
    have hpl : ((ss.take len).map fun s => s.data.toList).length = len := by rw [List.length_map, List.length_take, Nat.min_eq_left hle]
    refine ⟨(ss.take len).map fun s => s.data.toList, ⟨some a, cap, by rw [hpl], by rw [hpl]; exact hl, fun hne => ?_⟩⟩
    have hl0 : 0 < len := by
      rw [← hpl]
      cases h : (ss.take len).map fun s => s.data.toList with
      | nil => exact absurd h hne
      | cons x l => simp
    obtain ⟨b, off, spot⟩ := a
    have hspot : spot = none := by simpa [Addr.add] using World.cell?_spot (hcell 0 (by omega))
    subst hspot
    refine ⟨b, off, rfl, fun i x hi => ?_⟩
    rw [List.getElem?_map, Option.map_eq_some_iff] at hi
    obtain ⟨s, hs, rfl⟩ := hi
    have hil : i < len := by
      have := (List.getElem?_eq_some_iff.1 hs).1
      rw [List.length_take] at this; omega
    have hc := hcell i (by omega)
    rw [adr_add] at hc
    rw [hc, str, Lib.mk_data]
    rw [List.getElem?_take_of_lt hil] at hs
    rw [List.getD_eq_getElem?_getD, hs]; rfl

theorem cellsInt : Tryz.prog.cellsOf 3 = 1 := by kernel_rfl

theorem ints_in {v : Value} {fuel : Nat} {y : DataW H × List MemPlace} (h : DataW.trod enc Tryz.prog W 0 sp held fuel 39 [v] = some y) : ∃ l : List Int, Ints W v l := by
  rcases Go.Deep.open_slice1 Tryz.underlying39 cellsInt h with ⟨hcs, hx⟩ | ⟨a, len, cap, m, n, V, D, Pl, hcs, _, hl, hcm, hm, hx, hel⟩
  · simp only [List.cons.injEq, and_true] at hcs
    subst hcs
    exact ⟨[], Ints.nil W⟩
  · simp only [List.cons.injEq, and_true] at hcs
    subst hcs
    have hlm : len ≤ m := by rw [hm]; split <;> omega
    have each : ∀ i, i < len → ∃ z : Int, W.cell? (a.add i) = some (.int .i64 z) := by
      intro i hi
      obtain ⟨hc, ht⟩ := hel i (by omega)
      obtain ⟨z, e0, _⟩ := DataW.trod_int Tryz.underlying3 ht
      simp only [List.cons.injEq, and_true] at e0
      exact ⟨z, by rw [hc, e0]⟩
    obtain ⟨f, hf⟩ := Go.Deep.choose_lt each
    have hl2 : ((List.range len).map f).length = len := by simp
    refine ⟨(List.range len).map f, some a, cap, by rw [hl2], by rw [hl2]; exact hl, hcm, fun hne => ?_⟩
    have h0 : 0 < len := by
      rw [← hl2]
      cases h : (List.range len).map f with
      | nil => exact absurd h hne
      | cons x l => simp
    obtain ⟨b, off, spot⟩ := a
    have hspot : spot = none := by simpa [Addr.add] using World.cell?_spot (hf 0 h0)
    subst hspot
    refine ⟨b, off, rfl, fun i x hi => ?_⟩
    rw [List.getElem?_map, Option.map_eq_some_iff] at hi
    obtain ⟨i', hi', rfl⟩ := hi
    have hil : i < len := by
      have := (List.getElem?_eq_some_iff.1 hi').1
      simpa using this
    rw [List.getElem?_range hil] at hi'
    simp only [Option.some.injEq] at hi'
    subst hi'
    have := hf i hil
    rw [adr_add] at this
    exact this

theorem cellsKind : Tryz.prog.cellsOf 38 = 1 := by kernel_rfl
theorem cellsStrs : Tryz.prog.cellsOf 30 = 1 := by kernel_rfl
theorem cellsInts : Tryz.prog.cellsOf 39 = 1 := by kernel_rfl
theorem cellsNode : Tryz.prog.cellsOf 41 = 6 := by kernel_rfl
theorem bytesNode : Tryz.prog.bytesOf 41 = 88 := by kernel_rfl

set_option maxRecDepth 100000 in
theorem node_in {cs : List Value} {fuel : Nat} {y : DataW H × List MemPlace} (h : DataW.trod enc Tryz.prog W 0 sp held fuel 41 cs = some y) : ∃ (n : Nd) (pv kv : Value), cs = ndVals n pv kv ∧ Strs W pv n.path ∧ Ints W kv n.kids := by
  obtain ⟨xs, n, _, rfl, hlen, hxl, hf⟩ := DataW.trod_struct Tryz.underlying41 h
  rw [cellsNode] at hlen
  have hxl : xs.length = 6 := hxl
  match cs, hlen, xs, hxl, hf with
  | [c0, c1, c2, c3, c4, c5], _, [x0, x1, x2, x3, x4, x5], _, hf =>
    have f0 : DataW.trod enc Tryz.prog W 0 sp held n 38 (([c0, c1, c2, c3, c4, c5].drop 0).take (Tryz.prog.cellsOf 38)) = some x0 := hf 0 _ rfl
    rw [cellsKind] at f0
    replace f0 : DataW.trod enc Tryz.prog W 0 sp held n 38 [c0] = some x0 := f0
    have f1 : DataW.trod enc Tryz.prog W 0 sp held n 9 (([c0, c1, c2, c3, c4, c5].drop 1).take (Tryz.prog.cellsOf 9)) = some x1 := hf 1 _ rfl
    rw [cellsStr] at f1
    replace f1 : DataW.trod enc Tryz.prog W 0 sp held n 9 [c1] = some x1 := f1
    have f2 : DataW.trod enc Tryz.prog W 0 sp held n 30 (([c0, c1, c2, c3, c4, c5].drop 2).take (Tryz.prog.cellsOf 30)) = some x2 := hf 2 _ rfl
    rw [cellsStrs] at f2
    replace f2 : DataW.trod enc Tryz.prog W 0 sp held n 30 [c2] = some x2 := f2
    have f3 : DataW.trod enc Tryz.prog W 0 sp held n 39 (([c0, c1, c2, c3, c4, c5].drop 3).take (Tryz.prog.cellsOf 39)) = some x3 := hf 3 _ rfl
    rw [cellsInts] at f3
    replace f3 : DataW.trod enc Tryz.prog W 0 sp held n 39 [c3] = some x3 := f3
    have f4 : DataW.trod enc Tryz.prog W 0 sp held n 3 (([c0, c1, c2, c3, c4, c5].drop 4).take (Tryz.prog.cellsOf 3)) = some x4 := hf 4 _ rfl
    rw [cellsInt] at f4
    replace f4 : DataW.trod enc Tryz.prog W 0 sp held n 3 [c4] = some x4 := f4
    have f5 : DataW.trod enc Tryz.prog W 0 sp held n 3 (([c0, c1, c2, c3, c4, c5].drop 5).take (Tryz.prog.cellsOf 3)) = some x5 := hf 5 _ rfl
    rw [cellsInt] at f5
    replace f5 : DataW.trod enc Tryz.prog W 0 sp held n 3 [c5] = some x5 := f5
    obtain ⟨k, e0, rfl, _⟩ := DataW.trod_int Tryz.underlying38 f0
    obtain ⟨s, e1, rfl, _⟩ := DataW.trod_string Tryz.underlying9 f1
    obtain ⟨pa, hs⟩ := path_in f2
    obtain ⟨ki, hk⟩ := ints_in f3
    obtain ⟨ln, e4, rfl, _⟩ := DataW.trod_int Tryz.underlying3 f4
    obtain ⟨col, e5, rfl, _⟩ := DataW.trod_int Tryz.underlying3 f5
    simp only [List.cons.injEq, and_true] at e0 e1 e4 e5
    subst e0; subst e1; subst e4; subst e5
    exact ⟨⟨k, s.data.toList, pa, ki, ln, col⟩, c2, c3, by simp only [ndVals, str, Lib.mk_data], hs, hk⟩

instance : Inhabited Nd := ⟨⟨0, [], [], [], 0, 0⟩⟩

theorem nodes_in {v : Value} {d : DataW H} {ps : List MemPlace} (h : DataW.Trod enc Tryz.prog W 0 sp held 33 v d ps) (hv : ∃ a len cap, v = .slice a len cap) :
    ∃ l : List Nd, NdT W v l ∧ (d = .nil ∧ l = [] ∨ ∃ elems spare, d = .slice elems spare ∧ elems.length = l.length) := by
  obtain ⟨a0, len0, cap0, rfl⟩ := hv
  obtain ⟨fuel, hf⟩ := h
  rcases Go.Deep.open_slice Tryz.underlying33 hf with ⟨hcs, hx⟩ | ⟨a, len, cap, m, n, D, Pl, hcs, _, hl, _, hm, hx, hel⟩
  · simp only [Value.cells, List.cons.injEq, and_true] at hcs
    rw [hcs]
    exact ⟨[], NdT.nil W, .inl ⟨congrArg Prod.fst hx, rfl⟩⟩
  · simp only [Value.cells, List.cons.injEq, and_true] at hcs
    rw [hcs]
    have hlm : len ≤ m := by rw [hm]; split <;> omega
    rw [cellsNode] at hel
    have each : ∀ i, i < len → ∃ u : Nd, ∃ pv kv, Strs W pv u.path ∧ Ints W kv u.kids ∧ ∀ (j : Nat) x, (ndVals u pv kv)[j]? = some x → W.cell? (a.add (i * 6 + j)) = some x := by
      intro i hi
      obtain ⟨cs', hc, ht⟩ := hel i (by omega)
      obtain ⟨u, pv, kv, rfl, hs, hk⟩ := node_in ht
      obtain ⟨_, _, hc⟩ := World.cells?_some hc
      refine ⟨u, pv, kv, hs, hk, fun j x hj => ?_⟩
      have hj6 : j < 6 := by
        have := (List.getElem?_eq_some_iff.1 hj).1
        simpa [ndVals] using this
      have := hc j hj6
      rw [hj, Go.Deep.add_add] at this
      exact this
    obtain ⟨f, hfu⟩ := Go.Deep.choose_lt each
    have hl2 : ((List.range len).map f).length = len := by simp
    refine ⟨(List.range len).map f, ⟨some a, cap, by rw [hl2], fun hne => ?_⟩, .inr ⟨_, _, congrArg Prod.fst hx, by simp⟩⟩
    have h0 : 0 < len := by
      rw [← hl2]
      cases h : (List.range len).map f with
      | nil => exact absurd h hne
      | cons x l => simp
    obtain ⟨b, off, spot⟩ := a
    obtain ⟨pv, kv, hs, hk, hc⟩ := hfu 0 h0
    have hspot : spot = none := by simpa [Addr.add] using World.cell?_spot (hc 0 _ rfl)
    subst hspot
    refine ⟨b, off, rfl, fun i u hi => ?_⟩
    rw [List.getElem?_map, Option.map_eq_some_iff] at hi
    obtain ⟨i', hi', rfl⟩ := hi
    have hil : i < len := by
      have := (List.getElem?_eq_some_iff.1 hi').1
      simpa using this
    rw [List.getElem?_range hil] at hi'
    simp only [Option.some.injEq] at hi'
    subst hi'
    obtain ⟨pv, kv, hs, hk, hc⟩ := hfu i hil
    refine ⟨pv, kv, hs, hk, fun j x hj => ?_⟩
    have := hc j x hj
    rw [adr_add] at this
    rw [show off + (6 * i + j) = off + (i * 6 + j) by omega]
    exact this
end

theorem prog_laidOut : laidOutB Tryz.prog = true := by kernel_rfl

theorem nodes_len {H : Type} {ts : List TypeId} {ds : List (DataW H)} {l : List Nd} {d : DataW H} {j : Nat} (h : (DataW.weightsEach Tryz.prog ts ds).all (· ≤ reachBytes) = true) (ht : ts[j]? = some 33) (hd : ds[j]? = some d)
    (hl : d = .nil ∧ l = [] ∨ ∃ elems spare, d = .slice elems spare ∧ elems.length = l.length) : l.length ≤ 4398046511104 := by
  rcases hl with ⟨_, rfl⟩ | ⟨elems, spare, rfl, he⟩
  · simp
  · have := sized_slice h ht hd Tryz.underlying33
    rw [bytesNode] at this
    have h2 : reachBytes < 2 ^ 47 := reachBytes_lt
    have h3 : (2 : Nat) ^ 47 = 140737488355328 := by decide
    rw [← he]
    omega
end Go.Proofs.YtbchkldhnjahaaaGreatDoor
