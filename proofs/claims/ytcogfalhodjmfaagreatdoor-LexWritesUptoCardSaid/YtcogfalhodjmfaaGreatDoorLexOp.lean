/- Tokens that came in: what a reading of them as data says of the cells, and how large they are. -/
import Derived.Test.YtcogfalhodjmfaaGreatDoorLexRow
import Derived.Test.YtcogfalhodjmfaaGreatDoorLexJn
import Derived.Test.YtcogfalhodjmfaaGreatDoorLexSz
import Derived.Deep.Slices
import Derived.SliceStrings
namespace Go.Proofs.YtcogfalhodjmfaaGreatDoor
open Go Go.ChangeShapes Go.WideShapes Go.RowKit Kiln
section
variable {H : Type} {enc : TypeId × Value → H} {W : World} {sp : Nat → Bool} {held : Bool}

theorem addr_add (b off n : Nat) : (⟨b, off, none⟩ : Addr).add n = ⟨b, off + n, none⟩ := by
  unfold Addr.add
  split
  · rename_i h; simp_all
  · simp

theorem bulk_one {H : Type} (d : DataW H) : 1 ≤ Rows.uptoBulk d := by
  cases d with
  | lit l => cases l <;> simp [Rows.uptoBulk]
  | nil => simp [Rows.uptoBulk]
  | ptr d => simp [Rows.uptoBulk]
  | slice elems spare => simp [Rows.uptoBulk]
  | agg parts => simp [Rows.uptoBulk]
  | iface t d => simp [Rows.uptoBulk]
  | map entries => simp [Rows.uptoBulk]
  | held h => simp [Rows.uptoBulk]

theorem bulk_part {H : Type} {d : DataW H} {l : List (DataW H)} (h : d ∈ l) : Rows.uptoBulk d ≤ Rows.uptoBulkAll l := by
  induction l with
  | nil => cases h
  | cons x r ih =>
    simp only [Rows.uptoBulkAll]
    cases List.mem_cons.1 h with
    | inl e => subst e; omega
    | inr e => have := ih e; omega

theorem bulk_len {H : Type} (l : List (DataW H)) : l.length ≤ Rows.uptoBulkAll l := by
  induction l with
  | nil => simp [Rows.uptoBulkAll]
  | cons x r ih => have := bulk_one x; simp only [Rows.uptoBulkAll, List.length_cons]; omega

theorem bulk_strs {H : Type} (ss : List ByteArray) : Rows.uptoBulkAll (strs ss : List (DataW H)) = sumL (ss.map fun s => s.data.toList) + ss.length := by
  induction ss with
  | nil => simp [strs, Rows.uptoBulkAll, sumL]
  | cons s ss ih =>
    simp only [strs, List.map_cons, Rows.uptoBulkAll, Rows.uptoBulk, sumL, List.sum_cons, List.length_cons] at ih ⊢
    omega

theorem path_of_trod {v : Value} {fuel : Nat} {y : DataW H × List MemPlace} (h : DataW.trod enc Tryz.prog W 0 sp held fuel 32 [v] = some y) : ∃ pa : List Bytes, Strs W v pa ∧ sumL pa + pa.length ≤ Rows.uptoBulk y.1 := by
  rcases open_strings Tryz.underlying32 Tryz.underlying9 cellsStr h with ⟨hcs, hx⟩ | ⟨a, len, cap, ss, hcs, _, hl, _, hz, hx, hcell, _⟩
  · simp only [List.cons.injEq, and_true] at hcs
    subst hcs
    exact ⟨[], Strs.nil W, by have := bulk_one y.1; simp [sumL]⟩
  · simp only [List.cons.injEq, and_true] at hcs
    subst hcs
    have hle : len ≤ ss.length := by rw [hz]; split <;> omega
    have hpl : ((ss.take len).map fun s => s.data.toList).length = len := by rw [List.length_map, List.length_take, Nat.min_eq_left hle]
    refine ⟨(ss.take len).map fun s => s.data.toList, ⟨some a, cap, by rw [hpl], by rw [hpl]; exact hl, fun hne => ?_⟩, ?_⟩
    · have hl0 : 0 < len := by
        rw [← hpl]
        cases h : (ss.take len).map fun s => s.data.toList with
        | nil => exact absurd h hne
        | cons x l => simp
      obtain ⟨b, off, spot⟩ := a
      have hspot : spot = none := by simpa [Addr.add] using World.cell?_spot (hcell 0 (by omega))
      subst hspot
      refine ⟨b, off, rfl, fun i x hi => ?_⟩
      rw [List.getElem?_map, Option.map_eq_some_iff] at hi
      obtain ⟨s, hs, rfl⟩ := hi
      have hil : i < len := by
        have := (List.getElem?_eq_some_iff.1 hs).1
        rw [List.length_take] at this; omega
      have hc := hcell i (by omega)
      rw [addr_add] at hc
      rw [hc, str, Lib.mk_data]
      rw [List.getElem?_take_of_lt hil] at hs
      rw [List.getD_eq_getElem?_getD, hs]; rfl
    · subst hx
      simp only [Rows.uptoBulk]
      rw [bulk_strs, hpl, List.length_take, Nat.min_eq_left hle]
      omega

def tokSize (u : Tok) : Nat := u.text.length + sumL u.path + u.path.length

theorem cells1 : Tryz.prog.cellsOf 31 = 1 := by kernel_rfl
theorem cells2 : Tryz.prog.cellsOf 32 = 1 := by kernel_rfl
theorem cells3 : Tryz.prog.cellsOf 3 = 1 := by kernel_rfl
theorem cells5 : Tryz.prog.cellsOf 34 = 5 := by kernel_rfl

set_option maxRecDepth 100000 in
theorem tok_of_trod {cs : List Value} {fuel : Nat} {y : DataW H × List MemPlace} (h : DataW.trod enc Tryz.prog W 0 sp held fuel 34 cs = some y) : ∃ (u : Tok) (pv : Value), cs = tokVals u pv ∧ Strs W pv u.path ∧ tokSize u ≤ Rows.uptoBulk y.1 := by
  obtain ⟨xs, n, _, rfl, hlen, hxl, hf⟩ := DataW.trod_struct Tryz.underlying34 h
  rw [cells5] at hlen
  have hxl : xs.length = 5 := hxl
  match cs, hlen, xs, hxl, hf with
  | [c0, c1, c2, c3, c4], _, [x0, x1, x2, x3, x4], _, hf =>
    have f0 : DataW.trod enc Tryz.prog W 0 sp held n 31 (([c0, c1, c2, c3, c4].drop 0).take (Tryz.prog.cellsOf 31)) = some x0 := hf 0 _ rfl
    rw [cells1] at f0
    replace f0 : DataW.trod enc Tryz.prog W 0 sp held n 31 [c0] = some x0 := f0
    have f1 : DataW.trod enc Tryz.prog W 0 sp held n 9 (([c0, c1, c2, c3, c4].drop 1).take (Tryz.prog.cellsOf 9)) = some x1 := hf 1 _ rfl
    rw [cellsStr] at f1
    replace f1 : DataW.trod enc Tryz.prog W 0 sp held n 9 [c1] = some x1 := f1
    have f2 : DataW.trod enc Tryz.prog W 0 sp held n 32 (([c0, c1, c2, c3, c4].drop 2).take (Tryz.prog.cellsOf 32)) = some x2 := hf 2 _ rfl
    rw [cells2] at f2
    replace f2 : DataW.trod enc Tryz.prog W 0 sp held n 32 [c2] = some x2 := f2
    have f3 : DataW.trod enc Tryz.prog W 0 sp held n 3 (([c0, c1, c2, c3, c4].drop 3).take (Tryz.prog.cellsOf 3)) = some x3 := hf 3 _ rfl
    rw [cells3] at f3
    replace f3 : DataW.trod enc Tryz.prog W 0 sp held n 3 [c3] = some x3 := f3
    have f4 : DataW.trod enc Tryz.prog W 0 sp held n 3 (([c0, c1, c2, c3, c4].drop 4).take (Tryz.prog.cellsOf 3)) = some x4 := hf 4 _ rfl
    rw [cells3] at f4
    replace f4 : DataW.trod enc Tryz.prog W 0 sp held n 3 [c4] = some x4 := f4
    obtain ⟨k, e0, rfl, _⟩ := DataW.trod_int Tryz.underlying31 f0
    obtain ⟨s, e1, rfl, _⟩ := DataW.trod_string Tryz.underlying9 f1
    obtain ⟨pa, hs, hb⟩ := path_of_trod f2
    obtain ⟨ln, e3, rfl, _⟩ := DataW.trod_int Tryz.underlying3 f3
    obtain ⟨col, e4, rfl, _⟩ := DataW.trod_int Tryz.underlying3 f4
    simp only [List.cons.injEq, and_true] at e0 e1 e3 e4
    subst e0; subst e1; subst e3; subst e4
    refine ⟨⟨k, s.data.toList, pa, ln, col⟩, c2, ?_, hs, ?_⟩
    · simp only [tokVals, str, Lib.mk_data]
    · simp only [tokSize, List.map_cons, List.map_nil, Rows.uptoBulk, Rows.uptoBulkAll]
      omega

instance : Inhabited Tok := ⟨⟨0, [], [], 0, 0⟩⟩

theorem toks_of_trod {v : Value} {d : DataW H} {ps : List MemPlace} (h : DataW.Trod enc Tryz.prog W 0 sp held 22 v d ps) (hv : ∃ a len cap, v = .slice a len cap) :
    ∃ l : List Tok, TkS W v l ∧ (∀ u ∈ l, tokSize u ≤ Rows.uptoBulk d) ∧ l.length ≤ Rows.uptoBulk d := by
  obtain ⟨a0, len0, cap0, rfl⟩ := hv
  obtain ⟨fuel, hf⟩ := h
  rcases Go.Deep.open_slice Tryz.underlying22 hf with ⟨hcs, hx⟩ | ⟨a, len, cap, m, n, D, Pl, hcs, _, hl, _, hm, hx, hel⟩
  · simp only [Value.cells, List.cons.injEq, and_true] at hcs
    rw [hcs]
    exact ⟨[], ⟨none, 0, rfl, fun h => absurd rfl h⟩, by simp, by simp⟩
  · simp only [Value.cells, List.cons.injEq, and_true] at hcs
    rw [hcs]
    have hlm : len ≤ m := by rw [hm]; split <;> omega
    rw [cells5] at hel
    have each : ∀ i, i < len → ∃ u : Tok, (∃ pv, Strs W pv u.path ∧ ∀ (j : Nat) x, (tokVals u pv)[j]? = some x → W.cell? (a.add (i * 5 + j)) = some x) ∧ tokSize u ≤ Rows.uptoBulk (D i) := by
      intro i hi
      obtain ⟨cs', hc, ht⟩ := hel i (by omega)
      obtain ⟨u, pv, rfl, hs, hb⟩ := tok_of_trod ht
      obtain ⟨_, _, hc⟩ := World.cells?_some hc
      refine ⟨u, ⟨pv, hs, fun j x hj => ?_⟩, hb⟩
      have hj5 : j < 5 := by
        have := (List.getElem?_eq_some_iff.1 hj).1
        simpa [tokVals] using this
      have := hc j hj5
      rw [hj, Go.Deep.add_add] at this
      exact this
    obtain ⟨f, hfu⟩ := Go.Deep.choose_lt each
    have hd : d = .slice ((List.range len).map D) ((List.range (m - len)).map fun j => D (len + j)) := by
      have := congrArg Prod.fst hx
      exact this
    have hbulk : ∀ i, i < len → Rows.uptoBulk (D i) ≤ Rows.uptoBulk d := fun i hi => by
      rw [hd]
      simp only [Rows.uptoBulk]
      have := bulk_part (d := D i) (l := (List.range len).map D) (List.mem_map.2 ⟨i, List.mem_range.2 hi, rfl⟩)
      omega
    have hl2 : ((List.range len).map f).length = len := by simp
    refine ⟨(List.range len).map f, ⟨some a, cap, by rw [hl2], fun hne => ?_⟩, fun u hu => ?_, ?_⟩
    · have h0 : 0 < len := by
        rw [← hl2]
        cases h : (List.range len).map f with
        | nil => exact absurd h hne
        | cons x l => simp
      obtain ⟨b, off, spot⟩ := a
      obtain ⟨⟨pv, hs, hc⟩, _⟩ := hfu 0 h0
      have hspot : spot = none := by simpa [Addr.add] using World.cell?_spot (hc 0 _ rfl)
      subst hspot
      refine ⟨b, off, rfl, fun i u hi => ?_⟩
      rw [List.getElem?_map, Option.map_eq_some_iff] at hi
      obtain ⟨i', hi', rfl⟩ := hi
      have hil : i < len := by
        have := (List.getElem?_eq_some_iff.1 hi').1
        simpa using this
      rw [List.getElem?_range hil] at hi'
      simp only [Option.some.injEq] at hi'
      subst hi'
      obtain ⟨⟨pv, hs, hc⟩, _⟩ := hfu i hil
      refine ⟨pv, hs, fun j x hj => ?_⟩
      have := hc j x hj
      rw [addr_add] at this
      rw [show off + (5 * i + j) = off + (i * 5 + j) by omega]
      exact this
    · rw [List.mem_map] at hu
      obtain ⟨i, hi, rfl⟩ := hu
      rw [List.mem_range] at hi
      exact Nat.le_trans (hfu i hi).2 (hbulk i hi)
    · rw [hl2, hd]
      simp only [Rows.uptoBulk]
      have := bulk_len ((List.range len).map D)
      simp only [List.length_map, List.length_range] at this
      omega

theorem tok_fits {u : Tok} (h : tokSize u ≤ 1048576) : Fits u := by
  have hj := join_len (u.path ++ [u.text]) [46]
  rw [sumL_snoc, List.length_append] at hj
  simp only [List.length_cons, List.length_nil] at hj
  unfold tokSize at h
  exact ⟨by omega, by omega, by omega⟩

end
end Go.Proofs.YtcogfalhodjmfaaGreatDoor
