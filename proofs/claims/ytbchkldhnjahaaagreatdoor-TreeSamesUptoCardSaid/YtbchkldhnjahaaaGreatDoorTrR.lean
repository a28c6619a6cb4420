/- begin: what the call returns, and what it leaves. No conditions. -/
import Derived.Test.YtbchkldhnjahaaaGreatDoorTrQ
namespace Go.Proofs.YtbchkldhnjahaaaGreatDoor
open Go.RowKit Kiln
open Go.Proofs

theorem NmS.lt {w : World} {m : Nat} {nm : Names} (h : NmS w m nm) : m < w.heap.size := by
  obtain ⟨D, ho, _⟩ := h
  exact ho.lt
theorem NmS.alloc {w : World} {m : Nat} {nm : Names} (h : NmS w m nm) (o : Obj) : NmS (w.alloc o) m nm := h.keep (Below.heap_alloc w o m h.lt)
set_option maxRecDepth 100000 in
set_option maxHeartbeats 4000000 in
theorem begin_any (w : World) :
    Calls Tryz.prog 30 #[] w fun e w' => ∃ q m, e = .returned (.pointer (some ⟨q, 0, none⟩)) ∧ w.heap.size ≤ m ∧ m < q ∧ q < w'.heap.size ∧ w'.heap[q]? = some (.cells #[.pointer none, .map (some m)] 107 (0, 0)) ∧ NmS w' m fix0 ∧ Below w.heap.size w w' := by
  have hn := NmS.made w
  have hb : Below w.heap.size w (w.alloc (.map #[] 0)) := bl_al (Below.refl _ _) _
  have hmk : (Instr.makeMap 104 none).run Tryz.prog w = .ok (.map (some w.heap.size)) (w.alloc (.map #[] 0)) := rfl
  go_enter Tryz.func30, Tryz.ntmps30
  go_wp2_with (first
    | (refine wpList_names rfl _ _ _ (.inl rfl) _ _ rfl hn (by simp [maxLen]) [111] ⟨3, false, true⟩ rfl (by simp [maxLen]) rfl ?_; intro w1 hn1 hg1; have hb1 := hb.grown hg1 hb.size (fun k e => by cases e; exact Nat.le_refl _))
    | (refine wpList_names rfl _ _ _ (.inl rfl) _ _ rfl hn1 (by simp [maxLen]) [58, 61] ⟨3, false, true⟩ rfl (by simp [maxLen]) rfl ?_; intro w2 hn2 hg2; have hb2 := hb1.grown hg2 hb1.size (fun k e => by cases e; exact Nat.le_refl _))
    | (refine wpList_names rfl _ _ _ (.inl rfl) _ _ rfl hn2 (by simp [maxLen]) [98, 101, 102, 111, 114, 101] ⟨0, false, true⟩ rfl (by simp [maxLen]) rfl ?_; intro w3 hn3 hg3; have hb3 := hb2.grown hg3 hb2.size (fun k e => by cases e; exact Nat.le_refl _))
    | (refine wpList_names rfl _ _ _ (.inl rfl) _ _ rfl hn3 (by simp [maxLen]) [58, 58] ⟨5, true, true⟩ rfl (by simp [maxLen]) rfl ?_; intro w4 hn4 hg4; have hb4 := hb3.grown hg4 hb3.size (fun k e => by cases e; exact Nat.le_refl _))
    | (refine wpList_names rfl _ _ _ (.inl rfl) _ _ rfl hn4 (by simp [maxLen]) [64] ⟨5, true, true⟩ rfl (by simp [maxLen]) rfl ?_; intro w5 hn5 hg5; have hb5 := hb4.grown hg5 hb4.size (fun k e => by cases e; exact Nat.le_refl _)))
  -- loops
  have hlt5 := hn5.lt
  have hn0 := (hn5.alloc (.cells #[.pointer none, .map (some w.heap.size)] 107)).alloc (.cells #[str [42], str [47], str [100, 105, 118], str [109, 111, 100]] 9)
  have hq0 := (Below.heap_alloc (w5.alloc (.cells #[.pointer none, .map (some w.heap.size)] 107)) (.cells #[str [42], str [47], str [100, 105, 118], str [109, 111, 100]] 9) w5.heap.size (by simp)).trans (heap_alloc_new w5 _)
  have hs0 := heap_alloc_new (w5.alloc (.cells #[.pointer none, .map (some w.heap.size)] 107)) (.cells #[str [42], str [47], str [100, 105, 118], str [109, 111, 100]] 9)
  rw [show (w5.alloc (.cells #[.pointer none, .map (some w.heap.size)] 107)).heap.size = w5.heap.size + 1 from by simp] at hs0
  have hb0 := bl_al (bl_al hb5 (.cells #[.pointer none, .map (some w.heap.size)] 107)) (.cells #[str [42], str [47], str [100, 105, 118], str [109, 111, 100]] 9)
  go_loopg [19] (5) (fun g v wr => ∃ (i : Nat) (wx : World), wx = wr ∧ v = .int .i64 (i : Nat) ∧ i + g = 5 ∧ i ≤ 4 ∧ NmS wr w.heap.size ([([111], ⟨3, false, true⟩), ([58, 61], ⟨3, false, true⟩), ([98, 101, 102, 111, 114, 101], ⟨0, false, true⟩), ([58, 58], ⟨5, true, true⟩), ([64], ⟨5, true, true⟩)] ++ (([[42], [47], [100, 105, 118], [109, 111, 100]] : List Bytes).take i).map fun k => (k, ⟨7, false, true⟩)) ∧ wr.heap[w5.heap.size]? = some (.cells #[.pointer none, .map (some w.heap.size)] 107 (0, 0)) ∧ wr.heap[(w5.heap.size + 1)]? = some (.cells #[str [42], str [47], str [100, 105, 118], str [109, 111, 100]] 9 (0, 0)) ∧ w.heap.size < (w5.heap.size + 1) ∧ Below w.heap.size w wr)
  case atStart => exact ⟨0, _, rfl, rfl, rfl, by omega, by simpa using hn0, hq0, hs0, Nat.lt_succ_of_lt hlt5, hb0⟩
  case round =>
    obtain ⟨i, wx0, rfl, rfl, hi, hin, hn, hq, hs, hsl, hb⟩ := hrel
    have q1 := cell3 hq 1 _ rfl
    have r0 := cell3 hs 0 _ rfl
    have r1 := cell3 hs 1 _ rfl
    have r2 := cell3 hs 2 _ rfl
    have r3 := cell3 hs 3 _ rfl
    obtain rfl | rfl | rfl | rfl | rfl : i = 0 ∨ i = 1 ∨ i = 2 ∨ i = 3 ∨ i = 4 := by omega
    · obtain ⟨fu, rfl⟩ : ∃ fu, gk = fu + 1 := ⟨gk - 1, by omega⟩
      go_wp2_with (first | (refine wpList_names rfl _ _ _ (.inr rfl) _ _ rfl hn (by simp [maxLen]) [42] ⟨7, false, true⟩ rfl (by simp [maxLen]) rfl ?_; intro w9 hn9 hg9))
      go_roundg fu
      case measure => omega
      case rel => exact ⟨1, _, rfl, rfl, by omega, by omega, by simpa using hn9, (hg9.block _ (Array.getElem?_eq_some_iff.1 hq).1 (by simp; omega)).trans hq, (hg9.block _ (Array.getElem?_eq_some_iff.1 hs).1 (by simp; omega)).trans hs, hsl, hb.grown hg9 hb.size (fun k e => by cases e; exact Nat.le_refl _)⟩
    · obtain ⟨fu, rfl⟩ : ∃ fu, gk = fu + 1 := ⟨gk - 1, by omega⟩
      go_wp2_with (first | (refine wpList_names rfl _ _ _ (.inr rfl) _ _ rfl hn (by simp [maxLen]) [47] ⟨7, false, true⟩ rfl (by simp [maxLen]) rfl ?_; intro w9 hn9 hg9))
      go_roundg fu
      case measure => omega
      case rel => exact ⟨2, _, rfl, rfl, by omega, by omega, by simpa using hn9, (hg9.block _ (Array.getElem?_eq_some_iff.1 hq).1 (by simp; omega)).trans hq, (hg9.block _ (Array.getElem?_eq_some_iff.1 hs).1 (by simp; omega)).trans hs, hsl, hb.grown hg9 hb.size (fun k e => by cases e; exact Nat.le_refl _)⟩
    · obtain ⟨fu, rfl⟩ : ∃ fu, gk = fu + 1 := ⟨gk - 1, by omega⟩
      go_wp2_with (first | (refine wpList_names rfl _ _ _ (.inr rfl) _ _ rfl hn (by simp [maxLen]) [100, 105, 118] ⟨7, false, true⟩ rfl (by simp [maxLen]) rfl ?_; intro w9 hn9 hg9))
      go_roundg fu
      case measure => omega
      case rel => exact ⟨3, _, rfl, rfl, by omega, by omega, by simpa using hn9, (hg9.block _ (Array.getElem?_eq_some_iff.1 hq).1 (by simp; omega)).trans hq, (hg9.block _ (Array.getElem?_eq_some_iff.1 hs).1 (by simp; omega)).trans hs, hsl, hb.grown hg9 hb.size (fun k e => by cases e; exact Nat.le_refl _)⟩
    · obtain ⟨fu, rfl⟩ : ∃ fu, gk = fu + 1 := ⟨gk - 1, by omega⟩
      go_wp2_with (first | (refine wpList_names rfl _ _ _ (.inr rfl) _ _ rfl hn (by simp [maxLen]) [109, 111, 100] ⟨7, false, true⟩ rfl (by simp [maxLen]) rfl ?_; intro w9 hn9 hg9))
      go_roundg fu
      case measure => omega
      case rel => exact ⟨4, _, rfl, rfl, by omega, by omega, by simpa using hn9, (hg9.block _ (Array.getElem?_eq_some_iff.1 hq).1 (by simp; omega)).trans hq, (hg9.block _ (Array.getElem?_eq_some_iff.1 hs).1 (by simp; omega)).trans hs, hsl, hb.grown hg9 hb.size (fun k e => by cases e; exact Nat.le_refl _)⟩
    · have hn' := hn.alloc (.cells #[str [43], str [45], str [94]] 9)
      have hq' := (Below.heap_alloc wx0 (.cells #[str [43], str [45], str [94]] 9) _ (Array.getElem?_eq_some_iff.1 hq).1).trans hq
      have hb' := bl_al hb (.cells #[str [43], str [45], str [94]] 9)
      have hlt := hn.lt
      clear r0 r1 r2 q1
      go_wp2_with fail
      go_loopg [32] (4) (fun g v wr => ∃ (i : Nat) (wx : World), wx = wr ∧ v = .int .i64 (i : Nat) ∧ i + g = 4 ∧ i ≤ 3 ∧ NmS wr w.heap.size (([([111], ⟨3, false, true⟩), ([58, 61], ⟨3, false, true⟩), ([98, 101, 102, 111, 114, 101], ⟨0, false, true⟩), ([58, 58], ⟨5, true, true⟩), ([64], ⟨5, true, true⟩)] ++ ([[42], [47], [100, 105, 118], [109, 111, 100]] : List Bytes).map fun k => (k, ⟨7, false, true⟩)) ++ (([[43], [45], [94]] : List Bytes).take i).map fun k => (k, ⟨6, false, true⟩)) ∧ wr.heap[w5.heap.size]? = some (.cells #[.pointer none, .map (some w.heap.size)] 107 (0, 0)) ∧ wr.heap[wx0.heap.size]? = some (.cells #[str [43], str [45], str [94]] 9 (0, 0)) ∧ w.heap.size < wx0.heap.size ∧ Below w.heap.size w wr)
      case atStart => exact ⟨0, _, rfl, rfl, rfl, by omega, by simpa using hn', hq', heap_alloc_new _ _, hlt, hb'⟩
      case round =>
        obtain ⟨i, wx1, rfl, rfl, hi, hin, hn, hq, hs, hsl, hb⟩ := hrel
        have q1 := cell3 hq 1 _ rfl
        have r0 := cell3 hs 0 _ rfl
        have r1 := cell3 hs 1 _ rfl
        have r2 := cell3 hs 2 _ rfl
        obtain rfl | rfl | rfl | rfl : i = 0 ∨ i = 1 ∨ i = 2 ∨ i = 3 := by omega
        · obtain ⟨fu, rfl⟩ : ∃ fu, gk = fu + 1 := ⟨gk - 1, by omega⟩
          go_wp2_with (first | (refine wpList_names rfl _ _ _ (.inr rfl) _ _ rfl hn (by simp [maxLen]) [43] ⟨6, false, true⟩ rfl (by simp [maxLen]) rfl ?_; intro w9 hn9 hg9))
          go_roundg fu
          case measure => omega
          case rel => exact ⟨1, _, rfl, rfl, by omega, by omega, by simpa using hn9, (hg9.block _ (Array.getElem?_eq_some_iff.1 hq).1 (by simp; omega)).trans hq, (hg9.block _ (Array.getElem?_eq_some_iff.1 hs).1 (by simp; omega)).trans hs, hsl, hb.grown hg9 hb.size (fun k e => by cases e; exact Nat.le_refl _)⟩
        · obtain ⟨fu, rfl⟩ : ∃ fu, gk = fu + 1 := ⟨gk - 1, by omega⟩
          go_wp2_with (first | (refine wpList_names rfl _ _ _ (.inr rfl) _ _ rfl hn (by simp [maxLen]) [45] ⟨6, false, true⟩ rfl (by simp [maxLen]) rfl ?_; intro w9 hn9 hg9))
          go_roundg fu
          case measure => omega
          case rel => exact ⟨2, _, rfl, rfl, by omega, by omega, by simpa using hn9, (hg9.block _ (Array.getElem?_eq_some_iff.1 hq).1 (by simp; omega)).trans hq, (hg9.block _ (Array.getElem?_eq_some_iff.1 hs).1 (by simp; omega)).trans hs, hsl, hb.grown hg9 hb.size (fun k e => by cases e; exact Nat.le_refl _)⟩
        · obtain ⟨fu, rfl⟩ : ∃ fu, gk = fu + 1 := ⟨gk - 1, by omega⟩
          go_wp2_with (first | (refine wpList_names rfl _ _ _ (.inr rfl) _ _ rfl hn (by simp [maxLen]) [94] ⟨6, false, true⟩ rfl (by simp [maxLen]) rfl ?_; intro w9 hn9 hg9))
          go_roundg fu
          case measure => omega
          case rel => exact ⟨3, _, rfl, rfl, by omega, by omega, by simpa using hn9, (hg9.block _ (Array.getElem?_eq_some_iff.1 hq).1 (by simp; omega)).trans hq, (hg9.block _ (Array.getElem?_eq_some_iff.1 hs).1 (by simp; omega)).trans hs, hsl, hb.grown hg9 hb.size (fun k e => by cases e; exact Nat.le_refl _)⟩
        · have hn' := hn.alloc (.cells #[str [61], str [60, 62], str [62], str [62, 61], str [60], str [60, 61]] 9)
          have hq' := (Below.heap_alloc wx1 (.cells #[str [61], str [60, 62], str [62], str [62, 61], str [60], str [60, 61]] 9) _ (Array.getElem?_eq_some_iff.1 hq).1).trans hq
          have hb' := bl_al hb (.cells #[str [61], str [60, 62], str [62], str [62, 61], str [60], str [60, 61]] 9)
          have hlt := hn.lt
          clear r0 r1 r2 q1
          go_wp2_with fail
          go_loopg [45] (7) (fun g v wr => ∃ (i : Nat) (wx : World), wx = wr ∧ v = .int .i64 (i : Nat) ∧ i + g = 7 ∧ i ≤ 6 ∧ NmS wr w.heap.size ((([([111], ⟨3, false, true⟩), ([58, 61], ⟨3, false, true⟩), ([98, 101, 102, 111, 114, 101], ⟨0, false, true⟩), ([58, 58], ⟨5, true, true⟩), ([64], ⟨5, true, true⟩)] ++ ([[42], [47], [100, 105, 118], [109, 111, 100]] : List Bytes).map fun k => (k, ⟨7, false, true⟩)) ++ ([[43], [45], [94]] : List Bytes).map fun k => (k, ⟨6, false, true⟩)) ++ (([[61], [60, 62], [62], [62, 61], [60], [60, 61]] : List Bytes).take i).map fun k => (k, ⟨4, false, true⟩)) ∧ wr.heap[w5.heap.size]? = some (.cells #[.pointer none, .map (some w.heap.size)] 107 (0, 0)) ∧ wr.heap[wx1.heap.size]? = some (.cells #[str [61], str [60, 62], str [62], str [62, 61], str [60], str [60, 61]] 9 (0, 0)) ∧ w.heap.size < wx1.heap.size ∧ Below w.heap.size w wr)
          case atStart => exact ⟨0, _, rfl, rfl, rfl, by omega, by simpa using hn', hq', heap_alloc_new _ _, hlt, hb'⟩
          case round =>
            obtain ⟨i, wx2, rfl, rfl, hi, hin, hn, hq, hs, hsl, hb⟩ := hrel
            have q1 := cell3 hq 1 _ rfl
            have r0 := cell3 hs 0 _ rfl
            have r1 := cell3 hs 1 _ rfl
            have r2 := cell3 hs 2 _ rfl
            have r3 := cell3 hs 3 _ rfl
            have r4 := cell3 hs 4 _ rfl
            have r5 := cell3 hs 5 _ rfl
            obtain rfl | rfl | rfl | rfl | rfl | rfl | rfl : i = 0 ∨ i = 1 ∨ i = 2 ∨ i = 3 ∨ i = 4 ∨ i = 5 ∨ i = 6 := by omega
            · obtain ⟨fu, rfl⟩ : ∃ fu, gk = fu + 1 := ⟨gk - 1, by omega⟩
              go_wp2_with (first | (refine wpList_names rfl _ _ _ (.inr rfl) _ _ rfl hn (by simp [maxLen]) [61] ⟨4, false, true⟩ rfl (by simp [maxLen]) rfl ?_; intro w9 hn9 hg9))
              go_roundg fu
              case measure => omega
              case rel => exact ⟨1, _, rfl, rfl, by omega, by omega, by simpa using hn9, (hg9.block _ (Array.getElem?_eq_some_iff.1 hq).1 (by simp; omega)).trans hq, (hg9.block _ (Array.getElem?_eq_some_iff.1 hs).1 (by simp; omega)).trans hs, hsl, hb.grown hg9 hb.size (fun k e => by cases e; exact Nat.le_refl _)⟩
            · obtain ⟨fu, rfl⟩ : ∃ fu, gk = fu + 1 := ⟨gk - 1, by omega⟩
              go_wp2_with (first | (refine wpList_names rfl _ _ _ (.inr rfl) _ _ rfl hn (by simp [maxLen]) [60, 62] ⟨4, false, true⟩ rfl (by simp [maxLen]) rfl ?_; intro w9 hn9 hg9))
              go_roundg fu
              case measure => omega
              case rel => exact ⟨2, _, rfl, rfl, by omega, by omega, by simpa using hn9, (hg9.block _ (Array.getElem?_eq_some_iff.1 hq).1 (by simp; omega)).trans hq, (hg9.block _ (Array.getElem?_eq_some_iff.1 hs).1 (by simp; omega)).trans hs, hsl, hb.grown hg9 hb.size (fun k e => by cases e; exact Nat.le_refl _)⟩
            · obtain ⟨fu, rfl⟩ : ∃ fu, gk = fu + 1 := ⟨gk - 1, by omega⟩
              go_wp2_with (first | (refine wpList_names rfl _ _ _ (.inr rfl) _ _ rfl hn (by simp [maxLen]) [62] ⟨4, false, true⟩ rfl (by simp [maxLen]) rfl ?_; intro w9 hn9 hg9))
              go_roundg fu
              case measure => omega
              case rel => exact ⟨3, _, rfl, rfl, by omega, by omega, by simpa using hn9, (hg9.block _ (Array.getElem?_eq_some_iff.1 hq).1 (by simp; omega)).trans hq, (hg9.block _ (Array.getElem?_eq_some_iff.1 hs).1 (by simp; omega)).trans hs, hsl, hb.grown hg9 hb.size (fun k e => by cases e; exact Nat.le_refl _)⟩
            · obtain ⟨fu, rfl⟩ : ∃ fu, gk = fu + 1 := ⟨gk - 1, by omega⟩
              go_wp2_with (first | (refine wpList_names rfl _ _ _ (.inr rfl) _ _ rfl hn (by simp [maxLen]) [62, 61] ⟨4, false, true⟩ rfl (by simp [maxLen]) rfl ?_; intro w9 hn9 hg9))
              go_roundg fu
              case measure => omega
              case rel => exact ⟨4, _, rfl, rfl, by omega, by omega, by simpa using hn9, (hg9.block _ (Array.getElem?_eq_some_iff.1 hq).1 (by simp; omega)).trans hq, (hg9.block _ (Array.getElem?_eq_some_iff.1 hs).1 (by simp; omega)).trans hs, hsl, hb.grown hg9 hb.size (fun k e => by cases e; exact Nat.le_refl _)⟩
            · obtain ⟨fu, rfl⟩ : ∃ fu, gk = fu + 1 := ⟨gk - 1, by omega⟩
              go_wp2_with (first | (refine wpList_names rfl _ _ _ (.inr rfl) _ _ rfl hn (by simp [maxLen]) [60] ⟨4, false, true⟩ rfl (by simp [maxLen]) rfl ?_; intro w9 hn9 hg9))
              go_roundg fu
              case measure => omega
              case rel => exact ⟨5, _, rfl, rfl, by omega, by omega, by simpa using hn9, (hg9.block _ (Array.getElem?_eq_some_iff.1 hq).1 (by simp; omega)).trans hq, (hg9.block _ (Array.getElem?_eq_some_iff.1 hs).1 (by simp; omega)).trans hs, hsl, hb.grown hg9 hb.size (fun k e => by cases e; exact Nat.le_refl _)⟩
            · obtain ⟨fu, rfl⟩ : ∃ fu, gk = fu + 1 := ⟨gk - 1, by omega⟩
              go_wp2_with (first | (refine wpList_names rfl _ _ _ (.inr rfl) _ _ rfl hn (by simp [maxLen]) [60, 61] ⟨4, false, true⟩ rfl (by simp [maxLen]) rfl ?_; intro w9 hn9 hg9))
              go_roundg fu
              case measure => omega
              case rel => exact ⟨6, _, rfl, rfl, by omega, by omega, by simpa using hn9, (hg9.block _ (Array.getElem?_eq_some_iff.1 hq).1 (by simp; omega)).trans hq, (hg9.block _ (Array.getElem?_eq_some_iff.1 hs).1 (by simp; omega)).trans hs, hsl, hb.grown hg9 hb.size (fun k e => by cases e; exact Nat.le_refl _)⟩
            · go_wp2_with fail
              go_ret
              exact ⟨w5.heap.size, w.heap.size, rfl, Nat.le_refl _, hlt5, (Array.getElem?_eq_some_iff.1 hq).1, hq, hn, hb⟩

end Go.Proofs.YtbchkldhnjahaaaGreatDoor
