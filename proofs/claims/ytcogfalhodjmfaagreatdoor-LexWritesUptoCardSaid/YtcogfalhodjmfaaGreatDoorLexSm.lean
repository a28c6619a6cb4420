/- The reference's Alike and Same: what the calls return. Conditions: those of each theorem. -/
import Derived.Test.YtcogfalhodjmfaaGreatDoorLexJn
import Derived.Test.YtcogfalhodjmfaaGreatDoorLexQ
namespace Go.Proofs.YtcogfalhodjmfaaGreatDoor
open Go.RowKit Kiln
open Go.Proofs

def alikeB (u v : Tok) : Bool := u.kind == v.kind && u.text == v.text && u.path == v.path
def sameL (pl : Bool) : List Tok → List Tok → Bool
  | [], [] => true
  | u :: l, v :: m => alikeB u v && (!pl || (u.line == v.line && u.col == v.col)) && sameL pl l m
  | _, _ => false

theorem alike_refl (u : Tok) : alikeB u u = true := by simp [alikeB]
theorem sameL_refl (pl : Bool) : ∀ l, sameL pl l l = true
  | [] => rfl
  | u :: l => by simp only [sameL, alike_refl, sameL_refl pl l]; simp

theorem strs_at {w : World} {v : Value} {pa : List Bytes} (h : Strs w v pa) {k : Nat} {x : Bytes} (hk : pa[k]? = some x) : ∃ b off cap, v = .slice (some ⟨b, off, none⟩) pa.length cap ∧ w.cell? ⟨b, off + k, none⟩ = some (str x) := by
  obtain ⟨a, cap, rfl, _, hl⟩ := h
  obtain ⟨b, off, rfl, hx⟩ := hl (by rintro rfl; simp at hk)
  exact ⟨b, off, cap, rfl, hx k x hk⟩

set_option maxRecDepth 100000 in
set_option maxHeartbeats 2000000 in
theorem alike_any (u v : Tok) (pv1 pv2 : Value) (w : World) (h1 : Strs w pv1 u.path) (h2 : Strs w pv2 v.path) (hp : u.path.length ≤ 1099511627776) :
    Calls Tryz.prog 25 #[tokV u.kind u.text pv1 u.line u.col, tokV v.kind v.text pv2 v.line v.col] w fun e w' => e = .returned (.bool (alikeB u v)) ∧ Below w.heap.size w w' := by
  obtain ⟨k1, t1, p1, l1, c1⟩ := u
  obtain ⟨k2, t2, p2, l2, c2⟩ := v
  simp only [] at h1 h2 hp ⊢
  obtain ⟨R, hR⟩ : ∃ R, alikeB ⟨k1, t1, p1, l1, c1⟩ ⟨k2, t2, p2, l2, c2⟩ = R := ⟨_, rfl⟩
  rw [hR]
  have HR : RowKit.Hid ((k1 == k2 && t1 == t2 && p1 == p2) = R) := hR
  clear hR
  have hs1 := h1
  have hs2 := h2
  obtain ⟨a1, cap1, rfl, _, _⟩ := h1
  obtain ⟨a2, cap2, rfl, _, _⟩ := h2
  have hB := ((Below.refl _ w).alloc (Nat.le_refl _) (.cells #[.int .i64 k1, str t1, .slice a1 p1.length cap1, .int .i64 l1, .int .i64 c1] 34)).alloc (by simp) (.cells #[.int .i64 k2, str t2, .slice a2 p2.length cap2, .int .i64 l2, .int .i64 c2] 34)
  have HS1 := Lib.hid (hs1.below hB)
  have HS2 := Lib.hid (hs2.below hB)
  have HB := Lib.hid hB
  clear hs1 hs2 hB
  go_enter Tryz.func25, Tryz.ntmps25
  go_upto_region 1 with fail
  obtain ⟨W, hW⟩ : ∃ W, (w.alloc (.cells #[.int .i64 k1, str t1, .slice a1 p1.length cap1, .int .i64 l1, .int .i64 c1] 34)).alloc (.cells #[.int .i64 k2, str t2, .slice a2 p2.length cap2, .int .i64 l2, .int .i64 c2] 34) = W := ⟨_, rfl⟩
  have x0 : W.cell? ⟨w.heap.size, 0, none⟩ = some (.int .i64 k1) := by rw [← hW]; simp
  have x1 : W.cell? ⟨w.heap.size, 1, none⟩ = some (str t1) := by rw [← hW]; simp
  have x2 : W.cell? ⟨w.heap.size, 2, none⟩ = some (.slice a1 p1.length cap1) := by rw [← hW]; simp
  have y0 : W.cell? ⟨w.heap.size + 1, 0, none⟩ = some (.int .i64 k2) := by rw [← hW]; simp
  have y1 : W.cell? ⟨w.heap.size + 1, 1, none⟩ = some (str t2) := by rw [← hW]; simp
  have y2 : W.cell? ⟨w.heap.size + 1, 2, none⟩ = some (.slice a2 p2.length cap2) := by rw [← hW]; simp
  rw [hW] at HS1 HS2 HB ⊢
  clear hW
  by_cases hk : k1 = k2
  · have b1 : (k1 != k2) = false := by rw [bne_eq_false_iff_eq]; exact hk
    have HR2 : RowKit.Hid ((t1 == t2 && p1 == p2) = R) := by show _ = _; rw [← HR.out, show (k1 == k2) = true by rw [beq_iff_eq]; exact hk]; rfl
    clear hk HR
    by_cases ht : t1 = t2
    · have HR3 : RowKit.Hid ((p1 == p2) = R) := by show _ = _; rw [← HR2.out, show (t1 == t2) = true by rw [beq_iff_eq]; exact ht]; rfl
      clear HR2
      by_cases hl : p1.length = p2.length
      · have b3 : ((p1.length : Int) != p2.length) = false := by rw [bne_eq_false_iff_eq]; omega
        have HL := Lib.hid hl
        clear hl
        go_wp2_with fail
        clear b1 b3 ht
        go_loopw [5] (fun j wr => ∃ k m : Nat, j = .int .i64 k ∧ wr = W.drewN m ∧ k ≤ p1.length ∧ p1.take k = p2.take k) (fun j _ => p1.length - (intOf j).toNat)
        case atStart => exact ⟨0, 0, rfl, rfl, Nat.zero_le _, rfl⟩
        case round =>
          obtain ⟨k, m, rfl, rfl, hk, htk⟩ := hrel
          have HT := Lib.hid htk; clear htk
          by_cases hlt : k < p1.length
          · have hki : (k : Int) < (p1.length : Int) := by omega
            have hlt2 : k < p2.length := by have := HL.out; omega
            have hki2 : (k : Int) < (p2.length : Int) := by omega
            obtain ⟨x, hx⟩ : ∃ x, p1[k]? = some x := ⟨p1[k], List.getElem?_eq_getElem hlt⟩
            obtain ⟨y, hy⟩ : ∃ y, p2[k]? = some y := ⟨p2[k], List.getElem?_eq_getElem hlt2⟩
            obtain ⟨b, off, cp, hv, hc⟩ := strs_at HS1.out hx
            obtain ⟨b', off', cp', hv', hc'⟩ := strs_at HS2.out hy
            simp only [Value.slice.injEq] at hv hv'
            obtain ⟨rfl, -, rfl⟩ := hv
            obtain ⟨rfl, -, rfl⟩ := hv'
            have HX := Lib.hid hx
            have HY := Lib.hid hy
            clear hx hy
            by_cases hxy : x = y
            · have HT2 := Lib.hid (show p1.take (k + 1) = p2.take (k + 1) by rw [List.take_add_one, List.take_add_one, HT.out, HX.out, HY.out, hxy])
              go_wp2_with fail
              go_quiet (fail)
              go_wp2_with fail
              go_roundw
              case rel => exact ⟨k + 1, _, by go_num, rfl, by omega, HT2.out⟩
              case measure => simp [intOf]; omega
            · have HE : RowKit.Hid (R = false) := by
                show _ = _
                rw [← HR3.out, beq_eq_false_iff_ne]
                intro e
                have h1 := HX.out
                rw [e, HY.out] at h1
                simp only [Option.some.injEq] at h1
                exact hxy h1.symm
              have hxyb : (x == y) = false := by rw [beq_eq_false_iff_ne]; exact hxy
              go_wp2_with fail
              go_quiet (fail)
              go_wp2_with fail
              go_ret
              exact ⟨by rw [HE.out]; rfl, below_drewN (below_drewN HB.out _) _⟩
          · have hki : decide ((k : Int) < (p1.length : Int)) = false := by simp; omega
            have HE : RowKit.Hid (R = true) := by
              show _ = _
              rw [← HR3.out, beq_iff_eq]
              have := HT.out
              rwa [List.take_of_length_le (by omega), List.take_of_length_le (by have := HL.out; omega)] at this
            go_wp2_with fail
            go_ret
            exact ⟨by rw [HE.out]; rfl, below_drewN HB.out _⟩
      · have b3 : ((p1.length : Int) != p2.length) = true := by rw [bne_iff_ne]; omega
        have HE : RowKit.Hid (R = false) := by
          show _ = _
          rw [← HR3.out, beq_eq_false_iff_ne]
          exact fun e => hl (by rw [e])
        clear hl
        go_wp2_with fail
        go_ret
        exact ⟨by rw [HE.out]; rfl, HB.out⟩
    · have HE : RowKit.Hid (R = false) := by
        show _ = _
        rw [← HR2.out, show (t1 == t2) = false by rw [beq_eq_false_iff_ne]; exact ht]; rfl
      go_wp2_with fail
      go_ret
      exact ⟨by rw [HE.out]; rfl, HB.out⟩
  · have b1 : (k1 != k2) = true := by rw [bne_iff_ne]; exact hk
    have HE : RowKit.Hid (R = false) := by
      show _ = _
      rw [← HR.out, show (k1 == k2) = false by rw [beq_eq_false_iff_ne]; exact hk]; rfl
    clear hk
    go_wp2_with fail
    go_ret
    exact ⟨by rw [HE.out]; rfl, HB.out⟩

end Go.Proofs.YtcogfalhodjmfaaGreatDoor
