/- The reference's quote: what the call returns. Conditions: those of each theorem. -/
import Derived.Test.YtcogfalhodjmfaaGreatDoorLexWq
import Derived.Test.YtcogfalhodjmfaaGreatDoorLexBd
import Derived.Test.YtcogfalhodjmfaaGreatDoorLexRS
import Derived.Test.YtcogfalhodjmfaaGreatDoorLexSm
namespace Go.Proofs.YtcogfalhodjmfaaGreatDoor
open Go.RowKit Kiln
open Go.Proofs

theorem cells_new (w : World) (xs : List Value) (t : TypeId) : ∀ j u, xs[j]? = some u → (w.alloc (.cells xs.toArray t)).cell? ((⟨w.heap.size, 0, none⟩ : Addr).add j) = some u := by
  intro j u hj
  rw [addr_add0, World.cell?_alloc_new]
  simpa using hj

theorem own_app {W : World} {B : Nat} {v : Value} {acc cs : Bytes} {news : List Value} {n : Nat} (hn : news = bvals cs) (hm : n = cs.length) (h : W.ownsRow B 5 1 v (acc.length + n) (bvals acc ++ news)) :
    W.ownsRow B 5 1 v (acc ++ cs).length (bvals (acc ++ cs)) := by
  subst hn; subst hm
  rw [List.length_append, show bvals (acc ++ cs) = bvals acc ++ bvals cs by simp [bvals]]
  exact h

theorem ints_one (l : List Int) : ∀ u ∈ l.map (Value.int .u8), u.oneCell' = true := by
  intro u hu
  obtain ⟨x, _, rfl⟩ := List.mem_map.1 hu
  rfl

theorem own_slice' {W : World} {B n size : Nat} {e : TypeId} {v : Value} {xs : List Value} (h : W.ownsRow B e size v n xs) : ∃ a cap, v = .slice a n cap := by
  rcases h.2 with ⟨rfl, h0⟩ | ⟨g, cap, cur, rfl, _⟩
  · exact ⟨none, 0, by rw [h0]⟩
  · exact ⟨_, cap, rfl⟩

theorem quote_take {s : ByteArray} {k : Nat} {x : UInt8} (hlt : k < s.size) (hx : s[k]'hlt = x) : (s.data.toList.take (k + 1)).flatMap quoteB = (s.data.toList.take k).flatMap quoteB ++ quoteB x := by
  have hlt' : k < s.data.toList.length := by simpa [← Lib.size_eq] using hlt
  rw [List.take_succ_eq_append_getElem hlt', List.flatMap_append]
  simp only [List.flatMap_cons, List.flatMap_nil, List.append_nil]
  rw [← hx]; rfl

theorem digs (x : UInt8) : [.int .u8 92, .int .u8 (48 + (x.toNat : Int) / 100), .int .u8 (48 + (x.toNat : Int) / 10 % 10), .int .u8 (48 + (x.toNat : Int) % 10)] = bvals [92, 48 + x / 100, 48 + x / 10 % 10, 48 + x % 10] := by
  obtain ⟨h1, h2, h3⟩ := esc_digits x
  rw [h1, h2, h3]; rfl

set_option maxRecDepth 100000 in
set_option maxHeartbeats 4000000 in
theorem rquote_any (s : ByteArray) (w : World) (hz : s.size ≤ 17592186044416) :
    Calls Tryz.prog 30 #[.string s] w fun e w' => e = .returned (str (quoteP s.data.toList)) ∧ Below w.heap.size w w' := by
  obtain ⟨u0, iu, iu0, iu1, iu2⟩ := info_parts Tryz.infoU8
  go_enter Tryz.func30, Tryz.ntmps30
  go_wp2_with fail
  go_loopw [3, 4] (fun v j wr => ∃ (k : Nat) (a : Option Addr) (cap : Nat), v = .slice a ((s.data.toList.take k).flatMap quoteB).length cap ∧ j = .int .i64 k ∧ k ≤ s.size ∧ wr.ownsRow w.heap.size 5 1 (.slice a ((s.data.toList.take k).flatMap quoteB).length cap) ((s.data.toList.take k).flatMap quoteB).length (bvals ((s.data.toList.take k).flatMap quoteB)) ∧ Below w.heap.size w wr) (fun _ j _ => s.size - (intOf j).toNat)
  case atStart => exact ⟨0, none, 0, rfl, rfl, Nat.zero_le _, World.ownsRow_nil _ _ _ _, Below.refl _ _⟩
  case round =>
    obtain ⟨k, a, cap, rfl, rfl, hk, hown, hbe⟩ := hrel
    have hq := quote_len (s.data.toList.take k)
    rw [List.length_take] at hq
    have HO := Lib.hid hown
    have HB := Lib.hid hbe
    clear hown hbe
    obtain ⟨acc, hacc⟩ : ∃ acc, (s.data.toList.take k).flatMap quoteB = acc := ⟨_, rfl⟩
    have hal : acc.length ≤ 4 * s.size := by rw [← hacc]; omega
    rw [hacc] at HO ⊢
    by_cases hlt : k < s.size
    · have hki : (k : Int) < (s.size : Int) := by omega
      obtain ⟨x, hx⟩ : ∃ x : UInt8, s[k]'hlt = x := ⟨_, rfl⟩
      have HN : RowKit.Hid ((s.data.toList.take (k + 1)).flatMap quoteB = acc ++ quoteB x) := by
        show _ = _
        rw [quote_take hlt hx, hacc]
      clear hacc hq
      have hx256 := x.toNat_lt
      by_cases h34 : x.toNat = 34 ∨ x.toNat = 92
      · have HQ : RowKit.Hid (quoteB x = [92, x]) := by
          show _ = _
          rcases h34 with h | h <;> (rw [u8_of h]; rfl)
        have hstep : ∀ {P : Prop}, (((x.toNat : Int) == 34) = true → P) → (((x.toNat : Int) == 34) = false → ((x.toNat : Int) == 92) = true → P) → P := fun f g => by
          by_cases h : x.toNat = 34
          · exact f (by rw [beq_iff_eq]; omega)
          · exact g (by rw [beq_eq_false_iff_ne]; omega) (by rw [beq_iff_eq]; omega)
        clear h34
        refine hstep (fun b1 => ?_) (fun b1 b2 => ?_)
        · clear hstep
          go_wp2_with (first | (at_builtin; refine wpList_append_own _ rfl _ _ 71 rfl w.heap.size 5 u0 (.int .u8 0) 1 1 Tryz.underlying71 iu iu0 iu1 iu2 rfl (by decide) _ _ _ rfl (HO.out.alloc _) ⟨wr.heap.size, 0, none⟩ 2 2 [.int .u8 92, .int .u8 x.toNat] rfl rfl (cells_new _ [.int .u8 92, .int .u8 x.toNat] _) (ints_one [92, x.toNat]) ?e3 ?e4 ?e5 ?_))
          case e3 => unfold maxLen; omega
          case e4 => omega
          case e5 => have := HB.out.size; simp; omega
          intro v' w1 hown1 hgr _
          have HB1 := Lib.hid (below_push HB.out HO.out hgr)
          have hown2 := own_app (cs := [92, x]) rfl rfl hown1
          obtain ⟨a8, cap8, rfl⟩ := own_slice' hown2
          have HO1 := Lib.hid hown2
          clear hown1 hown2 hgr
          go_wp2_with fail
          go_roundw
          case rel => exact ⟨k + 1, a8, cap8, by rw [HN.out, HQ.out], by go_num, by omega, by rw [HN.out, HQ.out]; exact HO1.out, HB1.out⟩
          case measure => simp [intOf]; omega
        · clear hstep
          go_wp2_with (first | (at_builtin; refine wpList_append_own _ rfl _ _ 71 rfl w.heap.size 5 u0 (.int .u8 0) 1 1 Tryz.underlying71 iu iu0 iu1 iu2 rfl (by decide) _ _ _ rfl (HO.out.alloc _) ⟨wr.heap.size, 0, none⟩ 2 2 [.int .u8 92, .int .u8 x.toNat] rfl rfl (cells_new _ [.int .u8 92, .int .u8 x.toNat] _) (ints_one [92, x.toNat]) ?e3 ?e4 ?e5 ?_))
          case e3 => unfold maxLen; omega
          case e4 => omega
          case e5 => have := HB.out.size; simp; omega
          intro v' w1 hown1 hgr _
          have HB1 := Lib.hid (below_push HB.out HO.out hgr)
          have hown2 := own_app (cs := [92, x]) rfl rfl hown1
          obtain ⟨a8, cap8, rfl⟩ := own_slice' hown2
          have HO1 := Lib.hid hown2
          clear hown1 hown2 hgr
          go_wp2_with fail
          go_roundw
          case rel => exact ⟨k + 1, a8, cap8, by rw [HN.out, HQ.out], by go_num, by omega, by rw [HN.out, HQ.out]; exact HO1.out, HB1.out⟩
          case measure => simp [intOf]; omega
      · have b34 : ((x.toNat : Int) == 34) = false := by rw [beq_eq_false_iff_ne]; omega
        have b92 : ((x.toNat : Int) == 92) = false := by rw [beq_eq_false_iff_ne]; omega
        have e34 : (x == 34 || x == 92) = false := by
          rw [Bool.or_eq_false_iff, beq_eq_false_iff_ne, beq_eq_false_iff_ne]
          exact ⟨by rintro rfl; exact h34 (.inl rfl), by rintro rfl; exact h34 (.inr rfl)⟩
        by_cases hpr : x.toNat < 32 ∨ 126 < x.toNat
        · have HQ : RowKit.Hid (quoteB x = [92, 48 + x / 100, 48 + x / 10 % 10, 48 + x % 10]) := by
            show _ = _
            unfold quoteB
            rw [if_neg (by rw [e34]; exact Bool.false_ne_true), if_pos (by simpa using hpr)]
          have hstep : ∀ {P : Prop}, (decide ((x.toNat : Int) ≥ 32) = false → P) → (decide ((x.toNat : Int) ≥ 32) = true → decide ((x.toNat : Int) ≤ 126) = false → P) → P := fun f g => by
            by_cases h : x.toNat < 32
            · exact f (by simp; omega)
            · exact g (by simp; omega) (by simp; omega)
          clear hpr e34 h34
          refine hstep (fun b1 => ?_) (fun b1 b2 => ?_)
          · clear hstep
            go_wp2_with (first | (at_builtin; refine wpList_append_own _ rfl _ _ 71 rfl w.heap.size 5 u0 (.int .u8 0) 1 1 Tryz.underlying71 iu iu0 iu1 iu2 rfl (by decide) _ _ _ rfl (HO.out.alloc _) ⟨wr.heap.size, 0, none⟩ 4 4 [.int .u8 92, .int .u8 (48 + (x.toNat : Int) / 100), .int .u8 (48 + (x.toNat : Int) / 10 % 10), .int .u8 (48 + (x.toNat : Int) % 10)] rfl rfl (cells_new _ [.int .u8 92, .int .u8 (48 + (x.toNat : Int) / 100), .int .u8 (48 + (x.toNat : Int) / 10 % 10), .int .u8 (48 + (x.toNat : Int) % 10)] _) (ints_one [92, 48 + (x.toNat : Int) / 100, 48 + (x.toNat : Int) / 10 % 10, 48 + (x.toNat : Int) % 10]) ?e3 ?e4 ?e5 ?_))
            case e3 => unfold maxLen; omega
            case e4 => omega
            case e5 => have := HB.out.size; simp; omega
            intro v' w1 hown1 hgr _
            have HB1 := Lib.hid (below_push HB.out HO.out hgr)
            have hown2 := own_app (cs := [92, 48 + x / 100, 48 + x / 10 % 10, 48 + x % 10]) (digs x) rfl hown1
            obtain ⟨a8, cap8, rfl⟩ := own_slice' hown2
            have HO1 := Lib.hid hown2
            clear hown1 hown2 hgr
            go_wp2_with fail
            go_roundw
            case rel => exact ⟨k + 1, a8, cap8, by rw [HN.out, HQ.out], by go_num, by omega, by rw [HN.out, HQ.out]; exact HO1.out, HB1.out⟩
            case measure => simp [intOf]; omega
          · clear hstep
            go_wp2_with (first | (at_builtin; refine wpList_append_own _ rfl _ _ 71 rfl w.heap.size 5 u0 (.int .u8 0) 1 1 Tryz.underlying71 iu iu0 iu1 iu2 rfl (by decide) _ _ _ rfl (HO.out.alloc _) ⟨wr.heap.size, 0, none⟩ 4 4 [.int .u8 92, .int .u8 (48 + (x.toNat : Int) / 100), .int .u8 (48 + (x.toNat : Int) / 10 % 10), .int .u8 (48 + (x.toNat : Int) % 10)] rfl rfl (cells_new _ [.int .u8 92, .int .u8 (48 + (x.toNat : Int) / 100), .int .u8 (48 + (x.toNat : Int) / 10 % 10), .int .u8 (48 + (x.toNat : Int) % 10)] _) (ints_one [92, 48 + (x.toNat : Int) / 100, 48 + (x.toNat : Int) / 10 % 10, 48 + (x.toNat : Int) % 10]) ?e3 ?e4 ?e5 ?_))
            case e3 => unfold maxLen; omega
            case e4 => omega
            case e5 => have := HB.out.size; simp; omega
            intro v' w1 hown1 hgr _
            have HB1 := Lib.hid (below_push HB.out HO.out hgr)
            have hown2 := own_app (cs := [92, 48 + x / 100, 48 + x / 10 % 10, 48 + x % 10]) (digs x) rfl hown1
            obtain ⟨a8, cap8, rfl⟩ := own_slice' hown2
            have HO1 := Lib.hid hown2
            clear hown1 hown2 hgr
            go_wp2_with fail
            go_roundw
            case rel => exact ⟨k + 1, a8, cap8, by rw [HN.out, HQ.out], by go_num, by omega, by rw [HN.out, HQ.out]; exact HO1.out, HB1.out⟩
            case measure => simp [intOf]; omega
        · have HQ : RowKit.Hid (quoteB x = [x]) := by
            show _ = _
            unfold quoteB
            rw [if_neg (by rw [e34]; exact Bool.false_ne_true), if_neg (by simpa using hpr)]
          have b1 : decide ((x.toNat : Int) ≥ 32) = true := by simp; omega
          have b2 : decide ((x.toNat : Int) ≤ 126) = true := by simp; omega
          clear hpr e34 h34
          go_wp2_with (first | (at_builtin; refine wpList_append_own _ rfl _ _ 71 rfl w.heap.size 5 u0 (.int .u8 0) 1 1 Tryz.underlying71 iu iu0 iu1 iu2 rfl (by decide) _ _ _ rfl (HO.out.alloc _) ⟨wr.heap.size, 0, none⟩ 1 1 [.int .u8 x.toNat] rfl rfl (cells_new _ [.int .u8 x.toNat] _) (ints_one [x.toNat]) ?e3 ?e4 ?e5 ?_))
          case e3 => unfold maxLen; omega
          case e4 => omega
          case e5 => have := HB.out.size; simp; omega
          intro v' w1 hown1 hgr _
          have HB1 := Lib.hid (below_push HB.out HO.out hgr)
          have hown2 := own_app (cs := [x]) rfl rfl hown1
          obtain ⟨a8, cap8, rfl⟩ := own_slice' hown2
          have HO1 := Lib.hid hown2
          clear hown1 hown2 hgr
          go_wp2_with fail
          go_roundw
          case rel => exact ⟨k + 1, a8, cap8, by rw [HN.out, HQ.out], by go_num, by omega, by rw [HN.out, HQ.out]; exact HO1.out, HB1.out⟩
          case measure => simp [intOf]; omega
    · have hki : decide ((k : Int) < (s.size : Int)) = false := by simp; omega
      have hks : k = s.size := by omega
      have HE : RowKit.Hid (34 :: acc ++ [34] = quoteP s.data.toList) := by
        show _ = _
        rw [← hacc, hks, List.take_of_length_le (Nat.le_of_eq (by rw [← Lib.size_eq]))]; rfl
      have hcv := conv_string HO.out
      clear hacc hq hks
      go_wp2_with fail
      go_ret
      refine ⟨?_, HB.out⟩
      rw [← HE.out]
      show Ending.returned (.string _) = Ending.returned (.string _)
      congr 2
end Go.Proofs.YtcogfalhodjmfaaGreatDoor
