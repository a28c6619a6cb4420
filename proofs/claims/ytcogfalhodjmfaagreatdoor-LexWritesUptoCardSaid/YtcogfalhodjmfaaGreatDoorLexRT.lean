/- The reference's text: what the call returns. Conditions: those of the theorem. -/
import Derived.Test.YtcogfalhodjmfaaGreatDoorLexRE
import Derived.Test.YtcogfalhodjmfaaGreatDoorLexRN
namespace Go.Proofs.YtcogfalhodjmfaaGreatDoor
open Go.RowKit Kiln
open Go.Proofs

def RTPost (r : Option (Bytes × Nat)) (base : Nat) (w : World) (e : Ending) (w' : World) : Prop :=
  Below w.heap.size w w' ∧ match r with
  | none => ∃ (x : ByteArray) (n : Int), e = .returned (.tuple #[.string x, .int .i64 n, .bool false])
  | some (t, n) => e = .returned (.tuple #[str t, .int .i64 (base + n : Nat), .bool true])

theorem rt_bad {r : Option (Bytes × Nat)} {base : Nat} {w w' : World} (h : r = none) (hb : Below w.heap.size w w') (x : ByteArray) (n : Int) : RTPost r base w (.returned (.tuple #[.string x, .int .i64 n, .bool false])) w' := by subst h; exact ⟨hb, x, n, rfl⟩
theorem rt_good {r : Option (Bytes × Nat)} {base : Nat} {w w' : World} {t : Bytes} {n : Nat} {v : Int} (h : r = some (t, n)) (hv : v = (base + n : Nat)) (hb : Below w.heap.size w w') : RTPost r base w (.returned (.tuple #[str t, .int .i64 v, .bool true])) w' := by subst h; subst hv; exact ⟨hb, rfl⟩

theorem owns_keep' {w w' : World} {B n size : Nat} {e : TypeId} {v : Value} {xs : List Value} (h : w.ownsRow B e size v n xs) (hb : ∀ k, B ≤ k → w'.heap[k]? = w.heap[k]?) : w'.ownsRow B e size v n xs := by
  refine ⟨h.1, ?_⟩
  rcases h.2 with hn | ⟨g, cap, cur, rfl, hbg, hg, rest⟩
  · exact .inl hn
  · exact .inr ⟨g, cap, cur, rfl, hbg, (hb g hbg).trans hg, rest⟩

theorem q_escR {s : ByteArray} {r : Option (Bytes × Nat)} {base i k : Nat} {acc : Bytes} (h1 : base ≤ i) (h2 : acc.length ≤ i + 1) (h : r = quotedC ((s.data.toList.drop (i + 1)).drop k) acc (i - base + 1 + k)) : QAt s r base (i + (k + 1)) acc := by
  refine ⟨by omega, ?_, by omega⟩
  rw [h, List.drop_drop, show i + (k + 1) - base = i - base + 1 + k from by omega, show i + 1 + k = i + (k + 1) from by omega]

set_option maxRecDepth 100000 in
set_option maxHeartbeats 2000000 in
theorem rtext_any (s : ByteArray) (b i0 q : Nat) (w : World) (h : RSc w s b i0) (hq : i0 + q + 1 ≤ s.size) :
    Calls Tryz.prog 65 #[.pointer (some ⟨b, 0, none⟩), .int .i64 q] w (RTPost (quotedC (s.data.toList.drop (i0 + q + 1)) [] (q + 1)) i0 w) := by
  have hs := h.txt
  have ha := h.pos
  have hz := h.sz
  clear h
  obtain ⟨u0, hu, hu0, hu1, hu2⟩ := info_parts Tryz.infoU8
  obtain ⟨r, hr⟩ : ∃ r, quotedC (s.data.toList.drop (i0 + q + 1)) [] (q + 1) = r := ⟨_, rfl⟩
  rw [hr]
  have hq0 : QAt s r i0 (i0 + q + 1) [] := ⟨by omega, by rw [show i0 + q + 1 - i0 = q + 1 from by omega]; exact hr.symm, Nat.zero_le _⟩
  clear hr
  have HQ0 := Lib.hid hq0; clear hq0
  go_enter Tryz.func65, Tryz.ntmps65
  go_wp2_with fail
  go_loopw [7, 8] (fun v iv wr => ∃ (i : Nat) (acc : Bytes), iv = .int .i64 i ∧ i ≤ 1048600 ∧ wr.ownsRow w.heap.size 5 1 v acc.length (bvals acc) ∧ Below w.heap.size w wr ∧ QAt s r i0 i acc)
    (fun _ iv _ => s.size - (intOf iv).toNat)
  case atStart => exact ⟨i0 + q + 1, [], by go_num, by omega, World.ownsRow_nil _ _ _ _, Below.refl _ _, HQ0.out⟩
  case round =>
    obtain ⟨i, acc, rfl, hib, hown, hbw, hqa⟩ := hrel
    have hsr := cell_later hbw hs
    have HO := Lib.hid hown
    have HB := Lib.hid hbw
    clear HQ0
    by_cases hlt : i < s.size
    · obtain ⟨x, hx⟩ : ∃ x : UInt8, s[i]'hlt = x := ⟨_, rfl⟩
      have hd := cell_u8 s i hlt
      rw [hx] at hd
      have hx256 := x.toNat_lt
      have hI : (i : Int) < (s.size : Int) := by omega
      obtain ⟨hq1, hq2, hq3⟩ := hqa
      rw [hd] at hq2
      clear hd
      have HQ := Lib.hid hq2; clear hq2
      by_cases h34 : x.toNat = 34
      · have HE := Lib.hid (HQ.out.trans (quotedC_end _ _ _ h34))
        have b34 : ((x.toNat : Int) != 34) = false := by rw [bne_eq_false_iff_eq]; omega
        have hcv : ∀ n, (convert 71 9 _).run Tryz.prog (wr.drewN n) = .ok (str acc) (wr.drewN n) := fun n => conv_string (owns_keep' (w' := wr.drewN n) hown fun _ _ => rfl)
        clear hown
        go_wp2_with fail
        go_quiet (fail)
        go_wp2_with fail
        go_ret3
        exact rt_good HE.out (by omega) (below_drewN HB.out _)
      · have b34 : ((x.toNat : Int) != 34) = true := by rw [bne_iff_ne]; omega
        by_cases h92 : x.toNat = 92
        · have b92 : ((x.toNat : Int) != 92) = false := by rw [bne_eq_false_iff_eq]; omega
          have hbd := escP_bounds (s.data.toList.drop (i + 1))
          rw [List.length_drop, ← Lib.size_eq] at hbd
          have hdr : (s.extract i s.size).data.toList.drop 1 = s.data.toList.drop (i + 1) := by
            rw [ext_take s i s.size (s.size - i) (by omega), List.take_of_length_le (by rw [List.length_drop, ← Lib.size_eq]; omega), List.drop_drop]
          have hcall := fun W => rescape_any (s.extract i s.size) 0 W (by rw [ByteArray.size_extract]; omega) (by rw [ByteArray.size_extract]; omega)
          unfold REscPost at hcall
          rw [hdr] at hcall
          clear hdr
          generalize hE : escP (s.data.toList.drop (i + 1)) = E at *
          obtain ⟨v, k⟩ := E
          obtain ⟨hv1, hv2, hk2⟩ := hbd
          have HEE := Lib.hid hE; clear hE
          simp only [] at hv1 hv2 hk2
          by_cases hk : k = 0
          · subst hk
            have HC := Lib.hid hcall; clear hcall
            have HE := Lib.hid (HQ.out.trans (quotedC_fall _ _ _ h92 HEE.out))
            clear hown
            go_wp2_with fail
            refine (HC.out _).mono ?_
            rintro e w2 ⟨rfl, m2, rfl⟩
            go_wp2_with fail
            go_ret3
            exact rt_bad HE.out (below_drewN HB.out _) _ _
          · have e1 : rescOf (v, k) = (v, k + 1) := by unfold rescOf; rw [if_neg hk]
            rw [e1] at hcall
            have HC := Lib.hid hcall; clear hcall e1
            have HE := Lib.hid (HQ.out.trans (quotedC_esc _ _ _ h92 HEE.out hk))
            have bk : ((k : Int) + 1 == 0) = false := by rw [beq_eq_false_iff_ne]; omega
            by_cases hv : 0 ≤ v
            · rw [if_pos hv] at HE
              obtain ⟨c, hc⟩ : ∃ c : UInt8, v = c.toNat := ⟨v.toNat.toUInt8, by simp; omega⟩
              subst hc
              have hc256 := c.toNat_lt
              rw [show ((c.toNat : Int)).toNat.toUInt8 = c from by simp] at HE
              go_wp2_with fail
              refine (HC.out _).mono ?_
              rintro e w2 ⟨rfl, m2, rfl⟩
              have HO2 := Lib.hid (owns_below HO.out (below_drewN (Below.refl _ wr) m2))
              have HB2 := Lib.hid (below_drewN HB.out m2)
              have hsz2 := HB.out.size
              clear hown
              go_wp2_with (first | (at_builtin; refine wpList_append_own _ rfl _ _ 71 rfl w.heap.size 5 u0 (.int .u8 0) 1 1 Tryz.underlying71 hu hu0 hu1 hu2 rfl (by decide) _ _ _ rfl (HO2.out.alloc _) ⟨wr.heap.size, 0, none⟩ 1 1 [.int .u8 c.toNat] rfl rfl (cell_one_new _ _ _) (one_u8 _) ?e3 ?e4 ?e5 ?_))
              case e3 => unfold maxLen; omega
              case e4 => omega
              case e5 => simp; omega
              intro v' w1 hown1 hgr _
              have HO1 := Lib.hid hown1
              have HB1 := Lib.hid (below_push HB2.out HO2.out hgr)
              have hs1 := cell_later HB1.out hs
              clear hown1 hgr hbw
              go_wp2_with fail
              go_roundw
              case rel => exact ⟨i + (k + 1), acc ++ [c], by go_num, by omega, owns_snoc HO1.out, HB1.out, q_escR hq1 (by simp; omega) HE.out⟩
              case measure => simp [intOf]; omega
            · rw [if_neg hv] at HE
              go_wp2_with fail
              refine (HC.out _).mono ?_
              rintro e w2 ⟨rfl, m2, rfl⟩
              have HO2 := Lib.hid (owns_below HO.out (below_drewN (Below.refl _ wr) m2))
              have HB2 := Lib.hid (below_drewN HB.out m2)
              clear hown hbw
              go_wp2_with fail
              go_roundw
              case rel => exact ⟨i + (k + 1), acc, by go_num, by omega, HO2.out, HB2.out, q_escR hq1 (by omega) HE.out⟩
              case measure => simp [intOf]; omega
        · have b92 : ((x.toNat : Int) != 92) = true := by rw [bne_iff_ne]; omega
          by_cases hlo : x.toNat < 32
          · have HE := Lib.hid (HQ.out.trans (quotedC_bad _ _ _ (.inl hlo)))
            clear hown
            go_wp2_with fail
            go_ret3
            exact rt_bad HE.out HB.out _ _
          · by_cases hhi : 126 < x.toNat
            · have HE := Lib.hid (HQ.out.trans (quotedC_bad _ _ _ (.inr hhi)))
              clear hown
              go_wp2_with fail
              go_ret3
              exact rt_bad HE.out HB.out _ _
            · have HE := Lib.hid (HQ.out.trans (quotedC_plain _ _ _ h34 hlo hhi h92))
              go_wp2_with (first | (at_builtin; refine wpList_append_own _ rfl _ _ 71 rfl w.heap.size 5 u0 (.int .u8 0) 1 1 Tryz.underlying71 hu hu0 hu1 hu2 rfl (by decide) _ _ _ rfl (HO.out.alloc _) ⟨wr.heap.size, 0, none⟩ 1 1 [.int .u8 x.toNat] rfl rfl (cell_one_new _ _ _) (one_u8 _) ?c3 ?c4 ?c5 ?_))
              case c3 => unfold maxLen; omega
              case c4 => omega
              case c5 => have := HB.out.size; simp; omega
              intro v' w1 hown1 hgr _
              have HO1 := Lib.hid hown1
              have HB1 := Lib.hid (below_push HB.out HO.out hgr)
              clear hown1 hgr hown hbw
              go_wp2_with fail
              go_roundw
              case rel => exact ⟨i + 1, acc ++ [x], by go_num, by omega, owns_snoc HO1.out, HB1.out, q_step hq1 hq3 HE.out⟩
              case measure => simp [intOf]; omega
    · have HE := Lib.hid (show r = none by
        rw [hqa.2.1, List.drop_of_length_le (by rw [← Lib.size_eq]; omega)]; exact quotedC_nil _ _)
      have hI : decide ((i : Int) < (s.size : Int)) = false := by simp; omega
      have hcv : ∀ n, (convert 71 9 _).run Tryz.prog (wr.drewN n) = .ok (str acc) (wr.drewN n) := fun n => conv_string (owns_keep' (w' := wr.drewN n) hown fun _ _ => rfl)
      clear hown hqa
      go_wp2_with fail
      go_quiet (fail)
      go_wp2_with fail
      go_ret3
      exact rt_bad HE.out (below_drewN HB.out _) _ _

end Go.Proofs.YtcogfalhodjmfaaGreatDoor
