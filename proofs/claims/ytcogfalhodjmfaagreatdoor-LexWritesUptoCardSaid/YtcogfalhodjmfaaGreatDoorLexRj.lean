/- The reference's Join: what the call returns. Conditions: those of each theorem. -/
import Derived.Test.YtcogfalhodjmfaaGreatDoorLexRv
import Derived.Lib.AppendStr
namespace Go.Proofs.YtcogfalhodjmfaaGreatDoor
open Go.RowKit Kiln
open Go.Proofs

/-- the two sides' states: long, what the program holds, what the reference holds -/
def JSt (lg : Bool) (acc out : Bytes) : Prop := out.length ≤ 1048576 ∧ (lg = true ∧ 1048576 < acc.length ∨ lg = false ∧ acc = out)
theorem JSt.init : JSt false [] [] := ⟨by simp, .inr ⟨rfl, rfl⟩⟩
theorem JSt.big {acc out : Bytes} (h : JSt true acc out) : 1048576 < acc.length := by
  rcases h.2 with h | h
  · exact h.2
  · cases h.1
theorem JSt.short {acc out : Bytes} (h : JSt false acc out) : acc.length ≤ 1048576 ∧ acc = out := by
  rcases h.2 with h2 | h2
  · cases h2.1
  · exact ⟨by rw [h2.2]; exact h.1, h2.2⟩
theorem JSt.long {acc out s : Bytes} (h : JSt false acc out) (hl : 1048576 < out.length + s.length) : JSt true (if acc.length ≤ 1048576 then acc ++ s else acc) out := by
  obtain ⟨h1, rfl⟩ := h.short
  rw [if_pos h1]
  exact ⟨h1, .inl ⟨rfl, by rw [List.length_append]; exact hl⟩⟩
theorem JSt.more {acc out s : Bytes} (h : JSt false acc out) (hl : out.length + s.length ≤ 1048576) : JSt false (if acc.length ≤ 1048576 then acc ++ s else acc) (out ++ s) := by
  obtain ⟨h1, rfl⟩ := h.short
  rw [if_pos h1]
  exact ⟨by rw [List.length_append]; exact hl, .inr ⟨rfl, rfl⟩⟩
theorem JSt.stay {acc out s : Bytes} (h : JSt true acc out) : JSt true (if acc.length ≤ 1048576 then acc ++ s else acc) out := by
  have := h.big
  rw [if_neg (by omega)]
  exact h

set_option maxRecDepth 100000 in
set_option maxHeartbeats 4000000 in
theorem rjoin_any (l : List Tok) (v : Value) (w : World) (hv : TkS w v l) (hz : ∀ u ∈ l, Fits u) (hlen : l.length ≤ 1099511627776) :
    Calls Tryz.prog 15 #[v] w (WrPost (joinP l) w) := by
  obtain ⟨u0, iu, iu0, iu1, iu2⟩ := info_parts Tryz.infoU8
  obtain ⟨a, cap, rfl, hl⟩ := hv
  have HL := Lib.hid hl; clear hl
  have HZ := Lib.hid hz; clear hz
  obtain ⟨R, hR⟩ : ∃ R, joinP l = R := ⟨_, rfl⟩
  rw [hR]
  have HR := Lib.hid hR.symm; clear hR
  go_enter Tryz.func15, Tryz.ntmps15
  go_wp2_with fail
  go_loopw [4, 5, 6] (fun v4 v5 j wr => ∃ (k : Nat) (acc out : Bytes) (lg : Bool) (a4 : Option Addr) (cap4 : Nat), v4 = .slice a4 out.length cap4 ∧ v5 = .bool lg ∧ j = .int .i64 k ∧ k ≤ l.length ∧ R = joinG (k == 0) acc (l.drop k) ∧ wr.ownsRow w.heap.size 5 1 (.slice a4 out.length cap4) out.length (bvals out) ∧ Below w.heap.size w wr ∧ JSt lg acc out) (fun _ _ j _ => l.length - (intOf j).toNat)
  case atStart => exact ⟨0, [], [], false, none, 0, rfl, rfl, rfl, Nat.zero_le _, HR.out, World.ownsRow_nil _ _ _ _, Below.refl _ _, JSt.init⟩
  case round =>
    clear HR
    obtain ⟨k, acc, out, lg, a4, cap4, rfl, rfl, rfl, hk, heq, hown, hbe, hst⟩ := hrel
    have HEQ := Lib.hid heq
    have HO := Lib.hid hown
    have HB := Lib.hid hbe
    have hol := hst.1
    have HST := Lib.hid hst
    clear heq hown hbe hst
    by_cases hlt : k < l.length
    · have hki : (k : Int) < (l.length : Int) := by omega
      obtain ⟨u, hu⟩ : ∃ u, l[k]? = some u := ⟨l[k], List.getElem?_eq_getElem hlt⟩
      obtain ⟨b, off, rfl, hx⟩ := HL.out (by rintro rfl; simp at hlt)
      obtain ⟨pv, hs, hc⟩ := hx k u hu
      obtain ⟨a2, cap2, rfl, _⟩ := id hs
      have hc' : ∀ (j : Nat) x q, (tokVals u (.slice a2 u.path.length cap2))[j]? = some x → q = off + (5 * k + j) → wr.cell? ⟨b, q, none⟩ = some x := fun j x q hj hq => by
        subst hq; exact cell_later HB.out (hc j x hj)
      have c0 : wr.cell? ⟨b, off + k * 5, none⟩ = some (.int .i64 u.kind) := hc' 0 _ _ rfl (by omega)
      have c1 : wr.cell? ⟨b, off + k * 5 + 1, none⟩ = some (str u.text) := hc' 1 _ _ rfl (by omega)
      have c2 : wr.cell? ⟨b, off + k * 5 + 2, none⟩ = some (.slice a2 u.path.length cap2) := hc' 2 _ _ rfl (by omega)
      have c3 : wr.cell? ⟨b, off + k * 5 + 3, none⟩ = some (.int .i64 u.line) := hc' 3 _ _ rfl (by omega)
      have c4 : wr.cell? ⟨b, off + k * 5 + 4, none⟩ = some (.int .i64 u.col) := hc' 4 _ _ rfl (by omega)
      clear hc hx hc'
      have HF := Lib.hid (HZ.out u (List.mem_of_getElem? hu))
      have hdr : l.drop k = u :: l.drop (k + 1) := by
        rw [List.drop_eq_getElem_cons hlt]
        rw [List.getElem?_eq_getElem hlt] at hu
        simp only [Option.some.injEq] at hu
        rw [hu]
      have HEN : RowKit.Hid (R = match writeP u.kind u.text u.path with
          | .error e => .error e
          | .ok s => joinG false (if acc.length ≤ 1048576 then acc ++ (if (k == 0) then s else 32 :: s) else acc) (l.drop (k + 1))) := by
        show _ = _
        rw [HEQ.out, hdr]; rfl
      clear hdr hu HEQ
      have HWR := Lib.hid (rwrite_any u.kind u.text (.slice a2 u.path.length cap2) u.path u.line u.col wr (hs.below HB.out) HF.out.1 HF.out.2.1 HF.out.2.2)
      clear hs HF
      go_wp2_with fail
      refine HWR.out.mono ?_
      rintro e w2 ⟨hb2, hr⟩
      have HB2 := Lib.hid (HB.out.trans (hb2.mono HB.out.size))
      have HO2 := Lib.hid (owns_below HO.out hb2)
      clear hb2 HWR
      cases hwr : writeP u.kind u.text u.path with
      | error c =>
        rw [hwr] at hr HEN
        have hc := writeP_err hwr
        have hcn : ((c : Int) != 0) = true := by rw [bne_iff_ne]; omega
        have HE : RowKit.Hid (R = .error c) := HEN.out
        subst hr
        clear hwr hc
        go_wp2_with fail
        go_ret2
        exact wr_bad HE.out rfl HB2.out
      | ok s =>
        rw [hwr] at hr HEN
        have hsz := writeP_size hwr
        subst hr
        clear hwr
        obtain ⟨s2, hs2⟩ : ∃ s2, (if (k == 0) then s else 32 :: s) = s2 := ⟨_, rfl⟩
        have hs2l : s2.length ≤ 1048577 := by rw [← hs2]; split <;> (try simp only [List.length_cons]) <;> omega
        have HE : RowKit.Hid (R = joinG false (if acc.length ≤ 1048576 then acc ++ s2 else acc) (l.drop (k + 1))) := by show _ = _; rw [← hs2]; exact HEN.out
        have HS2 := Lib.hid hs2
        clear HEN hs2
        go_upto_if 27 with fail
        go_cut [7] (fun v wc => v = str s2 ∧ wc = w2)
        case first =>
          by_cases hk0 : k = 0
          · have b1 : ¬ 0 < k := by omega
            have HQ : RowKit.Hid (s2 = s) := by show _ = _; rw [← HS2.out, hk0]; rfl
            clear hk0
            go_wp2_with fail
            go_meet
            exact ⟨by rw [HQ.out], rfl⟩
          · have b1 : 0 < k := by omega
            have HQ : RowKit.Hid (s2 = 32 :: s) := by show _ = _; rw [← HS2.out, if_neg (by simpa using hk0)]
            obtain ⟨q, hq⟩ : ∃ q : ByteArray, (⟨s.toArray⟩ : ByteArray) = q := ⟨_, rfl⟩
            have hqs : q.size ≤ 1048576 := by rw [← hq, Lib.size_eq]; exact hsz
            have HQL := Lib.hid (show q.data.toList = s by rw [← hq])
            rw [show str s = .string q by rw [← hq]]
            clear hk0 hq
            go_wp2_with fail
            go_meet
            refine ⟨?_, rfl⟩
            rw [HQ.out, ← HQL.out]
            congr 1
        case rest =>
          obtain ⟨rfl, rfl⟩ := hcut
          obtain ⟨q, hq⟩ : ∃ q : ByteArray, (⟨s2.toArray⟩ : ByteArray) = q := ⟨_, rfl⟩
          have hqs : q.size ≤ 1048577 := by rw [← hq, Lib.size_eq]; exact hs2l
          have HQL := Lib.hid (show q.data.toList = s2 by rw [← hq])
          have hql : q.size = s2.length := by rw [← hq, Lib.size_eq]
          have HQS := Lib.hid hql
          rw [show str s2 = .string q by rw [← hq]]
          clear hq HS2 hql hs2l hsz
          cases lg
          · by_cases hlong : 1048576 < out.length + q.size
            · have hbI : (1048576 : Int) - q.size < (out.length : Int) := by omega
              have HN := Lib.hid (HST.out.long (s := s2) (by rw [← HQS.out]; exact hlong))
              go_wp2_with fail
              go_roundw
              case rel => exact ⟨k + 1, _, out, true, a4, cap4, rfl, rfl, by go_num, by omega, HE.out, HO2.out, HB2.out, HN.out⟩
              case measure => simp [intOf]; omega
            · have hbI : decide ((out.length : Int) > 1048576 - q.size) = false := by simp; omega
              have HN := Lib.hid (HST.out.more (s := s2) (by rw [← HQS.out]; omega))
              go_wp2_with (first | (at_builtin; refine Lib.wpList_append_own_string _ rfl _ _ 71 9 rfl w.heap.size 5 u0 Tryz.underlying71 Tryz.underlying9 iu iu0 iu1 iu2 _ _ _ rfl HO2.out _ rfl ?e3 ?e4 ?e5 ?_))
              case e3 => unfold maxLen; omega
              case e4 => omega
              case e5 => exact HB2.out.size
              intro v' w1 hown1 hgr _
              have HB1 := Lib.hid (HB2.out.grown hgr HB2.out.size (fun k hk => (HO2.out.lt k hk).1))
              have hown2 := own_app (cs := s2) (by rw [← HQL.out]; rfl) HQS.out hown1
              obtain ⟨a8, cap8, rfl⟩ := own_slice' hown2
              have HO1 := Lib.hid hown2
              clear hown1 hown2 hgr
              go_wp2_with fail
              go_roundw
              case rel => exact ⟨k + 1, _, out ++ s2, false, a8, cap8, rfl, rfl, by go_num, by omega, HE.out, HO1.out, HB1.out, HN.out⟩
              case measure => simp [intOf]; omega
          · have HN := Lib.hid (HST.out.stay (s := s2))
            go_wp2_with fail
            go_roundw
            case rel => exact ⟨k + 1, _, out, true, a4, cap4, rfl, rfl, by go_num, by omega, HE.out, HO2.out, HB2.out, HN.out⟩
            case measure => simp [intOf]; omega
    · have hki : decide ((k : Int) < (l.length : Int)) = false := by simp; omega
      have hkl : k = l.length := by omega
      have HE : RowKit.Hid (R = if 1048576 < acc.length then .error 2 else .ok acc) := by
        show _ = _
        rw [HEQ.out, hkl, List.drop_length]; rfl
      clear HEQ
      cases lg
      · obtain ⟨h1, h2⟩ := HST.out.short
        subst h2
        have HE2 : RowKit.Hid (R = .ok acc) := by show _ = _; rw [HE.out, if_neg (by omega)]
        have hcv := conv_string HO.out
        clear h1
        go_wp2_with fail
        go_ret2
        exact wr_good HE2.out HB.out
      · have HE2 : RowKit.Hid (R = .error 2) := by show _ = _; rw [HE.out, if_pos HST.out.big]
        go_wp2_with fail
        go_ret2
        exact wr_bad HE2.out rfl HB.out

end Go.Proofs.YtcogfalhodjmfaaGreatDoor
