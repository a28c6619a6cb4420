/- The call of LexBlanks: true. -/
import Derived.Test.YtcogfalhodjmfaaDoorLexAw
import Derived.Test.YtcogfalhodjmfaaDoorLexSn
import Derived.Test.YtcogfalhodjmfaaDoorLexBl
import Derived.Test.YtcogfalhodjmfaaDoorLexSz
import Derived.Lib.AppendStr
namespace Go.Proofs.YtcogfalhodjmfaaDoor
open Go.RowKit Kiln
open Go.Proofs

theorem joinG_err' : ∀ (l : List Tok) (b : Bool) (acc : Bytes) {c : Nat}, joinG b acc l = .error c → c ≠ 0
  | [], b, acc, c, h => by
    simp only [joinG] at h
    split at h
    · simp only [Except.error.injEq] at h; omega
    · cases h
  | u :: l, b, acc, c, h => by
    simp only [joinG] at h
    split at h
    · rename_i e he
      simp only [Except.error.injEq] at h
      have := writeP_err he
      omega
    · exact joinG_err' l _ _ h

theorem own_slice {W : World} {B n size : Nat} {e : TypeId} {v : Value} {xs : List Value} (h : W.ownsRow B e size v n xs) : ∃ a cap, v = .slice a n cap := by
  rcases h.2 with ⟨rfl, h0⟩ | ⟨g, cap, cur, rfl, _⟩
  · exact ⟨none, 0, by rw [h0]⟩
  · exact ⟨_, cap, rfl⟩

theorem chain_seg (q s : ByteArray) : (({ data := #[9] } : ByteArray) ++ q ++ { data := #[13, 10, 40, 42] } ++ s ++ { data := #[40, 42, 42, 41] } ++ s ++ { data := #[42, 41] }).data.toList = seg s.data.toList q.data.toList := by
  simp [seg, tailSeg]
theorem chain_size (q s : ByteArray) : (({ data := #[9] } : ByteArray) ++ q ++ { data := #[13, 10, 40, 42] } ++ s ++ { data := #[40, 42, 42, 41] } ++ s ++ { data := #[42, 41] }).size = q.size + 2 * s.size + 11 := by
  rw [Lib.size_eq, chain_seg, Lib.size_eq, Lib.size_eq]
  simp [seg, tailSeg]; omega
theorem own_seg {w1 : World} {B : Nat} {v : Value} {acc x : Bytes} {q s : ByteArray} (hq : q.data.toList = x) (h : w1.ownsRow B 5 1 v (acc.length + (1 + q.size + 4 + s.size + 4 + s.size + 2)) (bvals acc ++ Lib.strCells (({ data := #[9] } : ByteArray) ++ q ++ { data := #[13, 10, 40, 42] } ++ s ++ { data := #[40, 42, 42, 41] } ++ s ++ { data := #[42, 41] }))) :
    w1.ownsRow B 5 1 v (acc ++ seg s.data.toList x).length (bvals (acc ++ seg s.data.toList x)) := by
  subst hq
  rw [← chain_seg, List.length_append, ← Lib.size_eq, chain_size, show q.size + 2 * s.size + 11 = 1 + q.size + 4 + s.size + 4 + s.size + 2 by omega]
  have e : bvals (acc ++ (({ data := #[9] } : ByteArray) ++ q ++ { data := #[13, 10, 40, 42] } ++ s ++ { data := #[40, 42, 42, 41] } ++ s ++ { data := #[42, 41] }).data.toList) = bvals acc ++ Lib.strCells (({ data := #[9] } : ByteArray) ++ q ++ { data := #[13, 10, 40, 42] } ++ s ++ { data := #[40, 42, 42, 41] } ++ s ++ { data := #[42, 41] }) := by
    simp only [bvals, List.map_append]; rfl
  rw [e]; exact h
theorem take_snoc {l : List Tok} {k : Nat} {u : Tok} (h : l[k]? = some u) : l.take k ++ [u] = l.take (k + 1) := by
  obtain ⟨hk, rfl⟩ := List.getElem?_eq_some_iff.1 h
  exact (List.take_succ_eq_append_getElem hk).symm

set_option maxRecDepth 100000 in
set_option maxHeartbeats 4000000 in
theorem blanks_any (l : List Tok) (s : ByteArray) (v : Value) (w : World) (hg : Gl w) (hv : TkS w v l) (hz : ∀ u ∈ l, Fits u) (hlen : l.length ≤ 1099511627776) (hs : s.size ≤ 17592186044416) :
    Calls Tryd.prog 5 #[v, .string s] w fun e w' => e = .returned (.bool true) ∧ Below w.heap.size w w' := by
  obtain ⟨u0, iu, iu0, iu1, iu2⟩ := info_parts Tryd.infoU8
  have HG := Lib.hid hg; clear hg
  have HV := Lib.hid hv
  have HZ := Lib.hid hz; clear hz
  obtain ⟨a, cap, rfl, _⟩ := hv
  have HAW := Lib.hid (awake_any w HG.out)
  go_enter Tryd.func5, Tryd.ntmps5
  go_wp2_with fail
  refine HAW.out.mono ?_
  rintro e w2 ⟨rfl, hb2⟩
  have HB2 := Lib.hid hb2
  clear hb2 HAW
  go_wp2_with fail
  go_loopw [5] (fun j wr => ∃ k : Nat, j = .int .i64 k ∧ k ≤ s.size ∧ wr = w2 ∧ Free (s.data.toList.take k)) (fun j _ => s.size - (intOf j).toNat)
  case atStart => exact ⟨0, rfl, Nat.zero_le _, rfl, by intro c hc; simp at hc⟩
  case round =>
    obtain ⟨k, rfl, hk, rfl, hfr⟩ := hrel
    have HFR := Lib.hid hfr; clear hfr
    by_cases hlt : k < s.size
    · have hki : (k : Int) < (s.size : Int) := by omega
      obtain ⟨x, hx⟩ : ∃ x : UInt8, s[k]'hlt = x := ⟨_, rfl⟩
      have hbnd : ((s.data.toList.take (k + 1)) = s.data.toList.take k ++ [x]) := by
        have hk' : k < s.data.toList.length := by rw [← Lib.size_eq]; exact hlt
        rw [List.take_succ_eq_append_getElem hk']
        rw [← hx]; rfl
      have HBND := Lib.hid hbnd; clear hbnd
      by_cases h42 : x.toNat = 42
      · have b1 : ((x.toNat : Int) == 42) = true := by rw [beq_iff_eq]; omega
        go_wp2_with fail
        go_ret
        exact ⟨rfl, HB2.out⟩
      · have b1 : ((x.toNat : Int) == 42) = false := by rw [beq_eq_false_iff_ne]; omega
        by_cases h40 : x.toNat = 40
        · have b2 : ((x.toNat : Int) == 40) = true := by rw [beq_iff_eq]; omega
          go_wp2_with fail
          go_ret
          exact ⟨rfl, HB2.out⟩
        · have b2 : ((x.toNat : Int) == 40) = false := by rw [beq_eq_false_iff_ne]; omega
          by_cases h41 : x.toNat = 41
          · have b3 : ((x.toNat : Int) == 41) = true := by rw [beq_iff_eq]; omega
            go_wp2_with fail
            go_ret
            exact ⟨rfl, HB2.out⟩
          · have b3 : ((x.toNat : Int) == 41) = false := by rw [beq_eq_false_iff_ne]; omega
            go_wp2_with fail
            go_roundw
            case rel =>
              refine ⟨k + 1, by go_num, by omega, trivial, ?_⟩
              rw [HBND.out]
              intro c hc
              rcases List.mem_append.1 hc with hc | hc
              · exact HFR.out c hc
              · obtain rfl : c = x := by simpa using hc
                exact ⟨fun e => h42 (by rw [e]; decide), fun e => h40 (by rw [e]; decide), fun e => h41 (by rw [e]; decide)⟩
            case measure => simp [intOf]; omega
    · have hki : decide ((k : Int) < (s.size : Int)) = false := by simp; omega
      have HF := Lib.hid (show Free s.data.toList by
        have := HFR.out
        rw [List.take_of_length_le (by rw [← Lib.size_eq]; omega)] at this
        exact this)
      clear HFR
      go_wp2_with fail
      clear hki hlt hk
      have HV2 := Lib.hid (HV.out.below HB2.out)
      obtain ⟨_, _, hve, hl⟩ := id HV2.out
      obtain ⟨rfl, -, rfl⟩ := (Value.slice.injEq ..).mp hve
      have HL := Lib.hid hl
      clear hve hl
      go_loopw [6, 7] (fun v6 j wr' => ∃ (k : Nat) (Ws : List Bytes) (a6 : Option Addr) (cap6 : Nat), v6 = .slice a6 (Ws.flatMap (seg s.data.toList)).length cap6 ∧ j = .int .i64 k ∧ k ≤ l.length ∧ Rels (l.take k) Ws ∧ wr'.ownsRow wr.heap.size 5 1 (.slice a6 (Ws.flatMap (seg s.data.toList)).length cap6) (Ws.flatMap (seg s.data.toList)).length (bvals (Ws.flatMap (seg s.data.toList))) ∧ Below w.heap.size w wr' ∧ Below wr.heap.size wr wr' ∧ (Ws.flatMap (seg s.data.toList)).length ≤ 2097252 + 2 * s.size) (fun _ j _ => l.length - (intOf j).toNat)
      case atStart => exact ⟨0, [], none, 0, rfl, rfl, Nat.zero_le _, trivial, World.ownsRow_nil _ _ _ _, HB2.out, Below.refl _ _, by simp⟩
      case round =>
        obtain ⟨k2, Ws, a6, cap6, rfl, rfl, hk2, hrels, hown, hbw, hbw2, hal⟩ := hrel
        have HO := Lib.hid hown
        have HB := Lib.hid hbw
        have HBR := Lib.hid hbw2
        have HRL := Lib.hid hrels
        obtain ⟨acc, hacc⟩ : ∃ acc, Ws.flatMap (seg s.data.toList) = acc := ⟨_, rfl⟩
        rw [hacc] at hal HO ⊢
        have HACC := Lib.hid hacc
        clear hown hbw hbw2 hrels hacc
        by_cases hlt : k2 < l.length
        · have hki : (k2 : Int) < (l.length : Int) := by omega
          obtain ⟨u, hu⟩ : ∃ u, l[k2]? = some u := ⟨l[k2], List.getElem?_eq_getElem hlt⟩
          obtain ⟨b, off, rfl, hx⟩ := HL.out (by rintro rfl; simp at hlt)
          obtain ⟨pv, hps, hc⟩ := hx k2 u hu
          obtain ⟨a2, cap2, rfl, _⟩ := id hps
          have hc' : ∀ (j : Nat) x q, (tokVals u (.slice a2 u.path.length cap2))[j]? = some x → q = off + (5 * k2 + j) → wr.cell? ⟨b, q, none⟩ = some x := fun j x q hj hq => by
            subst hq; exact cell_later HBR.out (hc j x hj)
          have c0 : wr.cell? ⟨b, off + k2 * 5, none⟩ = some (.int .i64 u.kind) := hc' 0 _ _ rfl (by omega)
          have c1 : wr.cell? ⟨b, off + k2 * 5 + 1, none⟩ = some (str u.text) := hc' 1 _ _ rfl (by omega)
          have c2 : wr.cell? ⟨b, off + k2 * 5 + 2, none⟩ = some (.slice a2 u.path.length cap2) := hc' 2 _ _ rfl (by omega)
          have c3 : wr.cell? ⟨b, off + k2 * 5 + 3, none⟩ = some (.int .i64 u.line) := hc' 3 _ _ rfl (by omega)
          have c4 : wr.cell? ⟨b, off + k2 * 5 + 4, none⟩ = some (.int .i64 u.col) := hc' 4 _ _ rfl (by omega)
          clear hc hx hc'
          have HFI := Lib.hid (HZ.out u (List.mem_of_getElem? hu))
          have hrs := hps.below HBR.out
          have HWR := Lib.hid (write_any u.kind u.text (.slice a2 u.path.length cap2) u.path u.line u.col wr (HG.out.below HB.out) hrs HFI.out.1 HFI.out.2.1 HFI.out.2.2)
          clear hps hrs HFI
          go_wp2_with fail
          refine HWR.out.mono ?_
          rintro e w4 ⟨hb4, hr⟩
          have HB4 := Lib.hid (HB.out.trans (hb4.mono HB.out.size))
          have HBR4 := Lib.hid (HBR.out.trans (hb4.mono HBR.out.size))
          have HO4 := Lib.hid (owns_below HO.out hb4)
          clear hb4 HWR
          cases hwr : writeP u.kind u.text u.path with
          | error c =>
            rw [hwr] at hr
            have hc := writeP_err hwr
            have hcn : ((c : Int) != 0) = true := by rw [bne_iff_ne]; omega
            subst hr
            clear hwr hc
            go_wp2_with fail
            go_ret
            exact ⟨rfl, HB4.out⟩
          | ok x =>
            rw [hwr] at hr
            have hsz := writeP_size hwr
            have HRU := Lib.hid (write_rel hwr)
            subst hr
            clear hwr
            by_cases hbig : 1048576 < acc.length
            · have hbI : (1048576 : Int) < (acc.length : Int) := by omega
              go_wp2_with fail
              go_ret
              exact ⟨rfl, HB4.out⟩
            · have hbI : decide ((acc.length : Int) > 1048576) = false := by simp; omega
              obtain ⟨q, hq⟩ : ∃ q : ByteArray, (⟨x.toArray⟩ : ByteArray) = q := ⟨_, rfl⟩
              have hqs : q.size ≤ 1048576 := by rw [← hq, Lib.size_eq]; exact hsz
              have HQL := Lib.hid (show q.data.toList = x by rw [← hq])
              rw [show str x = .string q by rw [← hq]]
              clear hq
              go_wp2_with (first | (at_builtin; refine Lib.wpList_append_own_string _ rfl _ _ 36 9 rfl _ 5 u0 Tryd.underlying36 Tryd.underlying9 iu iu0 iu1 iu2 _ _ _ rfl HO4.out _ rfl ?e3 ?e4 ?e5 ?_))
              case e3 => rw [chain_size]; unfold maxLen; omega
              case e4 => rw [chain_size]; omega
              case e5 => exact HBR4.out.size
              intro v' w1 hown1 hgr _
              have HB1 := Lib.hid (HB4.out.grown hgr HB4.out.size (fun k hk => Nat.le_trans HB2.out.size (HO4.out.lt k hk).1))
              have HBR1 := Lib.hid (HBR4.out.grown hgr HBR4.out.size (fun k hk => (HO4.out.lt k hk).1))
              have hrl := rels_snoc HRL.out HRU.out
              rw [take_snoc hu] at hrl
              have HRL1 := Lib.hid hrl
              have hf1 : (Ws ++ [x]).flatMap (seg s.data.toList) = acc ++ seg s.data.toList x := by rw [List.flatMap_append, HACC.out]; simp
              have HF1 := Lib.hid hf1
              have hl1 := chain_size q s
              have hlx : (acc ++ seg s.data.toList x).length = acc.length + (q.size + 2 * s.size + 11) := by
                rw [List.length_append, ← HQL.out, ← chain_seg, ← Lib.size_eq, hl1]
              have hown2 := own_seg HQL.out hown1
              obtain ⟨a8, cap8, rfl⟩ := own_slice hown2
              have HO1 := Lib.hid hown2
              clear hown1 hown2 hgr hrl hf1 hl1
              go_wp2_with fail
              go_roundw
              case rel => exact ⟨k2 + 1, Ws ++ [x], a8, cap8, by rw [HF1.out], by go_num, by omega, HRL1.out, by rw [HF1.out]; exact HO1.out, HB1.out, HBR1.out, by rw [HF1.out, hlx]; omega⟩
              case measure => simp [intOf]; omega
        · have hki : decide ((k2 : Int) < (l.length : Int)) = false := by simp; omega
          have HRF := Lib.hid (show Rels l Ws by
            have := HRL.out
            rw [List.take_of_length_le (by omega)] at this
            exact this)
          have HJ := Lib.hid (join_any l _ _ (HG.out.below HB.out) (HV.out.below HB.out) HZ.out hlen)
          clear HRL
          go_wp2_with fail
          refine HJ.out.mono ?_
          rintro e w4 ⟨hb4, hr⟩
          have HB4 := Lib.hid (HB.out.trans (hb4.mono HB.out.size))
          have HO4 := Lib.hid (owns_below HO.out hb4)
          clear hb4 HJ
          obtain ⟨T, hT⟩ : ∃ T, joinP l = T := ⟨_, rfl⟩
          rw [hT] at hr
          have HT := Lib.hid hT
          clear hT
          cases T with
          | error c =>
            subst hr
            have hc : c ≠ 0 := joinG_err' l true [] HT.out
            have hcn : ((c : Int) != 0) = true := by rw [bne_iff_ne]; omega
            go_wp2_with fail
            go_ret
            exact ⟨rfl, HB4.out⟩
          | ok T =>
            subst hr
            by_cases hbig : 1048576 < acc.length
            · have hbI : (1048576 : Int) < (acc.length : Int) := by omega
              go_wp2_with fail
              go_ret
              exact ⟨rfl, HB4.out⟩
            · have hbI : decide ((acc.length : Int) > 1048576) = false := by simp; omega
              obtain ⟨A, B, hsA, hsB, hAB⟩ := blanks_law HF.out HRF.out HT.out (by rw [HACC.out]; omega)
              rw [HACC.out] at hsB
              have HSA := Lib.hid hsA
              have HSB := Lib.hid hsB
              have HAB := Lib.hid hAB
              clear hsA hsB hAB
              have HS1 := Lib.hid (scanP_any ⟨T.toArray⟩ _ (HG.out.below HB4.out))
              go_wp2_with fail
              refine HS1.out.mono ?_
              rintro e w5 hpost
              have HB5 := Lib.hid (HB4.out.trans (hpost.1.mono HB4.out.size))
              have HO5 := Lib.hid (owns_below HO4.out hpost.1)
              obtain ⟨v', xs', rfl, hown', htk'⟩ := sc_ok hpost HSA.out
              have HTA := Lib.hid (toks_TkS hown' htk')
              clear hpost hown' htk' HS1
              have hcv := conv_string HO5.out
              have HS2 := Lib.hid (scanP_any ⟨acc.toArray⟩ _ (HG.out.below HB5.out))
              go_wp2_with fail
              refine HS2.out.mono ?_
              rintro e w6 hpost
              have HB6 := Lib.hid (HB5.out.trans (hpost.1.mono HB5.out.size))
              have HTA6 := Lib.hid (HTA.out.below hpost.1)
              obtain ⟨v2, xs2, rfl, hown2, htk2⟩ := sc_ok hpost HSB.out
              have HTB := Lib.hid (toks_TkS hown2 htk2)
              clear hpost hown2 htk2 HS2
              obtain ⟨hsm, hsl⟩ := scanP_small HSA.out
              have HSM := Lib.hid (same_any false A B _ _ w6 HTA6.out HTB.out (fun u hu => by have := (hsm u hu).2; omega) (by omega))
              rw [HAB.out] at HSM
              obtain ⟨a', cap', rfl, _⟩ := id HTA6.out
              obtain ⟨a3, cap3, rfl, _⟩ := id HTB.out
              clear hsm hsl
              go_wp2_with fail
              refine HSM.out.mono ?_
              rintro e w7 ⟨rfl, hb7⟩
              have HB7 := Lib.hid (HB6.out.trans (hb7.mono HB6.out.size))
              clear hb7
              go_wp2_with fail
              go_ret
              exact ⟨rfl, HB7.out⟩

end Go.Proofs.YtcogfalhodjmfaaDoor
