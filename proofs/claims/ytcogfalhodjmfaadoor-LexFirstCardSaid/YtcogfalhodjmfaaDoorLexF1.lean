/- The call of LexFirst: true. -/
import Derived.Test.YtcogfalhodjmfaaDoorLexAw
import Derived.Test.YtcogfalhodjmfaaDoorLexFi
namespace Go.Proofs.YtcogfalhodjmfaaDoor
open Go.RowKit Kiln
open Go.Proofs

theorem last_ne {s : ByteArray} {n : Nat} (hn : s.size = n + 1) (h : (s[n]'(by omega)).toNat ≠ 46) : ∀ a, s.data.toList ≠ a ++ [46] := fun a e => by
  refine h ?_
  have hl : n + 1 = a.length + 1 := by rw [← hn, Lib.size_eq, e]; simp
  have h2 : s.data.toList[n]? = some 46 := by
    rw [e, show n = a.length by omega]; simp
  have hn' : n < s.data.toList.length := by rw [← Lib.size_eq]; omega
  rw [List.getElem?_eq_getElem hn'] at h2
  have h3 : s[n]'(by omega) = s.data.toList[n]'hn' := rfl
  rw [h3]
  simp only [Option.some.injEq] at h2
  rw [h2]; rfl

set_option maxRecDepth 100000 in
set_option maxHeartbeats 4000000 in
theorem first_any (s t : ByteArray) (w : World) (hg : Gl w) (hs : s.size ≤ 281474976710656) (ht : t.size ≤ 281474976710656) :
    Calls Tryd.prog 6 #[.string s, .string t] w fun e w' => e = .returned (.bool true) ∧ Below w.heap.size w w' := by
  have HG := Lib.hid hg; clear hg
  have HSC := Lib.hid (scanP_any s w HG.out)
  go_enter Tryd.func6, Tryd.ntmps6
  go_wp2_with fail
  refine HSC.out.mono ?_
  rintro e w2 hpost
  have HB2 := Lib.hid hpost.1
  clear HSC
  have HAW := Lib.hid (awake_any w2 (HG.out.below HB2.out))
  cases hr : scanP s.data.toList with
  | ok l =>
    obtain ⟨v, xs, rfl, _, _⟩ := sc_ok hpost hr
    clear hpost hr
    go_wp2_with fail
    refine HAW.out.mono ?_
    rintro e w3 ⟨rfl, hb3⟩
    have HB3 := Lib.hid (HB2.out.trans (hb3.mono HB2.out.size))
    clear hb3
    go_wp2_with fail
    go_ret
    exact ⟨rfl, HB3.out⟩
  | error q =>
    obtain ⟨c, x, y⟩ := q
    obtain rfl := sc_err hpost hr
    clear hpost
    have HR := Lib.hid hr; clear hr
    by_cases hc : c = 40
    · subst hc
      go_wp2_with fail
      refine HAW.out.mono ?_
      rintro e w3 ⟨rfl, hb3⟩
      have HB3 := Lib.hid (HB2.out.trans (hb3.mono HB2.out.size))
      clear hb3 HAW
      go_upto_region 4 with fail
      go_cut [57] (fun v wx => wx = w3 ∧ ∃ B, v = .bool B ∧ (B = false → s.size + t.size ≤ 1048576 ∧ ∀ a, s.data.toList ≠ a ++ [46]))
      case first =>
        have e1 : IntKind.i64.wrap ((s.size : Int) + t.size) = (s.size : Int) + t.size := IntWalk.i64_in _ (by omega)
        by_cases hbig : 1048576 < s.size + t.size
        · have b1 : (1048576 : Int) < (s.size : Int) + t.size := by omega
          go_wp2_with fail
          go_meet
          exact ⟨rfl, true, rfl, fun h => by cases h⟩
        · have b1 : decide ((s.size : Int) + t.size > 1048576) = false := by simp; omega
          obtain ⟨n, hn⟩ : ∃ n, s.size = n + 1 := by
            refine ⟨s.size - 1, ?_⟩
            have : s.size ≠ 0 := fun h0 => by
              have h2 := HR.out
              rw [show s.data.toList = [] from List.eq_nil_of_length_eq_zero (by rw [← Lib.size_eq]; exact h0)] at h2
              cases h2
            omega
          have b2 : (0 : Int) < (s.size : Int) := by omega
          have e2 : IntKind.i64.wrap ((s.size : Int) - 1) = (n : Int) := by rw [IntWalk.i64_in _ (by omega)]; omega
          have b3 : (n : Int) < (s.size : Int) := by omega
          have hns : n < s.size := by omega
          obtain ⟨x0, hx0⟩ : ∃ x : UInt8, s[n]'hns = x := ⟨_, rfl⟩
          have hx256 := x0.toNat_lt
          have HN := Lib.hid hn
          clear hn
          by_cases h46 : x0.toNat = 46
          · have b4 : ((x0.toNat : Int) == 46) = true := by rw [beq_iff_eq]; omega
            go_wp2_with fail
            go_meet
            exact ⟨rfl, true, rfl, fun h => by cases h⟩
          · have b4 : ((x0.toNat : Int) == 46) = false := by rw [beq_eq_false_iff_ne]; omega
            have hlast := last_ne HN.out (by rw [hx0]; exact h46)
            go_wp2_with fail
            all_goals go_meet
            all_goals exact ⟨rfl, _, rfl, fun _ => ⟨by omega, hlast⟩⟩
      case rest =>
        obtain ⟨rfl, B, rfl, hB⟩ := hcut
        have HBB := Lib.hid hB; clear hB
        cases B
        · obtain ⟨hsz, hlast⟩ := HBB.out rfl
          have hsz2 : s.size + t.size ≤ maxLen := by unfold maxLen; omega
          have HSA := Lib.hid (scanP_any (s ++ t) wc (HG.out.below HB3.out))
          have hr2 : scanP (s ++ t).data.toList = .error (40, x, y) := by
            rw [show (s ++ t).data.toList = s.data.toList ++ t.data.toList by simp]
            refine scanP_first hlast ?_ HR.out
            rw [List.length_append, ← Lib.size_eq, ← Lib.size_eq]; exact hsz
          have HR2 := Lib.hid hr2
          clear hr2 hlast
          go_wp2_with fail
          refine HSA.out.mono ?_
          rintro e w4 hpost
          have HB4 := Lib.hid (HB3.out.trans (hpost.1.mono HB3.out.size))
          obtain rfl := sc_err hpost HR2.out
          clear hpost
          go_wp2_with fail
          go_ret
          exact ⟨rfl, HB4.out⟩
        · go_wp2_with fail
          go_ret
          exact ⟨rfl, HB3.out⟩
    · have hcn : ((c : Int) != 40) = true := by rw [bne_iff_ne]; omega
      go_wp2_with fail
      refine HAW.out.mono ?_
      rintro e w3 ⟨rfl, hb3⟩
      have HB3 := Lib.hid (HB2.out.trans (hb3.mono HB2.out.size))
      clear hb3
      go_wp2_with fail
      go_ret
      exact ⟨rfl, HB3.out⟩

end Go.Proofs.YtcogfalhodjmfaaDoor
