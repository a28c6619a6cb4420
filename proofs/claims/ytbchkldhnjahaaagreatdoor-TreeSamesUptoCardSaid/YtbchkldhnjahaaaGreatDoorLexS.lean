/- The scanner's sign: what the call returns. -/
import Derived.Test.YtbchkldhnjahaaaGreatDoorLexNr
namespace Go.Proofs.YtbchkldhnjahaaaGreatDoor
open Go.RowKit Kiln
open Go.Proofs

/-- a contract that ends in RdPost, parted: an error, or a token -/
theorem rd_cases {r : Rd} {i : Nat} {w : World} {f : FuncId} {args : Array Value} (h : Calls Tryz.prog f args w (RdPost r i w)) :
    (∃ c : Nat, r = .error c ∧ Calls Tryz.prog f args w fun e w' => e = .returned (.tuple #[.agg #[.int .i64 0, .string ⟨#[]⟩, .slice none 0 0, .int .i64 0, .int .i64 0], .int .i64 0, .int .i64 c]) ∧ Below w.heap.size w w') ∨
    (∃ (k : Nat) (t : Bytes) (pa : List Bytes) (n : Nat), r = .ok (k, t, pa, n) ∧ Calls Tryz.prog f args w fun e w' => ∃ a cap, e = .returned (.tuple #[.agg #[.int .i64 k, str t, .slice a pa.length cap, .int .i64 0, .int .i64 0], .int .i64 (i + n : Nat), .int .i64 0]) ∧ StrsF w.heap.size w' (.slice a pa.length cap) pa ∧ Below w.heap.size w w') := by
  cases r with
  | error c => exact .inl ⟨c, rfl, h.mono fun e w' hh => ⟨hh.2, hh.1⟩⟩
  | ok p =>
    obtain ⟨k, t, pa, n⟩ := p
    refine .inr ⟨k, t, pa, n, rfl, h.mono fun e w' hh => ?_⟩
    obtain ⟨hb, pv, hs, he⟩ := hh
    obtain ⟨a, cap, rfl, _, _⟩ := id hs.1
    exact ⟨a, cap, he, hs, hb⟩

theorem Strs.below {w w' : World} {v : Value} {l : List Bytes} (h : Strs w v l) (hb : Below w.heap.size w w') : Strs w' v l := by
  obtain ⟨a, cap, hv, hc, hl⟩ := h
  refine ⟨a, cap, hv, hc, fun hne => ?_⟩
  obtain ⟨b, off, ha, hx⟩ := hl hne
  exact ⟨b, off, ha, fun i x hi => cell_later hb (hx i x hi)⟩

theorem rd_okS {r : Rd} {i k n : Nat} {t : Bytes} {pa : List Bytes} {w w' : World} {a : Option Addr} {cap : Nat} {kv nv lv : Int} (h : r = .ok (k, t, pa, n)) (hk : kv = k) (hn : nv = (i + n : Nat)) (hl : lv = 0) (hs : StrsF w.heap.size w' (.slice a pa.length cap) pa) (hb : Below w.heap.size w w') :
    RdPost r i w (.returned (.tuple #[.agg #[.int .i64 kv, str t, .slice a pa.length cap, .int .i64 lv, .int .i64 lv], .int .i64 nv, .int .i64 0])) w' := by
  subst h; subst hk; subst hn; subst hl
  exact ⟨hb, _, hs, rfl⟩

theorem Strs.empty (B : Nat) (w : World) (a : Option Addr) (cap : Nat) : StrsF B w (.slice a ([] : List Bytes).length cap) [] := ⟨⟨a, cap, rfl, Nat.zero_le _, fun h => absurd rfl h⟩, fun h => absurd rfl h⟩
theorem numberP_path {l : Bytes} {k n : Nat} {t : Bytes} {pa : List Bytes} (h : numberP l = .ok (k, t, pa, n)) : pa = [] := by
  unfold numberP at h
  simp only [] at h
  split at h
  · cases h
  · split at h
    · cases h
    · simp only [Except.ok.injEq, Prod.mk.injEq] at h; exact h.2.2.1.symm
theorem charP_path {l : Bytes} {k n : Nat} {t : Bytes} {pa : List Bytes} (h : charP l = .ok (k, t, pa, n)) : pa = [] := by
  unfold charP at h
  split at h
  · cases h
  · split at h
    · simp only [Except.ok.injEq, Prod.mk.injEq] at h; exact h.2.2.1.symm
    · cases h

/-- the result's block as it was laid -/
def ResB (B : Nat) (w : World) : Prop := w.heap[B]? = some (.cells #[.int .i64 0, .string ⟨#[]⟩, .slice none 0 0, .int .i64 0, .int .i64 0] 32 (0, 0))

theorem ResB.cells {B : Nat} {w : World} (h : ResB B w) :
    (w.cell? ⟨B, 0, none⟩ = some (.int .i64 0) ∧ w.cell? ⟨B, 1, none⟩ = some (.string ⟨#[]⟩) ∧ w.cell? ⟨B, 2, none⟩ = some (.slice none 0 0) ∧ w.cell? ⟨B, 3, none⟩ = some (.int .i64 0) ∧ w.cell? ⟨B, 4, none⟩ = some (.int .i64 0)) ∧
    ∀ j, w.frozen? ⟨B, j, none⟩ = false := by
  unfold ResB at h
  refine ⟨⟨?_, ?_, ?_, ?_, ?_⟩, fun j => ?_⟩ <;> simp [World.cell?, World.frozen?, h]

theorem ResB.new (w : World) : ResB w.heap.size (w.alloc (.cells #[.int .i64 0, .string ⟨#[]⟩, .slice none 0 0, .int .i64 0, .int .i64 0] 32)) := heap_alloc_new w _
theorem ResB.drew {B : Nat} {w : World} (h : ResB B w) (n : Nat) : ResB B (w.drewN n) := (below_drewN (Below.refl (B + 1) w) n |>.block B (Nat.lt_succ_self _)).trans h
theorem ResB.keep {B : Nat} {w w' : World} (h : ResB B w) (hb : Below (B + 1) w w') : ResB B w' := (hb.block B (Nat.lt_succ_self _)).trans h

set_option maxRecDepth 100000 in
set_option maxHeartbeats 8000000 in
theorem sign_any (s : ByteArray) (b i : Nat) (w : World) (hg : Gl w) (hs : w.cell? ⟨b, 0, none⟩ = some (.string s)) (ha : w.cell? ⟨b, 1, none⟩ = some (.int .i64 i)) (hz : s.size ≤ 1048576) (hi : i < s.size) :
    Calls Tryz.prog 45 #[.pointer (some ⟨b, 0, none⟩)] w (RdPost (signP (s.data.toList.drop i)) i w) := by
  have hs1 := cell_al hs
  have ha1 := cell_al ha
  have HG := Lib.hid hg; clear hg
  obtain ⟨x, hx⟩ : ∃ x : UInt8, s[i]'hi = x := ⟨_, rfl⟩
  have hat0 := atB_drop s i 0 (by omega)
  simp only [Nat.add_zero, hx] at hat0
  have HA0 := Lib.hid hat0; clear hat0
  obtain ⟨B, hB⟩ : ∃ B, (atB (s.data.toList.drop i) 0 == 126 && digitB (atB (s.data.toList.drop i) 1)) = B := ⟨_, rfl⟩
  have hsg : signP (s.data.toList.drop i) = if B then numberP (s.data.toList.drop i) else if [35, 34].isPrefixOf (s.data.toList.drop i) then charP (s.data.toList.drop i) else
      .ok (if resB ((s.data.toList.drop i).take (cntB signB (s.data.toList.drop i))) then 1 else 2, (s.data.toList.drop i).take (cntB signB (s.data.toList.drop i)), [], cntB signB (s.data.toList.drop i)) := by rw [← hB]; rfl
  have HS := Lib.hid hsg; clear hsg
  have HB := Lib.hid hB; clear hB
  have hne := World.block_lt_of_cell? w _ hs
  have hne1 : ¬ w.heap.size = b := fun e => by simp only [] at hne; omega
  have hne2 : ¬ b = w.heap.size := fun e => by simp only [] at hne; omega
  clear hne
  go_enter Tryz.func45, Tryz.ntmps45
  go_upto_region 1 with fail
  go_cut [42] (fun v wx => v = .bool B ∧ ∃ n, wx = (w.alloc noTokObj).drewN n)
  case first => as_aux_lemma =>
    by_cases h126 : x.toNat = 126
    · by_cases hl : i + 1 < s.size
      · obtain ⟨y, hy⟩ : ∃ y : UInt8, s[i + 1]'hl = y := ⟨_, rfl⟩
        have hat := atB_drop s i 1 hl
        rw [hy] at hat
        rw [hat, HA0.out, show (x == 126) = true from by rw [u8_of h126]; rfl, Bool.true_and] at HB
        clear hat
        have hsum : IntKind.i64.wrap (↑i + 1) = ↑i + 1 := IntWalk.i64_in _ (by omega)
        have hsn : ((i : Int) + 1).toNat = i + 1 := by omega
        have hlz : (i : Int) + 1 < (s.size : Int) := by omega
        go_quiet ((go_at_call 42; exact quietL (digit_any _ _)))
        clear hsum hsn
        go_wp2_with fail
        go_meet
        exact ⟨by rw [← HB.out]; rfl, _, rfl⟩
      · rw [atB_none s i 1 hl, show digitB 0 = false from rfl, Bool.and_false] at HB
        have hsum : IntKind.i64.wrap (↑i + 1) = ↑i + 1 := IntWalk.i64_in _ (by omega)
        have hlz : decide ((i : Int) + 1 < (s.size : Int)) = false := by simp; omega
        go_quiet (fail)
        clear hsum hlz
        go_wp2_with fail
        go_meet
        exact ⟨by rw [← HB.out], _, rfl⟩
    · rw [HA0.out, show (x == 126) = false from by rw [beq_eq_false_iff_ne]; rintro rfl; exact h126 rfl, Bool.false_and] at HB
      have hb : ((x.toNat : Int) == 126) = false := by rw [beq_eq_false_iff_ne]; omega
      go_quiet (fail)
      go_wp2_with fail
      go_meet
      exact ⟨by rw [← HB.out], _, rfl⟩
  case rest =>
    obtain ⟨rfl, n, hwx⟩ := hcut
    have hs2 : wc.cell? ⟨b, 0, none⟩ = some (.string s) := by rw [hwx]; exact hs1 _
    have ha2 : wc.cell? ⟨b, 1, none⟩ = some (.int .i64 i) := by rw [hwx]; exact ha1 _
    have HBW : RowKit.Hid (Below w.heap.size w wc) := by rw [hwx]; exact below_drewN ((Below.refl _ w).alloc (Nat.le_refl _) _) n
    have HR : RowKit.Hid (ResB w.heap.size wc) := by rw [hwx]; exact ResB.new w
    have HGX : RowKit.Hid (Gl wc) := HG.out.below HBW.out
    have HSZ : RowKit.Hid (w.heap.size + 1 ≤ wc.heap.size) := by rw [hwx]; exact Nat.le_of_eq (by simp)
    clear hwx HG HA0 hs1 ha1
    cases B
    · rw [if_neg (by simp)] at HS
      go_wp2_with fail
      refine (starts_any s ⟨#[35, 34]⟩ b i wc hs2 (by unfold maxLen; omega) (by omega)).mono ?_
      rintro e w' ⟨rfl, rfl⟩
      obtain ⟨P, hP⟩ : ∃ P, [35, 34].isPrefixOf (s.data.toList.drop i) = P := ⟨_, rfl⟩
      simp only [hP]
      cases P
      · rw [hP, if_neg (by simp)] at HS
        clear hP
        go_wp2_with fail
        refine (run_any 44 signB enters_inSign (fun c w => inSign_any c w) s b i wc hs2 (by unfold maxLen; omega)).mono ?_
        rintro e w' ⟨rfl, rfl⟩
        have hle := cntB_le signB (s.data.toList.drop i)
        rw [List.length_drop, ← Lib.size_eq] at hle
        generalize hK : cntB signB (s.data.toList.drop i) = K at *
        clear hK
        go_wp2_with fail
        go_quiet (fail)
        go_wp2_with fail
        obtain ⟨mx, hmx⟩ := HGX.out.mx
        have hm2 : ∀ n, (wc.drewN n).cell? ⟨0, 0, none⟩ = some (.int .i64 mx) := fun _ => hmx
        clear hmx
        refine (reserved_any (s.extract i (i + K)) mx _ (hm2 _) (by rw [ByteArray.size_extract]; omega)).mono ?_
        rintro e w' ⟨rfl, rfl⟩
        rw [ext_take _ _ _ K (by omega)]
        clear hm2
        obtain ⟨⟨rc0, rc1, rc2, rc3, rc4⟩, rfz⟩ := (HR.out.drew nq).cells
        have HBW2 := Lib.hid (below_drewN HBW.out nq)
        generalize wc.drewN nq = wd at *
        have hext := Lib.hid (ext_take s i (i + K) K (by omega))
        generalize hrb : resB ((s.data.toList.drop i).take K) = R
        cases R
        · have HT := Lib.hid (show signP (s.data.toList.drop i) = .ok (2, (s.data.toList.drop i).take K, [], K) by rw [HS.out, hrb]; rfl)
          clear hrb HS
          go_wp2_with fail
          refine bodyPost_ret (by simp [results, Tryz.results45, go_sem, rc0, rc1, rc2, rc3, rc4]; exact rfl) rfl ?_
          exact rd_ok HT.out rfl hext.out (by omega) (below_set5 HBW2.out _ _ _ _ _)
        · have HT := Lib.hid (show signP (s.data.toList.drop i) = .ok (1, (s.data.toList.drop i).take K, [], K) by rw [HS.out, hrb]; rfl)
          clear hrb HS
          go_wp2_with fail
          refine bodyPost_ret (by simp [results, Tryz.results45, go_sem, rc0, rc1, rc2, rc3, rc4]; exact rfl) rfl ?_
          exact rd_ok HT.out rfl hext.out (by omega) (below_set5 HBW2.out _ _ _ _ _)
      · rw [hP, if_pos rfl] at HS
        have hp2 : i + 2 ≤ s.size := by
          have := (List.isPrefixOf_iff_prefix.1 hP).length_le
          rw [List.length_drop, ← Lib.size_eq] at this
          simp at this; omega
        clear hP
        go_wp2_with fail
        rcases rd_cases (char_any s b i wc HGX.out hs2 ha2 hz hp2) with ⟨c, hr, hc⟩ | ⟨k, t, pa, m, hr, hc⟩
        · refine hc.mono ?_
          rintro e w2 ⟨rfl, hb2⟩
          have HT := Lib.hid (HS.out.trans hr)
          obtain ⟨⟨rc0, rc1, rc2, rc3, rc4⟩, rfz⟩ := (HR.out.keep (hb2.mono HSZ.out)).cells
          have HB2 := Lib.hid (HBW.out.trans (hb2.mono HBW.out.size))
          clear hb2 hr hc
          go_wp2_with fail
          refine bodyPost_ret (by simp [results, Tryz.results45, go_sem, rc0, rc1, rc2, rc3, rc4]; exact rfl) rfl ?_
          exact rd_bad HT.out rfl (below_set5 HB2.out _ _ _ _ _)
        · obtain rfl := charP_path hr
          refine hc.mono ?_
          rintro e w2 ⟨a, cap, rfl, hstr, hb2⟩
          have HT := Lib.hid (HS.out.trans hr)
          obtain ⟨⟨rc0, rc1, rc2, rc3, rc4⟩, rfz⟩ := (HR.out.keep (hb2.mono HSZ.out)).cells
          have HB2 := Lib.hid (HBW.out.trans (hb2.mono HBW.out.size))
          clear hb2 hr hc hstr
          go_wp2_with fail
          refine bodyPost_ret (by simp [results, Tryz.results45, go_sem, rc0, rc1, rc2, rc3, rc4]; exact rfl) rfl ?_
          exact rd_okS HT.out rfl rfl rfl (Strs.empty _ _ _ _) (below_set5 HB2.out _ _ _ _ _)
    · rw [if_pos rfl] at HS
      go_wp2_with fail
      rcases rd_cases (number_any s b i wc hs2 ha2 hz hi) with ⟨c, hr, hc⟩ | ⟨k, t, pa, m, hr, hc⟩
      · refine hc.mono ?_
        rintro e w2 ⟨rfl, hb2⟩
        have HT := Lib.hid (HS.out.trans hr)
        obtain ⟨⟨rc0, rc1, rc2, rc3, rc4⟩, rfz⟩ := (HR.out.keep (hb2.mono HSZ.out)).cells
        have HB2 := Lib.hid (HBW.out.trans (hb2.mono HBW.out.size))
        clear hb2 hr hc
        go_wp2_with fail
        refine bodyPost_ret (by simp [results, Tryz.results45, go_sem, rc0, rc1, rc2, rc3, rc4]; exact rfl) rfl ?_
        exact rd_bad HT.out rfl (below_set5 HB2.out _ _ _ _ _)
      · obtain rfl := numberP_path hr
        refine hc.mono ?_
        rintro e w2 ⟨a, cap, rfl, hstr, hb2⟩
        have HT := Lib.hid (HS.out.trans hr)
        obtain ⟨⟨rc0, rc1, rc2, rc3, rc4⟩, rfz⟩ := (HR.out.keep (hb2.mono HSZ.out)).cells
        have HB2 := Lib.hid (HBW.out.trans (hb2.mono HBW.out.size))
        clear hb2 hr hc hstr
        go_wp2_with fail
        refine bodyPost_ret (by simp [results, Tryz.results45, go_sem, rc0, rc1, rc2, rc3, rc4]; exact rfl) rfl ?_
        exact rd_okS HT.out rfl rfl rfl (Strs.empty _ _ _ _) (below_set5 HB2.out _ _ _ _ _)

end Go.Proofs.YtbchkldhnjahaaaGreatDoor
