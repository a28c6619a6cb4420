/- The reference's named: what the call returns. Conditions: those of each theorem. -/
import Derived.Test.YtcogfalhodjmfaaGreatDoorLexEq
import Derived.Test.YtcogfalhodjmfaaGreatDoorLexSc
namespace Go.Proofs.YtcogfalhodjmfaaGreatDoor
open Go.RowKit Kiln
open Go.Proofs

theorem rn_none {b : Nat} {w : World} {r : Option (Bytes × List Bytes × Nat)} (hr : r = none) (h : Calls Tryz.prog 68 #[.pointer (some ⟨b, 0, none⟩)] w (RNPost r w)) :
    Calls Tryz.prog 68 #[.pointer (some ⟨b, 0, none⟩)] w fun e w' => (∃ (a : Option Addr) (m cap : Nat) (n : Int), e = .returned (.tuple #[.agg #[.int .i64 2, .string ⟨#[]⟩, .slice a m cap, .int .i64 0, .int .i64 0], .int .i64 n, .bool false])) ∧ Below w.heap.size w w' := by
  subst hr; exact h.mono fun e w' hh => ⟨hh.2, hh.1⟩
theorem rn_some {b n : Nat} {t : Bytes} {pa : List Bytes} {w : World} {r : Option (Bytes × List Bytes × Nat)} (hr : r = some (t, pa, n)) (h : Calls Tryz.prog 68 #[.pointer (some ⟨b, 0, none⟩)] w (RNPost r w)) :
    Calls Tryz.prog 68 #[.pointer (some ⟨b, 0, none⟩)] w fun e w' => (∃ (a : Option Addr) (cap : Nat), StrsF w.heap.size w' (.slice a pa.length cap) pa ∧ e = .returned (.tuple #[.agg #[.int .i64 2, str t, .slice a pa.length cap, .int .i64 0, .int .i64 0], .int .i64 (n : Nat), .bool true])) ∧ Below w.heap.size w w' := by
  subst hr
  refine h.mono fun e w' hh => ⟨?_, hh.1⟩
  obtain ⟨pv, hs, he⟩ := hh.2
  obtain ⟨a, cap, rfl, _⟩ := hs.1
  exact ⟨a, cap, hs, he⟩

theorem StrsF.put5 {B B' b : Nat} {w4 W5 : World} {v : Value} {l : List Bytes} (h : StrsF B w4 v l) (hb : Below w4.heap.size w4 W5) (hlt : b < B) (hB : B' ≤ B) (v0 v1 v2 v3 v4 : Value) :
    StrsF B' (((((W5.setCell ⟨b, 0, none⟩ v0).setCell ⟨b, 1, none⟩ v1).setCell ⟨b, 2, none⟩ v2).setCell ⟨b, 3, none⟩ v3).setCell ⟨b, 4, none⟩ v4) v l := by
  refine ⟨h.1.keep fun hne a n cap hv => ?_, fun hne => ?_⟩
  · obtain ⟨a', n', cap', hv', hle⟩ := h.2 hne
    rw [hv] at hv'
    obtain ⟨a'', cap'', hv2, _, hc⟩ := h.1
    obtain ⟨b2, off, ha2, hx⟩ := hc hne
    subst ha2
    rw [hv] at hv2
    have e1 : a = a' := by injection hv' with h1; injection h1
    have e2 : a = ⟨b2, off, none⟩ := by injection hv2 with h1; injection h1
    subst e1
    subst e2
    have hblk : b2 < w4.heap.size := by
      cases l with
      | nil => exact absurd rfl hne
      | cons x l => exact World.block_lt_of_cell? w4 _ (hx 0 x rfl)
    simp only [] at hle ⊢
    have ne : ∀ (W : World) (j : Nat) (u : Value), (W.setCell ⟨b, j, none⟩ u).heap[b2]? = W.heap[b2]? := fun W j u => Below.heap_setCell _ _ _ _ (by simp only []; omega)
    rw [ne, ne, ne, ne, ne]
    exact hb.block b2 hblk
  · obtain ⟨a, n, cap, hv, hle⟩ := h.2 hne
    exact ⟨a, n, cap, hv, Nat.le_trans hB hle⟩

theorem StrsF.below {B : Nat} {w w' : World} {v : Value} {l : List Bytes} (h : StrsF B w v l) (hb : Below w.heap.size w w') : StrsF B w' v l := ⟨h.1.below hb, h.2⟩

/-- five stores into one block, then a new block behind -/
theorem put5_cell {W : World} {b : Nat} {u0 u1 u2 u3 u4 : Value} (c0 : W.cell? ⟨b, 0, none⟩ = some u0) (c1 : W.cell? ⟨b, 1, none⟩ = some u1) (c2 : W.cell? ⟨b, 2, none⟩ = some u2) (c3 : W.cell? ⟨b, 3, none⟩ = some u3) (c4 : W.cell? ⟨b, 4, none⟩ = some u4) (o : Obj) (v0 v1 v2 v3 v4 : Value) :
    ((((((W.setCell ⟨b, 0, none⟩ v0).setCell ⟨b, 1, none⟩ v1).setCell ⟨b, 2, none⟩ v2).setCell ⟨b, 3, none⟩ v3).setCell ⟨b, 4, none⟩ v4).alloc o).cell? ⟨b, 0, none⟩ = some v0 ∧
    ((((((W.setCell ⟨b, 0, none⟩ v0).setCell ⟨b, 1, none⟩ v1).setCell ⟨b, 2, none⟩ v2).setCell ⟨b, 3, none⟩ v3).setCell ⟨b, 4, none⟩ v4).alloc o).cell? ⟨b, 1, none⟩ = some v1 ∧
    ((((((W.setCell ⟨b, 0, none⟩ v0).setCell ⟨b, 1, none⟩ v1).setCell ⟨b, 2, none⟩ v2).setCell ⟨b, 3, none⟩ v3).setCell ⟨b, 4, none⟩ v4).alloc o).cell? ⟨b, 2, none⟩ = some v2 ∧
    ((((((W.setCell ⟨b, 0, none⟩ v0).setCell ⟨b, 1, none⟩ v1).setCell ⟨b, 2, none⟩ v2).setCell ⟨b, 3, none⟩ v3).setCell ⟨b, 4, none⟩ v4).alloc o).cell? ⟨b, 3, none⟩ = some v3 ∧
    ((((((W.setCell ⟨b, 0, none⟩ v0).setCell ⟨b, 1, none⟩ v1).setCell ⟨b, 2, none⟩ v2).setCell ⟨b, 3, none⟩ v3).setCell ⟨b, 4, none⟩ v4).alloc o).cell? ⟨b, 4, none⟩ = some v4 := by
  have hb : ∀ (X : World), X.heap.size = W.heap.size → ∀ j, (X.alloc o).cell? ⟨b, j, none⟩ = X.cell? ⟨b, j, none⟩ := fun X hX j => World.cell?_alloc_lt X o ⟨b, j, none⟩ (by rw [hX]; exact World.block_lt_of_cell? W ⟨b, 0, none⟩ c0)
  have hs : ∀ (X : World) (p : Addr) (v : Value), (X.setCell p v).heap.size = X.heap.size := fun X p v => by simp [World.setCell]
  rw [hb _ (by rw [hs, hs, hs, hs, hs]), hb _ (by rw [hs, hs, hs, hs, hs]), hb _ (by rw [hs, hs, hs, hs, hs]), hb _ (by rw [hs, hs, hs, hs, hs]), hb _ (by rw [hs, hs, hs, hs, hs])]
  have ne : ∀ (X : World) (i j : Nat) (v : Value), i ≠ j → (X.setCell ⟨b, i, none⟩ v).cell? ⟨b, j, none⟩ = X.cell? ⟨b, j, none⟩ := fun X i j v hij => World.cell?_setCell_other (h := fun e => hij (by injection e)) ..
  refine ⟨?_, ?_, ?_, ?_, ?_⟩
  · rw [ne _ 4 0 _ (by decide), ne _ 3 0 _ (by decide), ne _ 2 0 _ (by decide), ne _ 1 0 _ (by decide)]; exact World.cell?_setCell_same (h := c0) ..
  · rw [ne _ 4 1 _ (by decide), ne _ 3 1 _ (by decide), ne _ 2 1 _ (by decide)]; exact World.cell?_setCell_same (h := (ne _ 0 1 _ (by decide)).trans c1) ..
  · rw [ne _ 4 2 _ (by decide), ne _ 3 2 _ (by decide)]; exact World.cell?_setCell_same (h := (ne _ 1 2 _ (by decide)).trans ((ne _ 0 2 _ (by decide)).trans c2)) ..
  · rw [ne _ 4 3 _ (by decide)]; exact World.cell?_setCell_same (h := (ne _ 2 3 _ (by decide)).trans ((ne _ 1 3 _ (by decide)).trans ((ne _ 0 3 _ (by decide)).trans c3))) ..
  · exact World.cell?_setCell_same (h := (ne _ 3 4 _ (by decide)).trans ((ne _ 2 4 _ (by decide)).trans ((ne _ 1 4 _ (by decide)).trans ((ne _ 0 4 _ (by decide)).trans c4)))) ..

set_option maxRecDepth 100000 in
set_option maxHeartbeats 4000000 in
theorem rnamed_any (s : ByteArray) (b i : Nat) (w : World) (h : RSc w s b i) :
    Calls Tryz.prog 53 #[.pointer (some ⟨b, 0, none⟩)] w (RdPost (namedR (s.data.toList.drop i)) 0 w) := by
  have hz := h.sz
  have hi := h.le
  have hne := World.block_lt_of_cell? w _ h.txt
  have hne1 : ¬ w.heap.size = b := fun e => by simp only [] at hne; omega
  have hne2 : ¬ b = w.heap.size := fun e => by simp only [] at hne; omega
  clear hne
  obtain ⟨L, hL⟩ : ∃ L, s.data.toList.drop i = L := ⟨_, rfl⟩
  have hLl : i + L.length = s.size := by rw [← hL, List.length_drop, ← Lib.size_eq]; omega
  have HL := Lib.hid hL
  rw [hL]
  clear hL
  obtain ⟨R, hR⟩ : ∃ R, namedR L = R := ⟨_, rfl⟩
  rw [hR]
  have HRR := Lib.hid hR.symm; clear hR
  obtain ⟨k, hk⟩ : ∃ k, namedK L = k := ⟨_, rfl⟩
  have hkl : k ≤ L.length := by
    rw [← hk]; unfold namedK; split <;> exact cntB_le _ _
  have HR1 : RowKit.Hid (R = if resB (L.take k) then .ok (1, L.take k, [], k) else namedO (nameC [] 0 L)) := by
    show _ = _; rw [HRR.out]; unfold namedR; rw [hk]
  clear HRR
  have HSC := Lib.hid h
  have HW := Lib.hid (h.later ((Below.refl _ w).alloc (Nat.le_refl _) (.cells #[.int .i64 0, .string ⟨#[]⟩, .slice none 0 0, .int .i64 0, .int .i64 0] 34)))
  clear h
  have HC : RowKit.Hid (RCalls L b (w.alloc (.cells #[.int .i64 0, .string ⟨#[]⟩, .slice none 0 0, .int .i64 0, .int .i64 0] 34))) := by
    have := HW.out.calls
    rw [HL.out] at this; exact this
  have hs := HW.out.txt
  have ha := HW.out.pos
  have HRES := Lib.hid (ResB.new w)
  have HB0 := Lib.hid ((Below.refl _ w).alloc (Nat.le_refl _) (.cells #[.int .i64 0, .string ⟨#[]⟩, .slice none 0 0, .int .i64 0, .int .i64 0] 34))
  have hWs : w.heap.size < (w.alloc (.cells #[.int .i64 0, .string ⟨#[]⟩, .slice none 0 0, .int .i64 0, .int .i64 0] 34)).heap.size := by simp
  have HK : RowKit.Hid (k = if letterB (atB L 0) then cntB wordB L else cntB signB L) := by
    show _ = _; rw [← hk]; rfl
  clear hk
  go_enter Tryz.func53, Tryz.ntmps53
  go_wp2_with fail
  obtain ⟨W, hW⟩ : ∃ W, w.alloc (.cells #[.int .i64 0, .string ⟨#[]⟩, .slice none 0 0, .int .i64 0, .int .i64 0] 34) = W := ⟨_, rfl⟩
  rw [hW] at HW HC hs ha HRES HB0 hWs ⊢
  clear hW
  obtain ⟨x, hx⟩ : ∃ x, atB L 0 = x := ⟨_, rfl⟩
  rw [hx] at HK
  obtain ⟨k1, hk1⟩ : ∃ k, cntB wordB L = k := ⟨_, rfl⟩
  obtain ⟨k2, hk2⟩ : ∃ k, cntB signB L = k := ⟨_, rfl⟩
  rw [hk1, hk2] at HK
  have HR1' := Lib.hid (HC.out.run1 0 0 0 rfl (by omega))
  rw [List.drop_zero, hk1, World.drewN_zero] at HR1'
  have HR2' := Lib.hid (fun m => HC.out.run2 0 0 m rfl (by omega))
  rw [List.drop_zero, hk2] at HR2'
  have HA := Lib.hid (fun m => HC.out.at' 0 0 m rfl (by omega))
  rw [hx] at HA
  clear hk1 hk2 hx
  refine HR1'.out.mono ?_
  rintro e w' ⟨rfl, m1, rfl⟩
  go_wp2_with fail
  refine (HA.out _).mono ?_
  rintro e w' ⟨rfl, m2, rfl⟩
  go_wp2_with fail
  refine (rLetter_any _ _).mono ?_
  rintro e w' ⟨rfl, rfl⟩
  obtain ⟨B, hB⟩ : ∃ B, letterI (x.toNat : Int) = B := ⟨_, rfl⟩
  rw [hB]
  rw [show letterB x = B from hB] at HK
  clear hB
  go_upto_if 14 with fail
  go_cut [5] (fun v wc => v = .int .i64 (k : Nat) ∧ ∃ m, wc = W.drewN m)
  case first =>
    cases B
    · have hke : k = k2 := HK.out
      subst hke
      go_wp2_with fail
      refine (HR2'.out _).mono ?_
      rintro e w' ⟨rfl, m3, rfl⟩
      go_wp2_with fail
      go_meet
      exact ⟨rfl, _, rfl⟩
    · have hke : k = k1 := HK.out
      subst hke
      go_wp2_with fail
      go_meet
      exact ⟨rfl, _, rfl⟩
  case rest =>
    obtain ⟨rfl, m2, rfl⟩ := hcut
    clear HK HR1' HR2' HA
    have e1 : IntKind.i64.wrap ((i : Int) + k) = (i : Int) + k := IntWalk.i64_in _ (by omega)
    have e3 : (0 : Int) ≤ (i : Int) := by omega
    have e4 : (i : Int) ≤ (i : Int) + k := by omega
    have e5 : (i : Int) + k ≤ (s.size : Int) := by omega
    have e6 : ((i : Int)).toNat = i := by omega
    have e7 : ((i : Int) + k).toNat = i + k := by omega
    go_wp2_with fail
    go_quiet (fail)
    clear e1 e3 e4 e5 e6 e7
    have hext : (s.extract i (i + k)).data.toList = L.take k := by
      rw [ext_take s i (i + k) k rfl, HL.out]
    have HEX := Lib.hid hext; clear hext
    obtain ⟨Rb, hRb⟩ : ∃ R, resB (L.take k) = R := ⟨_, rfl⟩
    rw [hRb] at HR1
    go_wp2_with fail
    refine (rReserved_any _ _).mono ?_
    rintro e w2 ⟨rfl, hb2⟩
    rw [HEX.out, hRb]
    clear hRb
    have HB2 := Lib.hid (HB0.out.trans (((below_drewN (Below.refl W.heap.size W) _).trans hb2).mono (Nat.le_of_lt hWs)))
    have HBW := Lib.hid ((below_drewN (Below.refl W.heap.size W) _).trans hb2)
    clear hb2
    cases Rb
    · have HR := Lib.hid (show R = namedO (nameC [] 0 L) from HR1.out)
      obtain ⟨r, hr⟩ : ∃ r, nameC [] 0 L = r := ⟨_, rfl⟩
      rw [hr] at HR
      have HN := Lib.hid (rname_any s b i w2 (HSC.out.later HB2.out))
      rw [HL.out, hr] at HN
      clear hr
      have hlt2 : w.heap.size < w2.heap.size := Nat.lt_of_lt_of_le hWs HBW.out.size
      cases r with
      | none =>
        have HE := Lib.hid (show R = .error 44 from HR.out)
        go_wp2_with fail
        refine (rn_none rfl HN.out).mono ?_
        rintro e w4 ⟨⟨a, m, cap, nv, rfl⟩, hb4⟩
        have HB4 := Lib.hid (HB2.out.trans (hb4.mono HB2.out.size))
        obtain ⟨⟨rc0, rc1, rc2, rc3, rc4⟩, rfz⟩ := (HRES.out.keep (((HBW.out.mono hWs).trans (hb4.mono hlt2)))).cells
        have h4 : w.heap.size < w4.heap.size := Nat.lt_of_lt_of_le hlt2 hb4.size
        have h41 : ¬ w4.heap.size = w.heap.size := by omega
        have h42 : ¬ w.heap.size = w4.heap.size := by omega
        have p0 := fun o v0 v1 v2 v3 v4 => (put5_cell rc0 rc1 rc2 rc3 rc4 o v0 v1 v2 v3 v4).1
        have p1 := fun o v0 v1 v2 v3 v4 => (put5_cell rc0 rc1 rc2 rc3 rc4 o v0 v1 v2 v3 v4).2.1
        have p2 := fun o v0 v1 v2 v3 v4 => (put5_cell rc0 rc1 rc2 rc3 rc4 o v0 v1 v2 v3 v4).2.2.1
        have p3 := fun o v0 v1 v2 v3 v4 => (put5_cell rc0 rc1 rc2 rc3 rc4 o v0 v1 v2 v3 v4).2.2.2.1
        have p4 := fun o v0 v1 v2 v3 v4 => (put5_cell rc0 rc1 rc2 rc3 rc4 o v0 v1 v2 v3 v4).2.2.2.2
        clear hb4
        go_wp2_with fail
        refine bodyPost_ret (by simp [results, Tryz.results53, go_sem, p0, p1, p2, p3, p4]; exact rfl) rfl ?_
        exact rd_bad HE.out rfl (below_al (below_set5 HB4.out _ _ _ _ _) _)
      | some p =>
        obtain ⟨t, pa, n⟩ := p
        have HE := Lib.hid (show R = .ok (2, t, pa, n) from HR.out)
        go_wp2_with fail
        refine (rn_some rfl HN.out).mono ?_
        rintro e w4 ⟨⟨a, cap, hsf, rfl⟩, hb4⟩
        have HB4 := Lib.hid (HB2.out.trans (hb4.mono HB2.out.size))
        have HSF := Lib.hid hsf
        obtain ⟨⟨rc0, rc1, rc2, rc3, rc4⟩, rfz⟩ := (HRES.out.keep (((HBW.out.mono hWs).trans (hb4.mono hlt2)))).cells
        have h4 : w.heap.size < w4.heap.size := Nat.lt_of_lt_of_le hlt2 hb4.size
        have h41 : ¬ w4.heap.size = w.heap.size := by omega
        have h42 : ¬ w.heap.size = w4.heap.size := by omega
        have p0 := fun o v0 v1 v2 v3 v4 => (put5_cell rc0 rc1 rc2 rc3 rc4 o v0 v1 v2 v3 v4).1
        have p1 := fun o v0 v1 v2 v3 v4 => (put5_cell rc0 rc1 rc2 rc3 rc4 o v0 v1 v2 v3 v4).2.1
        have p2 := fun o v0 v1 v2 v3 v4 => (put5_cell rc0 rc1 rc2 rc3 rc4 o v0 v1 v2 v3 v4).2.2.1
        have p3 := fun o v0 v1 v2 v3 v4 => (put5_cell rc0 rc1 rc2 rc3 rc4 o v0 v1 v2 v3 v4).2.2.2.1
        have p4 := fun o v0 v1 v2 v3 v4 => (put5_cell rc0 rc1 rc2 rc3 rc4 o v0 v1 v2 v3 v4).2.2.2.2
        clear hb4 hsf
        go_wp2_with fail
        refine bodyPost_ret (by simp [results, Tryz.results53, go_sem, p0, p1, p2, p3, p4]; exact rfl) rfl ?_
        exact rd_okS HE.out rfl (by omega) rfl ((HSF.out.put5 (Below.refl _ _) hlt2 (Nat.le_of_lt hlt2) _ _ _ _ _).below ((Below.refl _ _).alloc (Nat.le_refl _) _)) (below_al (below_set5 HB4.out _ _ _ _ _) _)
    · have HE := Lib.hid (show R = .ok (1, L.take k, [], k) from HR1.out)
      obtain ⟨⟨rc0, rc1, rc2, rc3, rc4⟩, rfz⟩ := (HRES.out.keep (HBW.out.mono hWs)).cells
      go_wp2_with fail
      refine bodyPost_ret (by simp [results, Tryz.results53, go_sem, rc0, rc1, rc2, rc3, rc4]; exact rfl) rfl ?_
      exact rd_ok HE.out rfl HEX.out (by omega) (below_set5 HB2.out _ _ _ _ _)

end Go.Proofs.YtcogfalhodjmfaaGreatDoor
