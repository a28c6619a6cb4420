/- The reference's one: what the call returns. Conditions: those of each theorem. -/
import Derived.Test.YtcogfalhodjmfaaGreatDoorLexRO
namespace Go.Proofs.YtcogfalhodjmfaaGreatDoor
open Go.RowKit Kiln
open Go.Proofs

/-- a token's own block: kind and text, no path -/
structure TkN (B : Nat) (w : World) (k : Int) (sv : ByteArray) : Prop where
  c0 : w.cell? ⟨B, 0, none⟩ = some (.int .i64 k)
  c1 : w.cell? ⟨B, 1, none⟩ = some (.string sv)
  c2 : w.cell? ⟨B, 2, none⟩ = some (.slice none 0 0)
  c3 : w.cell? ⟨B, 3, none⟩ = some (.int .i64 0)
  c4 : w.cell? ⟨B, 4, none⟩ = some (.int .i64 0)
  fz : ∀ j, w.frozen? ⟨B, j, none⟩ = false

theorem TkN.drew {B : Nat} {w : World} {k : Int} {sv : ByteArray} (h : TkN B w k sv) (n : Nat) : TkN B (w.drewN n) k sv := ⟨h.c0, h.c1, h.c2, h.c3, h.c4, h.fz⟩
theorem TkN.later {B : Nat} {w w' : World} {k : Int} {sv : ByteArray} (h : TkN B w k sv) (hb : Below w.heap.size w w') : TkN B w' k sv :=
  ⟨cell_later hb h.c0, cell_later hb h.c1, cell_later hb h.c2, cell_later hb h.c3, cell_later hb h.c4, fun j => (hb.frozen (p := ⟨B, j, none⟩) (World.block_lt_of_cell? w ⟨B, 0, none⟩ h.c0)).trans (h.fz j)⟩
theorem TkN.set {B : Nat} {w : World} {k k' : Int} {sv : ByteArray} (h : TkN B w k sv) : TkN B (w.setCell ⟨B, 0, none⟩ (.int .i64 k')) k' sv := by
  have o : ∀ j, j ≠ 0 → (w.setCell ⟨B, 0, none⟩ (.int .i64 k')).cell? ⟨B, j, none⟩ = w.cell? ⟨B, j, none⟩ := fun j hj => World.cell?_setCell_other (h := fun e => hj (by injection e with _ e; exact e.symm)) ..
  exact ⟨World.cell?_setCell_same (h := h.c0) .., (o 1 (by omega)).trans h.c1, (o 2 (by omega)).trans h.c2, (o 3 (by omega)).trans h.c3, (o 4 (by omega)).trans h.c4, fun j => by rw [World.frozen?_setCell]; exact h.fz j⟩

theorem TkN.fresh (W : World) (q : Nat) : TkN W.heap.size ((W.drewN q).alloc (.cells #[.int .i64 0, .string ⟨#[]⟩, .slice none 0 0, .int .i64 0, .int .i64 0] 34)) 0 ⟨#[]⟩ :=
  ⟨cell_nd W q 0 _ _, cell_nd W q 1 _ _, cell_nd W q 2 _ _, cell_nd W q 3 _ _, cell_nd W q 4 _ _, fun j => frozen_nd W q j _ _⟩
theorem TkN.put5 {B : Nat} {w : World} {k k' : Int} {sv sv' : ByteArray} (h : TkN B w k sv) :
    TkN B (((((w.setCell ⟨B, 0, none⟩ (.int .i64 k')).setCell ⟨B, 1, none⟩ (.string sv')).setCell ⟨B, 2, none⟩ (.slice none 0 0)).setCell ⟨B, 3, none⟩ (.int .i64 0)).setCell ⟨B, 4, none⟩ (.int .i64 0)) k' sv' := by
  have ne : ∀ (X : World) (i j : Nat) (v : Value), i ≠ j → (X.setCell ⟨B, i, none⟩ v).cell? ⟨B, j, none⟩ = X.cell? ⟨B, j, none⟩ := fun X i j v hij => World.cell?_setCell_other (h := fun e => hij (by injection e)) ..
  refine ⟨?_, ?_, ?_, ?_, ?_, fun j => by rw [World.frozen?_setCell, World.frozen?_setCell, World.frozen?_setCell, World.frozen?_setCell, World.frozen?_setCell]; exact h.fz j⟩
  · rw [ne _ 4 0 _ (by decide), ne _ 3 0 _ (by decide), ne _ 2 0 _ (by decide), ne _ 1 0 _ (by decide)]; exact World.cell?_setCell_same (h := h.c0) ..
  · rw [ne _ 4 1 _ (by decide), ne _ 3 1 _ (by decide), ne _ 2 1 _ (by decide)]; exact World.cell?_setCell_same (h := (ne _ 0 1 _ (by decide)).trans h.c1) ..
  · rw [ne _ 4 2 _ (by decide), ne _ 3 2 _ (by decide)]; exact World.cell?_setCell_same (h := (ne _ 1 2 _ (by decide)).trans ((ne _ 0 2 _ (by decide)).trans h.c2)) ..
  · rw [ne _ 4 3 _ (by decide)]; exact World.cell?_setCell_same (h := (ne _ 2 3 _ (by decide)).trans ((ne _ 1 3 _ (by decide)).trans ((ne _ 0 3 _ (by decide)).trans h.c3))) ..
  · exact World.cell?_setCell_same (h := (ne _ 3 4 _ (by decide)).trans ((ne _ 2 4 _ (by decide)).trans ((ne _ 1 4 _ (by decide)).trans ((ne _ 0 4 _ (by decide)).trans h.c4)))) ..

theorem numEnd_kind (l : Bytes) : (numEnd l).2 = 4 ∨ (numEnd l).2 = 5 := by
  unfold numEnd
  simp only []
  repeat' split
  all_goals first | exact .inl rfl | exact .inr rfl

set_option maxRecDepth 100000 in
set_option maxHeartbeats 4000000 in
theorem rone_any (s : ByteArray) (b i : Nat) (w : World) (h : RSc w s b i) (hi : i < s.size) :
    Calls Tryz.prog 24 #[.pointer (some ⟨b, 0, none⟩)] w (RdPost (oneR (s.data.toList.drop i)) 0 w) := by
  have hz := h.sz
  have hne := World.block_lt_of_cell? w _ h.txt
  have hne1 : ¬ w.heap.size = b := fun e => by simp only [] at hne; omega
  have hne2 : ¬ b = w.heap.size := fun e => by simp only [] at hne; omega
  clear hne
  obtain ⟨L, hL⟩ : ∃ L, s.data.toList.drop i = L := ⟨_, rfl⟩
  have hLl : i + L.length = s.size := by rw [← hL, List.length_drop, ← Lib.size_eq]; omega
  have HL := Lib.hid hL
  rw [hL]
  clear hL
  obtain ⟨R, hR⟩ : ∃ R, oneR L = R := ⟨_, rfl⟩
  rw [hR]
  have HRR : RowKit.Hid (R = if atB L 0 == 34 then quotedR 0 6 L
    else if atB L 0 == 35 && atB L 1 == 34 then quotedR 1 7 L
    else if digitB (atB L 0) || atB L 0 == 126 && digitB (atB L 1) then numR L
    else if atB L 0 == 39 then .ok (3, L.take (cntB wordB L), [], cntB wordB L)
    else if atB L 0 == 46 && atB L 1 == 46 && atB L 2 == 46 then .ok (1, [46, 46, 46], [], 3)
    else if punctL.contains (atB L 0) then .ok (1, L.take 1, [], 1)
    else if letterB (atB L 0) || signB (atB L 0) then namedR L
    else .error 40) := by show _ = _; rw [← hR]; rfl
  clear hR
  have HW := Lib.hid (h.later ((Below.refl _ w).alloc (Nat.le_refl _) (.cells #[.int .i64 0, .string ⟨#[]⟩, .slice none 0 0, .int .i64 0, .int .i64 0] 34)))
  clear h
  have HC : RowKit.Hid (RCalls L b (w.alloc (.cells #[.int .i64 0, .string ⟨#[]⟩, .slice none 0 0, .int .i64 0, .int .i64 0] 34))) := by
    have := HW.out.calls
    rw [HL.out] at this; exact this
  have hs := HW.out.txt
  have ha := HW.out.pos
  have HRES := Lib.hid (ResB.new w)
  have HB0 := Lib.hid ((Below.refl _ w).alloc (Nat.le_refl _) (.cells #[.int .i64 0, .string ⟨#[]⟩, .slice none 0 0, .int .i64 0, .int .i64 0] 34))
  have hWs : w.heap.size < (w.alloc (.cells #[.int .i64 0, .string ⟨#[]⟩, .slice none 0 0, .int .i64 0, .int .i64 0] 34)).heap.size := by simp
  go_enter Tryz.func24, Tryz.ntmps24
  go_wp2_with fail
  obtain ⟨W, hW⟩ : ∃ W, w.alloc (.cells #[.int .i64 0, .string ⟨#[]⟩, .slice none 0 0, .int .i64 0, .int .i64 0] 34) = W := ⟨_, rfl⟩
  rw [hW] at HW HC hs ha HRES HB0 hWs ⊢
  clear hW
  obtain ⟨x, hx⟩ : ∃ x, atB L 0 = x := ⟨_, rfl⟩
  rw [hx] at HRR
  have HA0 := Lib.hid (HC.out.at' 0 0 0 rfl (by omega))
  rw [hx, World.drewN_zero] at HA0
  have HX0 := Lib.hid hx
  clear hx
  refine HA0.out.mono ?_
  rintro e w' ⟨rfl, m1, rfl⟩
  clear HA0
  obtain ⟨y, hy⟩ : ∃ y, atB L 1 = y := ⟨_, rfl⟩
  rw [hy] at HRR
  have HA1 := Lib.hid (fun m => HC.out.at' 1 1 m rfl (by omega))
  rw [hy] at HA1
  have HYY := Lib.hid hy
  clear hy
  obtain ⟨z, hz'⟩ : ∃ z, atB L 2 = z := ⟨_, rfl⟩
  rw [hz'] at HRR
  have HA2 := Lib.hid (fun m => HC.out.at' 2 2 m rfl (by omega))
  rw [hz'] at HA2
  clear hz'
  -- a string
  obtain ⟨B1, hB1⟩ : ∃ B, (x == 34) = B := ⟨_, rfl⟩
  have b1 : ((x.toNat : Int) == 34) = B1 := (u8_beq x 34 (by omega)).trans hB1
  rw [hB1] at HRR
  clear hB1
  cases B1
  case true =>
    have HX := Lib.hid (show R = quotedR 0 6 L from HRR.out)
    have HQ := Lib.hid (rquoted6_any s b i (W.drewN m1) (HW.out.drew m1) (by omega))
    rw [HL.out] at HQ
    rcases rd_cases HQ.out with ⟨c, hrc, hcl⟩ | ⟨k, t, pa, n, hrc, hcl⟩
    · have HE := Lib.hid (HX.out.trans hrc)
      clear hrc
      go_wp2_with fail
      refine hcl.mono ?_
      rintro e w4 ⟨rfl, hb4⟩
      have HB4 := Lib.hid (HB0.out.trans (((below_drewN (Below.refl W.heap.size W) _).trans hb4).mono (Nat.le_of_lt hWs)))
      obtain ⟨⟨rc0, rc1, rc2, rc3, rc4⟩, rfz⟩ := (HRES.out.keep (((below_drewN (Below.refl W.heap.size W) _).trans hb4).mono hWs)).cells
      clear hb4
      go_wp2_with fail
      refine bodyPost_ret (by simp [results, Tryz.results24, go_sem, rc0, rc1, rc2, rc3, rc4]; exact rfl) rfl ?_
      exact rd_bad HE.out rfl (below_set5 HB4.out _ _ _ _ _)
    · have HE := Lib.hid (HX.out.trans hrc)
      clear hrc
      go_wp2_with fail
      refine hcl.mono ?_
      rintro e w4 ⟨a, cap, rfl, hsf, hb4⟩
      have HSF := Lib.hid hsf
      have HB4 := Lib.hid (HB0.out.trans (((below_drewN (Below.refl W.heap.size W) _).trans hb4).mono (Nat.le_of_lt hWs)))
      obtain ⟨⟨rc0, rc1, rc2, rc3, rc4⟩, rfz⟩ := (HRES.out.keep (((below_drewN (Below.refl W.heap.size W) _).trans hb4).mono hWs)).cells
      clear hb4 hsf
      go_wp2_with fail
      refine bodyPost_ret (by simp [results, Tryz.results24, go_sem, rc0, rc1, rc2, rc3, rc4]; exact rfl) rfl ?_
      exact rd_okS HE.out rfl (by omega) rfl (HSF.out.put5 (Below.refl _ _) hWs (Nat.le_of_lt hWs) _ _ _ _ _) (below_set5 HB4.out _ _ _ _ _)
  case false =>
    have HR1 : RowKit.Hid (R = if x == 35 && y == 34 then quotedR 1 7 L
      else if digitB x || x == 126 && digitB y then numR L
      else if x == 39 then .ok (3, L.take (cntB wordB L), [], cntB wordB L)
      else if x == 46 && y == 46 && z == 46 then .ok (1, [46, 46, 46], [], 3)
      else if punctL.contains x then .ok (1, L.take 1, [], 1)
      else if letterB x || signB x then namedR L
      else .error 40) := HRR.out
    clear HRR
    obtain ⟨B2, hB2⟩ : ∃ B, (x == 35 && y == 34) = B := ⟨_, rfl⟩
    have HB2 := Lib.hid hB2; clear hB2
    rw [HB2.out] at HR1
    go_upto_region 4 with fail
    go_cut [20] (fun v wc => v = .bool B2 ∧ ∃ m, wc = W.drewN m)
    case first =>
      obtain ⟨C, hC⟩ : ∃ B, (x == 35) = B := ⟨_, rfl⟩
      have bc : ((x.toNat : Int) == 35) = C := (u8_beq x 35 (by omega)).trans hC
      have HBB := Lib.hid (show (C && y == 34) = B2 by rw [← hC]; exact HB2.out)
      clear hC HB2
      cases C
      · have HB2' := Lib.hid (show false = B2 from HBB.out)
        go_wp2_with fail
        go_meet
        exact ⟨by rw [HB2'.out], _, rfl⟩
      · have by' : ((y.toNat : Int) == 34) = B2 := (u8_beq y 34 (by omega)).trans HBB.out
        go_wp2_with fail
        refine (HA1.out _).mono ?_
        rintro e w' ⟨rfl, m2, rfl⟩
        go_wp2_with fail
        go_meet
        exact ⟨rfl, _, rfl⟩
    case rest =>
      obtain ⟨rfl, m2, rfl⟩ := hcut
      cases B2
      case true =>
        have HX := Lib.hid (show R = quotedR 1 7 L from HR1.out)
        have hy34 : 1 < L.length := atB_lt (HYY.out.trans (show y = 34 by have := HB2.out; simp only [Bool.and_eq_true, beq_iff_eq] at this; exact this.2)) (by decide)
        have HQ := Lib.hid (rquoted7_any s b i (W.drewN m2) (HW.out.drew m2) (by omega))
        rw [HL.out] at HQ
        rcases rd_cases HQ.out with ⟨c, hrc, hcl⟩ | ⟨k, t, pa, n, hrc, hcl⟩
        · have HE := Lib.hid (HX.out.trans hrc)
          clear hrc
          go_wp2_with fail
          refine hcl.mono ?_
          rintro e w4 ⟨rfl, hb4⟩
          have HB4 := Lib.hid (HB0.out.trans (((below_drewN (Below.refl W.heap.size W) _).trans hb4).mono (Nat.le_of_lt hWs)))
          obtain ⟨⟨rc0, rc1, rc2, rc3, rc4⟩, rfz⟩ := (HRES.out.keep (((below_drewN (Below.refl W.heap.size W) _).trans hb4).mono hWs)).cells
          clear hb4
          go_wp2_with fail
          refine bodyPost_ret (by simp [results, Tryz.results24, go_sem, rc0, rc1, rc2, rc3, rc4]; exact rfl) rfl ?_
          exact rd_bad HE.out rfl (below_set5 HB4.out _ _ _ _ _)
        · have HE := Lib.hid (HX.out.trans hrc)
          clear hrc
          go_wp2_with fail
          refine hcl.mono ?_
          rintro e w4 ⟨a, cap, rfl, hsf, hb4⟩
          have HSF := Lib.hid hsf
          have HB4 := Lib.hid (HB0.out.trans (((below_drewN (Below.refl W.heap.size W) _).trans hb4).mono (Nat.le_of_lt hWs)))
          obtain ⟨⟨rc0, rc1, rc2, rc3, rc4⟩, rfz⟩ := (HRES.out.keep (((below_drewN (Below.refl W.heap.size W) _).trans hb4).mono hWs)).cells
          clear hb4 hsf
          go_wp2_with fail
          refine bodyPost_ret (by simp [results, Tryz.results24, go_sem, rc0, rc1, rc2, rc3, rc4]; exact rfl) rfl ?_
          exact rd_okS HE.out rfl (by omega) rfl (HSF.out.put5 (Below.refl _ _) hWs (Nat.le_of_lt hWs) _ _ _ _ _) (below_set5 HB4.out _ _ _ _ _)
      case false =>
        have HR2 : RowKit.Hid (R = if digitB x || x == 126 && digitB y then numR L
          else if x == 39 then .ok (3, L.take (cntB wordB L), [], cntB wordB L)
          else if x == 46 && y == 46 && z == 46 then .ok (1, [46, 46, 46], [], 3)
          else if punctL.contains x then .ok (1, L.take 1, [], 1)
          else if letterB x || signB x then namedR L
          else .error 40) := HR1.out
        clear HR1 HB2
        obtain ⟨B3, hB3⟩ : ∃ B, (digitB x || x == 126 && digitB y) = B := ⟨_, rfl⟩
        have HB3 := Lib.hid hB3; clear hB3
        rw [HB3.out] at HR2
        go_upto_region 6 with fail
        go_cut [33] (fun v wc => v = .bool B3 ∧ ∃ m, wc = W.drewN m)
        case first =>
          go_wp2_with fail
          refine (rDigit_any _ _).mono ?_
          rintro e w' ⟨rfl, rfl⟩
          obtain ⟨D, hD⟩ : ∃ D, digitI (x.toNat : Int) = D := ⟨_, rfl⟩
          rw [hD]
          have HBB := Lib.hid (show (D || x == 126 && digitB y) = B3 by rw [← hD]; exact HB3.out)
          clear hD HB3
          cases D
          · obtain ⟨C, hC⟩ : ∃ B, (x == 126) = B := ⟨_, rfl⟩
            have bc : ((x.toNat : Int) == 126) = C := (u8_beq x 126 (by omega)).trans hC
            have HBC := Lib.hid (show (C && digitB y) = B3 by rw [← hC]; exact HBB.out)
            clear hC HBB
            cases C
            · have HB2' := Lib.hid (show false = B3 from HBC.out)
              go_wp2_with fail
              go_meet
              exact ⟨by rw [HB2'.out], _, rfl⟩
            · have HB2' := Lib.hid (show digitI (y.toNat : Int) = B3 from HBC.out)
              go_wp2_with fail
              refine (HA1.out _).mono ?_
              rintro e w' ⟨rfl, m3, rfl⟩
              go_wp2_with fail
              refine (rDigit_any _ _).mono ?_
              rintro e w' ⟨rfl, rfl⟩
              rw [HB2'.out]
              go_wp2_with fail
              go_meet
              exact ⟨rfl, _, rfl⟩
          · have HB2' := Lib.hid (show true = B3 from HBB.out)
            go_wp2_with fail
            go_meet
            exact ⟨by rw [HB2'.out], _, rfl⟩
        case rest =>
          obtain ⟨rfl, m3, rfl⟩ := hcut
          cases B3
          case true =>
            have HX := Lib.hid (show R = numR L from HR2.out)
            have hdg := HB3.out
            simp only [Bool.or_eq_true, Bool.and_eq_true, beq_iff_eq] at hdg
            have hnl := numEnd_len L (by rw [HX0.out, HYY.out]; exact hdg)
            obtain ⟨p, hp⟩ : ∃ p, numEnd L = p := ⟨_, rfl⟩
            have hkd := numEnd_kind L
            rw [hp] at hnl hkd
            have HX2 : RowKit.Hid (R = if 0 < cntB wordB (L.drop p.1) then .error 43 else if 4096 < p.1 then .error 2 else .ok (p.2, L.take p.1, [], p.1)) := by
              show _ = _; rw [HX.out]; unfold numR; rw [hp]
            have HNU := Lib.hid (rnumber_any L b m3 W HC.out)
            unfold NumPost at HNU
            rw [hp] at HNU
            clear HX hp hdg HR2 HB3
            obtain ⟨n, kd⟩ := p
            simp only [] at HX2 HNU hnl hkd
            go_wp2_with fail
            refine HNU.out.mono ?_
            rintro e w' ⟨rfl, m4, rfl⟩
            clear HNU
            have e1 : IntKind.i64.wrap ((i : Int) + n) = (i : Int) + n := IntWalk.i64_in _ (by omega)
            have e3 : (0 : Int) ≤ (i : Int) := by omega
            have e4 : (i : Int) ≤ (i : Int) + n := by omega
            have e5 : (i : Int) + n ≤ (s.size : Int) := by omega
            have e6 : ((i : Int)).toNat = i := by omega
            have e7 : ((i : Int) + n).toNat = i + n := by omega
            obtain ⟨sv, hsv⟩ : ∃ sv, s.extract i (i + n) = sv := ⟨_, rfl⟩
            have HEX := Lib.hid (show sv.data.toList = L.take n by rw [← hsv, ext_take s i (i + n) n rfl, HL.out])
            go_upto_region 8 with fail
            go_cut [8] (fun v wc => v = .pointer (some ⟨W.heap.size, 0, none⟩) ∧ TkN W.heap.size wc 4 sv ∧ Below W.heap.size W wc)
            case first =>
              have hs1 : ∀ (q : Nat) (o : Obj), ((W.drewN q).alloc o).cell? ⟨b, 0, none⟩ = some (.string s) := fun q o => cell_al (w := W.drewN q) hs o
              have ha1 : ∀ (q : Nat) (o : Obj), ((W.drewN q).alloc o).cell? ⟨b, 1, none⟩ = some (.int .i64 i) := fun q o => cell_al (w := W.drewN q) ha o
              have hcn := cell_nd W
              have hfn := frozen_nd W
              go_region
              all_goals go_wp2_with fail
              all_goals go_meet
              all_goals exact ⟨rfl, (TkN.fresh W _).put5, ((((((below_drewN (Below.refl _ W) _).alloc (Nat.le_refl _) _).setCell (Nat.le_refl _) _).setCell (Nat.le_refl _) _).setCell (Nat.le_refl _) _).setCell (Nat.le_refl _) _).setCell (Nat.le_refl _) _⟩
            case rest =>
              obtain ⟨rfl, htk, hbw⟩ := hcut
              have HTK := Lib.hid htk
              have HBW := Lib.hid hbw
              clear e1 e3 e4 e5 e6 e7 hsv htk hbw
              obtain ⟨RL, hRL⟩ : ∃ RL, (kd == 5) = RL := ⟨_, rfl⟩
              rw [hRL]
              have hkv : kd = if RL then 5 else 4 := by rw [← hRL]; rcases hkd with h | h <;> (rw [h]; rfl)
              clear hRL hkd
              obtain ⟨t0, t1, t2, t3, t4, tf⟩ := HTK.out
              go_upto_if 66 with fail
              go_cut [8] (fun v wd => v = .pointer (some ⟨W.heap.size, 0, none⟩) ∧ TkN W.heap.size wd kd sv ∧ Below W.heap.size W wd)
              case first =>
                cases RL
                · have hk4 : kd = 4 := hkv
                  subst hk4
                  go_wp2_with fail
                  go_meet
                  exact ⟨rfl, HTK.out, HBW.out⟩
                · have hk5 : kd = 5 := hkv
                  subst hk5
                  go_wp2_with fail
                  go_meet
                  exact ⟨rfl, HTK.out.set, HBW.out.setCell (Nat.le_refl _) _⟩
              case rest =>
                obtain ⟨rfl, htk2, hbw2⟩ := hcut
                have HTK2 := Lib.hid htk2
                have HBW2 := Lib.hid hbw2
                have HC2 : RowKit.Hid (RCalls L b wc) := by
                  have := (HW.out.later hbw2).calls
                  rw [HL.out] at this; exact this
                have HBR := Lib.hid (HB0.out.trans (hbw2.mono (Nat.le_of_lt hWs)))
                obtain ⟨⟨rc0, rc1, rc2, rc3, rc4⟩, rfz⟩ := (HRES.out.keep (hbw2.mono hWs)).cells
                have hneW : ¬ W.heap.size = w.heap.size := by omega
                have hneW2 : ¬ w.heap.size = W.heap.size := by omega
                clear htk2 hbw2 HTK HBW t0 t1 t2 t3 t4 tf hkv
                obtain ⟨t0, t1, t2, t3, t4, tf⟩ := HTK2.out
                obtain ⟨k, hk⟩ : ∃ k, cntB wordB (L.drop n) = k := ⟨_, rfl⟩
                have HRU := Lib.hid (HC2.out.run1 n n 0 rfl (by omega))
                rw [hk, World.drewN_zero] at HRU
                rw [hk] at HX2
                clear hk
                go_wp2_with fail
                refine HRU.out.mono ?_
                rintro e w' ⟨rfl, m5, rfl⟩
                clear HRU
                by_cases hk0 : 0 < k
                · have HE := Lib.hid (show R = .error 43 by rw [HX2.out, if_pos hk0])
                  have bk : (0 : Int) < (k : Int) := by omega
                  clear hk0 HX2
                  go_wp2_with fail
                  refine bodyPost_ret (by simp [results, Tryz.results24, go_sem, rc0, rc1, rc2, rc3, rc4]; exact rfl) rfl ?_
                  exact rd_bad HE.out rfl (below_set5 (below_drewN HBR.out _) _ _ _ _ _)
                · have bk : ¬ 0 < k := hk0
                  by_cases hn4 : 4096 < n
                  · have HE := Lib.hid (show R = .error 2 by rw [HX2.out, if_neg hk0, if_pos hn4])
                    have bn : (4096 : Int) < (n : Int) := by omega
                    clear hk0 HX2 hn4
                    go_wp2_with fail
                    refine bodyPost_ret (by simp [results, Tryz.results24, go_sem, rc0, rc1, rc2, rc3, rc4]; exact rfl) rfl ?_
                    exact rd_bad HE.out rfl (below_set5 (below_drewN HBR.out _) _ _ _ _ _)
                  · have HE := Lib.hid (show R = .ok (kd, L.take n, [], n) by rw [HX2.out, if_neg hk0, if_neg hn4])
                    have bn : decide ((n : Int) > 4096) = false := by simp; omega
                    clear hk0 HX2 hn4
                    go_wp2_with fail
                    refine bodyPost_ret (by simp [results, Tryz.results24, go_sem, rc0, rc1, rc2, rc3, rc4]; exact rfl) rfl ?_
                    exact rd_ok HE.out rfl HEX.out (by omega) (below_set5 (below_drewN HBR.out _) _ _ _ _ _)
          case false =>
            have HR3 : RowKit.Hid (R = if x == 39 then .ok (3, L.take (cntB wordB L), [], cntB wordB L)
              else if x == 46 && y == 46 && z == 46 then .ok (1, [46, 46, 46], [], 3)
              else if punctL.contains x then .ok (1, L.take 1, [], 1)
              else if letterB x || signB x then namedR L
              else .error 40) := HR2.out
            clear HR2 HB3
            obtain ⟨B4, hB4⟩ : ∃ B, (x == 39) = B := ⟨_, rfl⟩
            have b4 : ((x.toNat : Int) == 39) = B4 := (u8_beq x 39 (by omega)).trans hB4
            rw [hB4] at HR3
            clear hB4
            cases B4
            case true =>
              have HX := Lib.hid (show R = .ok (3, L.take (cntB wordB L), [], cntB wordB L) from HR3.out)
              clear HR3
              obtain ⟨k, hk⟩ : ∃ k, cntB wordB L = k := ⟨_, rfl⟩
              have hkl : k ≤ L.length := by rw [← hk]; exact cntB_le _ _
              have HRU := Lib.hid (HC.out.run1 0 0 m3 rfl (by omega))
              rw [List.drop_zero, hk] at HRU
              rw [hk] at HX
              clear hk
              go_wp2_with fail
              refine HRU.out.mono ?_
              rintro e w' ⟨rfl, m4, rfl⟩
              have e1 : IntKind.i64.wrap ((i : Int) + k) = (i : Int) + k := IntWalk.i64_in _ (by omega)
              have e3 : (0 : Int) ≤ (i : Int) := by omega
              have e4 : (i : Int) ≤ (i : Int) + k := by omega
              have e5 : (i : Int) + k ≤ (s.size : Int) := by omega
              have e6 : ((i : Int)).toNat = i := by omega
              have e7 : ((i : Int) + k).toNat = i + k := by omega
              have HEX := Lib.hid (show (s.extract i (i + k)).data.toList = L.take k by rw [ext_take s i (i + k) k rfl, HL.out])
              obtain ⟨⟨rc0, rc1, rc2, rc3, rc4⟩, rfz⟩ := HRES.out.cells
              go_wp2_with fail
              go_region
              all_goals clear e1 e3 e4 e5 e6 e7
              all_goals go_wp2_with fail
              all_goals refine bodyPost_ret (by simp [results, Tryz.results24, go_sem, rc0, rc1, rc2, rc3, rc4]; exact rfl) rfl ?_
              all_goals exact rd_ok HX.out rfl HEX.out (by omega) (below_set5 (below_drewN HB0.out _) _ _ _ _ _)
            case false =>
              have HR4 : RowKit.Hid (R = if x == 46 && y == 46 && z == 46 then .ok (1, [46, 46, 46], [], 3)
                else if punctL.contains x then .ok (1, L.take 1, [], 1)
                else if letterB x || signB x then namedR L
                else .error 40) := HR3.out
              clear HR3
              obtain ⟨B5, hB5⟩ : ∃ B, (x == 46 && y == 46 && z == 46) = B := ⟨_, rfl⟩
              have HB5 := Lib.hid hB5; clear hB5
              rw [HB5.out] at HR4
              go_upto_region 19 with fail
              go_cut [100] (fun v wc => v = .bool B5 ∧ ∃ m, wc = W.drewN m)
              case first =>
                obtain ⟨C, hC⟩ : ∃ B, (x == 46) = B := ⟨_, rfl⟩
                have bc : ((x.toNat : Int) == 46) = C := (u8_beq x 46 (by omega)).trans hC
                obtain ⟨D, hD⟩ : ∃ B, (y == 46) = B := ⟨_, rfl⟩
                have bd : ((y.toNat : Int) == 46) = D := (u8_beq y 46 (by omega)).trans hD
                have HBB := Lib.hid (show (C && D && z == 46) = B5 by rw [← hC, ← hD]; exact HB5.out)
                clear hC hD HB5
                cases C
                · have HB2' := Lib.hid (show false = B5 from HBB.out)
                  go_wp2_with fail
                  go_meet
                  exact ⟨by rw [HB2'.out], _, rfl⟩
                · cases D
                  · have HB2' := Lib.hid (show false = B5 from HBB.out)
                    go_wp2_with fail
                    refine (HA1.out _).mono ?_
                    rintro e w' ⟨rfl, m4, rfl⟩
                    go_wp2_with fail
                    go_meet
                    exact ⟨by rw [HB2'.out], _, rfl⟩
                  · have bz : ((z.toNat : Int) == 46) = B5 := (u8_beq z 46 (by omega)).trans HBB.out
                    go_wp2_with fail
                    refine (HA1.out _).mono ?_
                    rintro e w' ⟨rfl, m4, rfl⟩
                    go_wp2_with fail
                    refine (HA2.out _).mono ?_
                    rintro e w' ⟨rfl, m5, rfl⟩
                    go_wp2_with fail
                    go_meet
                    exact ⟨rfl, _, rfl⟩
              case rest =>
                obtain ⟨rfl, m4, rfl⟩ := hcut
                cases B5
                case true =>
                  have HX := Lib.hid (show R = .ok (1, [46, 46, 46], [], 3) from HR4.out)
                  obtain ⟨⟨rc0, rc1, rc2, rc3, rc4⟩, rfz⟩ := HRES.out.cells
                  go_wp2_with fail
                  refine bodyPost_ret (by simp [results, Tryz.results24, go_sem, rc0, rc1, rc2, rc3, rc4]; exact rfl) rfl ?_
                  exact rd_ok HX.out rfl rfl (by omega) (below_set5 (below_drewN HB0.out _) _ _ _ _ _)
                case false =>
                  have HR5 : RowKit.Hid (R = if punctL.contains x then .ok (1, L.take 1, [], 1)
                    else if letterB x || signB x then namedR L
                    else .error 40) := HR4.out
                  clear HR4 HB5 HA1 HA2
                  obtain ⟨B6, hB6⟩ : ∃ B, punctL.contains x = B := ⟨_, rfl⟩
                  rw [hB6] at HR5
                  have HIN := Lib.hid (fun W' => in_any x ⟨#[40, 41, 91, 93, 123, 125, 44, 59, 95]⟩ W' (by decide))
                  have hB6' : (⟨#[40, 41, 91, 93, 123, 125, 44, 59, 95]⟩ : ByteArray).data.toList.contains x = B6 := hB6
                  rw [hB6'] at HIN
                  clear hB6 hB6'
                  go_wp2_with fail
                  refine (HIN.out _).mono ?_
                  rintro e w' ⟨rfl, rfl⟩
                  clear HIN
                  cases B6
                  case true =>
                    have HX := Lib.hid (show R = .ok (1, L.take 1, [], 1) from HR5.out)
                    have e1 : IntKind.i64.wrap ((i : Int) + 1) = (i : Int) + 1 := IntWalk.i64_in _ (by omega)
                    have e3 : (0 : Int) ≤ (i : Int) := by omega
                    have e4 : (i : Int) ≤ (i : Int) + 1 := by omega
                    have e5 : (i : Int) + 1 ≤ (s.size : Int) := by omega
                    have e6 : ((i : Int)).toNat = i := by omega
                    have e7 : ((i : Int) + 1).toNat = i + 1 := by omega
                    have HEX := Lib.hid (show (s.extract i (i + 1)).data.toList = L.take 1 by rw [ext_take s i (i + 1) 1 rfl, HL.out])
                    obtain ⟨⟨rc0, rc1, rc2, rc3, rc4⟩, rfz⟩ := HRES.out.cells
                    go_wp2_with fail
                    go_region
                    all_goals clear e1 e3 e4 e5 e6 e7
                    all_goals go_wp2_with fail
                    all_goals refine bodyPost_ret (by simp [results, Tryz.results24, go_sem, rc0, rc1, rc2, rc3, rc4]; exact rfl) rfl ?_
                    all_goals exact rd_ok HX.out rfl HEX.out (by omega) (below_set5 (below_drewN HB0.out _) _ _ _ _ _)
                  case false =>
                    have HR6 : RowKit.Hid (R = if letterB x || signB x then namedR L else .error 40) := HR5.out
                    clear HR5
                    obtain ⟨B7, hB7⟩ : ∃ B, (letterB x || signB x) = B := ⟨_, rfl⟩
                    have HB7 := Lib.hid hB7
                    rw [hB7] at HR6
                    clear hB7
                    go_upto_region 23 with fail
                    go_cut [132] (fun v wc => v = .bool B7 ∧ ∃ m, wc = W.drewN m)
                    case first =>
                      go_wp2_with fail
                      refine (rLetter_any _ _).mono ?_
                      rintro e w' ⟨rfl, rfl⟩
                      obtain ⟨D, hD⟩ : ∃ D, letterI (x.toNat : Int) = D := ⟨_, rfl⟩
                      rw [hD]
                      have HBB := Lib.hid (show (D || signB x) = B7 by rw [← hD]; exact HB7.out)
                      clear hD HB7
                      cases D
                      · have HB2' := Lib.hid (show signB x = B7 from HBB.out)
                        go_wp2_with fail
                        refine (rSign_any _ _).mono ?_
                        rintro e w' ⟨rfl, rfl⟩
                        rw [HB2'.out]
                        go_wp2_with fail
                        go_meet
                        exact ⟨rfl, _, rfl⟩
                      · have HB2' := Lib.hid (show true = B7 from HBB.out)
                        go_wp2_with fail
                        go_meet
                        exact ⟨by rw [HB2'.out], _, rfl⟩
                    case rest =>
                      obtain ⟨rfl, m5, rfl⟩ := hcut
                      cases B7
                      case true =>
                        have HX := Lib.hid (show R = namedR L from HR6.out)
                        have HQ := Lib.hid (rnamed_any s b i (W.drewN m5) (HW.out.drew m5))
                        rw [HL.out] at HQ
                        rcases rd_cases HQ.out with ⟨c, hrc, hcl⟩ | ⟨k, t, pa, n, hrc, hcl⟩
                        · have HE := Lib.hid (HX.out.trans hrc)
                          clear hrc
                          go_wp2_with fail
                          refine hcl.mono ?_
                          rintro e w4 ⟨rfl, hb4⟩
                          have HB4 := Lib.hid (HB0.out.trans (((below_drewN (Below.refl W.heap.size W) _).trans hb4).mono (Nat.le_of_lt hWs)))
                          obtain ⟨⟨rc0, rc1, rc2, rc3, rc4⟩, rfz⟩ := (HRES.out.keep (((below_drewN (Below.refl W.heap.size W) _).trans hb4).mono hWs)).cells
                          clear hb4
                          go_wp2_with fail
                          refine bodyPost_ret (by simp [results, Tryz.results24, go_sem, rc0, rc1, rc2, rc3, rc4]; exact rfl) rfl ?_
                          exact rd_bad HE.out rfl (below_set5 HB4.out _ _ _ _ _)
                        · have HE := Lib.hid (HX.out.trans hrc)
                          clear hrc
                          go_wp2_with fail
                          refine hcl.mono ?_
                          rintro e w4 ⟨a, cap, rfl, hsf, hb4⟩
                          have HSF := Lib.hid hsf
                          have HB4 := Lib.hid (HB0.out.trans (((below_drewN (Below.refl W.heap.size W) _).trans hb4).mono (Nat.le_of_lt hWs)))
                          obtain ⟨⟨rc0, rc1, rc2, rc3, rc4⟩, rfz⟩ := (HRES.out.keep (((below_drewN (Below.refl W.heap.size W) _).trans hb4).mono hWs)).cells
                          clear hb4 hsf
                          go_wp2_with fail
                          refine bodyPost_ret (by simp [results, Tryz.results24, go_sem, rc0, rc1, rc2, rc3, rc4]; exact rfl) rfl ?_
                          exact rd_okS HE.out rfl (by omega) rfl (HSF.out.put5 (Below.refl _ _) hWs (Nat.le_of_lt hWs) _ _ _ _ _) (below_set5 HB4.out _ _ _ _ _)
                      case false =>
                        have HX := Lib.hid (show R = .error 40 from HR6.out)
                        obtain ⟨⟨rc0, rc1, rc2, rc3, rc4⟩, rfz⟩ := HRES.out.cells
                        go_wp2_with fail
                        refine bodyPost_ret (by simp [results, Tryz.results24, go_sem, rc0, rc1, rc2, rc3, rc4]; exact rfl) rfl ?_
                        exact rd_bad HX.out rfl (below_set5 (below_drewN HB0.out _) _ _ _ _ _)

end Go.Proofs.YtcogfalhodjmfaaGreatDoor
