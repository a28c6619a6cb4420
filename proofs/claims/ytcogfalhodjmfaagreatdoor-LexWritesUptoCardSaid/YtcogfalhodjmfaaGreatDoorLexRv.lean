/- The reference's Write: what the call returns. Conditions: those of each theorem. -/
import Derived.Test.YtcogfalhodjmfaaGreatDoorLexRw
import Derived.Test.YtcogfalhodjmfaaGreatDoorLexSn
import Derived.Test.YtcogfalhodjmfaaGreatDoorLexSz
namespace Go.Proofs.YtcogfalhodjmfaaGreatDoor
open Go.RowKit Kiln
open Go.Proofs

theorem rsc_err' {r : Scanned} {w w' : World} {e : Ending} {c ln col : Nat} (h : RScPost r w e w') (hr : r = .error (c, ln, col)) : e = .returned (.tuple #[.slice none 0 0, .int .i64 ln, .int .i64 col, .int .i64 c]) := by
  subst hr; exact h.2
theorem rsc_ok' {r : Scanned} {w w' : World} {e : Ending} {l : List Tok} (h : RScPost r w e w') (hr : r = .ok l) : ∃ v, e = .returned (.tuple #[v, .int .i64 0, .int .i64 0, .int .i64 0]) ∧ TkS w' v l := by
  subst hr; exact h.2

set_option maxRecDepth 100000 in
set_option maxHeartbeats 4000000 in
theorem rwrite_any (k : Int) (t : Bytes) (pv : Value) (pa : List Bytes) (ln col : Int) (w : World) (hs : Strs w pv pa) (ht : t.length ≤ 17592186044416) (hp : pa.length ≤ 1099511627776) (hj : (Lib.join (pa ++ [t]) [46]).length ≤ 140737488355328) :
    Calls Tryz.prog 11 #[tokV k t pv ln col] w (WrPost (writeP k t pa) w) := by
  have HS := Lib.hid hs
  obtain ⟨a, cap, rfl, _, _⟩ := hs
  obtain ⟨R, hR⟩ : ∃ R, writeP k t pa = R := ⟨_, rfl⟩
  have HLONG := Lib.hid (fun j => @writeP_long k t pa j)
  have HREF := Lib.hid (writeP_ref k t pa)
  rw [hR] at HLONG HREF ⊢
  clear hR
  have HBX := Lib.hid ((Below.refl _ w).alloc (Nat.le_refl _) (.cells #[.int .i64 k, str t, .slice a pa.length cap, .int .i64 ln, .int .i64 col] 34))
  go_enter Tryz.func11, Tryz.ntmps11
  go_upto_region 2 with fail
  obtain ⟨W, hW⟩ : ∃ W, w.alloc (.cells #[.int .i64 k, str t, .slice a pa.length cap, .int .i64 ln, .int .i64 col] 34) = W := ⟨_, rfl⟩
  have x0 : W.cell? ⟨w.heap.size, 0, none⟩ = some (.int .i64 k) := by rw [← hW]; simp
  have x1 : W.cell? ⟨w.heap.size, 1, none⟩ = some (str t) := by rw [← hW]; simp
  have x2 : W.cell? ⟨w.heap.size, 2, none⟩ = some (.slice a pa.length cap) := by rw [← hW]; simp
  have x3 : W.cell? ⟨w.heap.size, 3, none⟩ = some (.int .i64 ln) := by rw [← hW]; simp
  have x4 : W.cell? ⟨w.heap.size, 4, none⟩ = some (.int .i64 col) := by rw [← hW]; simp
  have hsw : w.heap.size < W.heap.size := by rw [← hW]; simp
  rw [hW] at HBX ⊢
  have HSW := Lib.hid (HS.out.below HBX.out)
  clear hW HS
  go_wp2_with fail
  go_loopw [4, 5] (fun v j wr => ∃ i : Nat, j = .int .i64 i ∧ i ≤ pa.length ∧ wr = W ∧ v = str (preR (pa.take i)) ∧ (preR (pa.take i)).length ≤ 1048576) (fun _ j _ => pa.length - (intOf j).toNat)
  case atStart => exact ⟨0, rfl, Nat.zero_le _, rfl, rfl, by simp [preR]⟩
  case round =>
    obtain ⟨i, rfl, hi, rfl, rfl, hpl⟩ := hrel
    by_cases hlt : i < pa.length
    · have hki : (i : Int) < (pa.length : Int) := by omega
      obtain ⟨x, hx⟩ : ∃ x, pa[i]? = some x := ⟨pa[i], List.getElem?_eq_getElem hlt⟩
      obtain ⟨b, off, cp, hv, hc⟩ := strs_at HSW.out hx
      simp only [Value.slice.injEq] at hv
      obtain ⟨rfl, -, rfl⟩ := hv
      have HN := Lib.hid (preR_snoc pa hx)
      have hxl : (preR (pa.take i) ++ x ++ [46]).length ≤ 140737488355328 := by
        rw [← HN.out]
        exact Nat.le_trans (preR_take pa (i + 1)) (Nat.le_trans preR_le hj)
      obtain ⟨p1, hp1⟩ : ∃ p1 : ByteArray, (⟨(preR (pa.take i)).toArray⟩ : ByteArray) = p1 := ⟨_, rfl⟩
      obtain ⟨p2, hp2⟩ : ∃ p2 : ByteArray, (⟨x.toArray⟩ : ByteArray) = p2 := ⟨_, rfl⟩
      have h1 : p1.size = (preR (pa.take i)).length := by rw [← hp1, Lib.size_eq]
      have h2 : p2.size = x.length := by rw [← hp2, Lib.size_eq]
      rw [List.length_append, List.length_append, ← h1, ← h2] at hxl
      simp only [List.length_cons, List.length_nil] at hxl
      have HP : RowKit.Hid (str (preR (pa.take (i + 1))) = .string (p1 ++ p2 ++ ⟨#[46]⟩)) := by
        show _ = _
        rw [HN.out, ← hp1, ← hp2]
        congr 1
      have hpn : (preR (pa.take (i + 1))).length = p1.size + p2.size + 1 := by rw [HN.out, h1, h2]; simp only [List.length_append, List.length_cons, List.length_nil, Nat.add_assoc]
      have HPN := Lib.hid hpn
      rw [show str (preR (pa.take i)) = .string p1 by rw [← hp1]]
      replace hc : wr.cell? ⟨b, off + i, none⟩ = some (.string p2) := by rw [hc, ← hp2]
      have hz1 : p1.size + p2.size + 1 ≤ 140737488355328 := by omega
      clear hx hp1 hp2 h1 h2 hpn hpl hxl
      by_cases hbig : 1048576 < p1.size + p2.size + 1
      · have hbI : (1048576 : Int) < (p1.size : Int) + p2.size + 1 := by omega
        have HE := Lib.hid (HLONG.out (i + 1) (by rw [HPN.out]; exact hbig))
        go_wp2_with fail
        go_ret2
        exact wr_bad HE.out rfl HBX.out
      · have hbI : decide ((p1.size : Int) + p2.size + 1 > 1048576) = false := by simp; omega
        go_wp2_with fail
        go_roundw
        case rel => exact ⟨i + 1, by go_num, by omega, trivial, HP.out.symm, by rw [HPN.out]; omega⟩
        case measure => simp [intOf]; omega
    · have hki : decide ((i : Int) < (pa.length : Int)) = false := by simp; omega
      have hil : i = pa.length := by omega
      subst hil
      rw [List.take_length] at hpl ⊢
      obtain ⟨p1, hp1⟩ : ∃ p1 : ByteArray, (⟨(preR pa).toArray⟩ : ByteArray) = p1 := ⟨_, rfl⟩
      have h1 : p1.size ≤ 1048576 := by rw [← hp1, Lib.size_eq]; exact hpl
      have HP := Lib.hid (show preR pa = p1.data.toList by rw [← hp1])
      rw [show str (preR pa) = .string p1 by rw [← hp1]]
      obtain ⟨p3, hp3⟩ : ∃ p3 : ByteArray, (⟨(quoteP t).toArray⟩ : ByteArray) = p3 := ⟨_, rfl⟩
      have HQL := Lib.hid (show quoteP t = p3.data.toList by rw [← hp3])
      have h3 : p3.size ≤ 70368744177666 := by
        rw [← hp3, Lib.size_eq]
        have := quote_len t
        show (quoteP t).length ≤ _
        unfold quoteP
        rw [List.length_append, List.length_cons]
        simp only [List.length_cons, List.length_nil]
        omega
      have HQ := Lib.hid (fun W' => show Calls Tryz.prog 30 #[str t] W' (fun e w' => e = .returned (.string p3) ∧ Below W'.heap.size W' w') by
        rw [← hp3]; exact rquote_any ⟨t.toArray⟩ W' (by simpa [ByteArray.size] using ht))
      obtain ⟨p4, hp4⟩ : ∃ p4 : ByteArray, (⟨t.toArray⟩ : ByteArray) = p4 := ⟨_, rfl⟩
      have HTL := Lib.hid (show t = p4.data.toList by rw [← hp4])
      have h4 : p4.size ≤ 17592186044416 := by rw [← hp4, Lib.size_eq]; exact ht
      obtain ⟨S, hS⟩ : ∃ S, preR pa ++ bodyR k t = S := ⟨_, rfl⟩
      rw [hS] at HREF
      have HSS := Lib.hid hS; clear hS hp1 hp3 hpl hlt hki hi HLONG
      go_upto_block 2 with fail
      go_cut [4] (fun v wc => v = str S ∧ Below wr.heap.size wr wc)
      case first =>
        by_cases h6 : k = 6
        · have b6 : (k == 6) = true := by rw [beq_iff_eq]; exact h6
          have HE : RowKit.Hid (S = (p1 ++ p3).data.toList) := by show _ = _; rw [← HSS.out]; unfold bodyR; rw [if_pos b6, HP.out, HQL.out]; simp
          clear h6
          go_wp2_with fail
          refine (HQ.out _).mono ?_
          rintro e w2 ⟨rfl, hb2⟩
          go_wp2_with fail
          go_meet
          exact ⟨by rw [HE.out], hb2⟩
        · have b6 : (k == 6) = false := by rw [beq_eq_false_iff_ne]; exact h6
          by_cases h7 : k = 7
          · have b7 : (k == 7) = true := by rw [beq_iff_eq]; exact h7
            have HE : RowKit.Hid (S = (p1 ++ ⟨#[35]⟩ ++ p3).data.toList) := by show _ = _; rw [← HSS.out]; unfold bodyR; rw [if_neg (by rw [b6]; exact Bool.false_ne_true), if_pos b7, HP.out, HQL.out]; simp
            clear h7 h6
            go_wp2_with fail
            refine (HQ.out _).mono ?_
            rintro e w2 ⟨rfl, hb2⟩
            go_wp2_with fail
            go_meet
            exact ⟨by rw [HE.out], hb2⟩
          · have b7 : (k == 7) = false := by rw [beq_eq_false_iff_ne]; exact h7
            have HE : RowKit.Hid (S = (p1 ++ p4).data.toList) := by show _ = _; rw [← HSS.out]; unfold bodyR; rw [if_neg (by rw [b6]; exact Bool.false_ne_true), if_neg (by rw [b7]; exact Bool.false_ne_true), HP.out, HTL.out]; simp
            rw [show str t = .string p4 by rw [← hp4]] at x1
            clear h7 h6
            go_wp2_with fail
            go_meet
            exact ⟨by rw [HE.out], Below.refl _ _⟩
      case rest =>
        obtain ⟨rfl, hbc⟩ := hcut
        have HBC := Lib.hid (HBX.out.trans (hbc.mono HBX.out.size))
        have hswc : w.heap.size < wc.heap.size := Nat.lt_of_lt_of_le hsw hbc.size
        have y0 := cell_later hbc x0
        have y1 := cell_later hbc x1
        have y2 := cell_later hbc x2
        have y3 := cell_later hbc x3
        have y4 := cell_later hbc x4
        have HSC := Lib.hid (HSW.out.below hbc)
        have HRS := Lib.hid (rscanP_any ⟨S.toArray⟩ wc)
        clear x0 x1 x2 x3 x4 hsw hbc HSW HBX HQ HSS HP HQL HTL h1 h3 h4 hp4
        go_wp2_with fail
        refine HRS.out.mono ?_
        rintro e w2 hpost
        have hb2 := hpost.1
        have HB2 := Lib.hid (HBC.out.trans (hb2.mono HBC.out.size))
        have hsw2 : w.heap.size < w2.heap.size := Nat.lt_of_lt_of_le hswc hb2.size
        have x0 := cell_later hb2 y0
        have x1 := cell_later hb2 y1
        have x2 := cell_later hb2 y2
        have x3 := cell_later hb2 y3
        have x4 := cell_later hb2 y4
        have HS2 := Lib.hid (HSC.out.below hb2)
        clear y0 y1 y2 y3 y4 hswc hb2 HSC HRS HBC
        cases hr0 : scanP S with
        | error q =>
          obtain ⟨c, ln', col'⟩ := q
          have hc := scanP_err hr0
          have hcn : ((c : Int) != 0) = true := by rw [bne_iff_ne]; omega
          have HE : RowKit.Hid (R = .error 1) := by show _ = _; rw [HREF.out, hr0]; rfl
          obtain rfl := rsc_err' hpost hr0
          clear hc hr0 hpost
          go_wp2_with fail
          go_quiet (fail)
          go_wp2_with fail
          go_ret2
          exact wr_bad HE.out rfl (below_drewN HB2.out _)
        | ok l =>
          obtain ⟨v, rfl, htk⟩ := rsc_ok' hpost hr0
          have hsm := scanP_small hr0
          obtain ⟨OK, hOK⟩ : ∃ O, tokIs (.ok l) k t pa = O := ⟨_, rfl⟩
          have HR : RowKit.Hid (R = if OK then .ok S else .error 1) := by show _ = _; rw [HREF.out, hr0, hOK]
          have HOK := Lib.hid hOK
          clear hOK hr0 hpost HREF
          obtain ⟨a5, cap5, rfl, hl⟩ := id htk
          have HL := Lib.hid hl
          clear hl htk
          go_upto_region 15 with fail
          go_cut [70] (fun v wx => v = .bool (!OK) ∧ Below w2.heap.size w2 wx)
          case first =>
            by_cases h1 : l.length = 1
            · obtain ⟨u, rfl⟩ : ∃ u, l = [u] := by
                match l, h1 with
                | [u], _ => exact ⟨u, rfl⟩
              clear h1
              have hup := (hsm.1 u (by simp)).2
              clear hsm
              obtain ⟨b1, o1, rfl, hx1⟩ := HL.out (by simp)
              obtain ⟨pv1, hs1, hc1⟩ := hx1 0 u rfl
              obtain ⟨q1, e1, rfl, _⟩ := id hs1
              have g1 : ∀ (j : Nat) x q, (tokVals u (.slice q1 u.path.length e1))[j]? = some x → q = o1 + (5 * 0 + j) → w2.cell? ⟨b1, q, none⟩ = some x := fun j x q hj hq => by
                subst hq; exact hc1 j x hj
              have u0 : w2.cell? ⟨b1, o1, none⟩ = some (.int .i64 u.kind) := g1 0 _ _ rfl (by omega)
              have u1 : w2.cell? ⟨b1, o1 + 1, none⟩ = some (str u.text) := g1 1 _ _ rfl (by omega)
              have u2 : w2.cell? ⟨b1, o1 + 2, none⟩ = some (.slice q1 u.path.length e1) := g1 2 _ _ rfl (by omega)
              have u3 : w2.cell? ⟨b1, o1 + 3, none⟩ = some (.int .i64 u.line) := g1 3 _ _ rfl (by omega)
              have u4 : w2.cell? ⟨b1, o1 + 4, none⟩ = some (.int .i64 u.col) := g1 4 _ _ rfl (by omega)
              have HAL := Lib.hid (fun W (hb : Below w2.heap.size w2 W) => (show Calls Tryz.prog 25 #[tokV u.kind u.text (.slice q1 u.path.length e1) u.line u.col, tokV k t (.slice a pa.length cap) ln col] W (fun e w' => e = .returned (.bool OK) ∧ Below W.heap.size W w') from
                (show alikeB u ⟨k, t, pa, ln, col⟩ = OK from HOK.out) ▸ alike_any u ⟨k, t, pa, ln, col⟩ (.slice q1 u.path.length e1) (.slice a pa.length cap) W (hs1.below hb) (HS2.out.below hb) (by omega)))
              have HSR := Lib.hid (fun W (hb : Below w2.heap.size w2 W) => (⟨cell_later hb u0, cell_later hb u1, cell_later hb u2, cell_later hb u3, cell_later hb u4, cell_later hb x0, cell_later hb x1, cell_later hb x2, cell_later hb x3, cell_later hb x4, hb⟩ :
                W.cell? ⟨b1, o1, none⟩ = some (.int .i64 u.kind) ∧ W.cell? ⟨b1, o1 + 1, none⟩ = some (str u.text) ∧ W.cell? ⟨b1, o1 + 2, none⟩ = some (.slice q1 u.path.length e1) ∧ W.cell? ⟨b1, o1 + 3, none⟩ = some (.int .i64 u.line) ∧ W.cell? ⟨b1, o1 + 4, none⟩ = some (.int .i64 u.col) ∧
                W.cell? ⟨w.heap.size, 0, none⟩ = some (.int .i64 k) ∧ W.cell? ⟨w.heap.size, 1, none⟩ = some (str t) ∧ W.cell? ⟨w.heap.size, 2, none⟩ = some (.slice a pa.length cap) ∧ W.cell? ⟨w.heap.size, 3, none⟩ = some (.int .i64 ln) ∧ W.cell? ⟨w.heap.size, 4, none⟩ = some (.int .i64 col) ∧ Below w2.heap.size w2 W))
              clear g1 hs1 hc1 hx1 hup
              obtain ⟨T, f, hT, hf, hsur⟩ : ∃ (T : Type) (f : T → World), Nonempty T ∧ (∀ q, Below w2.heap.size w2 (f q)) ∧ (∀ W, Below w2.heap.size w2 W → ∃ q, W = f q) :=
                ⟨{W // Below w2.heap.size w2 W}, Subtype.val, ⟨⟨w2, Below.refl _ _⟩⟩, fun q => q.2, fun W hW => ⟨⟨W, hW⟩, rfl⟩⟩
              haveI := hT
              have HF := Lib.hid hf
              have HSU := Lib.hid hsur
              have h0 := hsur _ (Below.refl w2.heap.size w2).drew
              have HAQ := Lib.hid (fun q => (HAL.out (f q) (HF.out q)).mono fun e w' hh => (⟨hh.1, HSU.out w' ((HF.out q).trans (hh.2.mono (HF.out q).size))⟩ : e = Ending.returned (.bool OK) ∧ ∃ q', w' = f q'))
              have a0 := fun q => (HSR.out (f q) (HF.out q)).1
              have a1 := fun q => (HSR.out (f q) (HF.out q)).2.1
              have a2 := fun q => (HSR.out (f q) (HF.out q)).2.2.1
              have a3 := fun q => (HSR.out (f q) (HF.out q)).2.2.2.1
              have a4 := fun q => (HSR.out (f q) (HF.out q)).2.2.2.2.1
              have a5 := fun q => (HSR.out (f q) (HF.out q)).2.2.2.2.2.1
              have a6 := fun q => (HSR.out (f q) (HF.out q)).2.2.2.2.2.2.1
              have a7 := fun q => (HSR.out (f q) (HF.out q)).2.2.2.2.2.2.2.1
              have a8 := fun q => (HSR.out (f q) (HF.out q)).2.2.2.2.2.2.2.2.1
              have a9 := fun q => (HSR.out (f q) (HF.out q)).2.2.2.2.2.2.2.2.2.1
              have H0 := Lib.hid h0
              clear hf hsur h0 u0 u1 u2 u3 u4 x0 x1 x2 x3 x4
              refine wp_region_grown f (by kernel_rfl) (by kernel_rfl) H0.out ?_
              repeat (go_big_quiet_step (exact HAQ.out _))
              refine wpQuiet_nil ?_
              rintro wz ⟨qz, rfl⟩
              go_wp2_with fail
              go_meet
              exact ⟨rfl, HF.out _⟩
            · have b1 : ((l.length : Int) != 1) = true := by rw [bne_iff_ne]; omega
              have HE : RowKit.Hid (OK = false) := by
                show _ = _
                rw [← HOK.out]
                match l, h1 with
                | [], _ => rfl
                | _ :: _ :: _, _ => rfl
              clear h1 hsm
              go_quiet (fail)
              go_wp2_with fail
              go_meet
              exact ⟨by rw [HE.out]; rfl, below_drewN (Below.refl _ _) _⟩
          case rest =>
            obtain ⟨rfl, hbx⟩ := hcut
            have HBXX := Lib.hid (HB2.out.trans (hbx.mono HB2.out.size)); clear hbx
            cases OK
            · have HE : RowKit.Hid (R = .error 1) := HR.out
              go_wp2_with fail
              go_ret2
              exact wr_bad HE.out rfl HBXX.out
            · have HE : RowKit.Hid (R = .ok S) := HR.out
              go_wp2_with fail
              go_ret2
              exact wr_good HE.out HBXX.out

end Go.Proofs.YtcogfalhodjmfaaGreatDoor
