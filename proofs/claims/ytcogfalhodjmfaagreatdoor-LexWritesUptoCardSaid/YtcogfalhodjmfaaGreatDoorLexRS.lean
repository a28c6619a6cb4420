/- The reference's Scan: what the call returns. Conditions: those of each theorem. -/
import Derived.Test.YtcogfalhodjmfaaGreatDoorLexRP
import Derived.Test.YtcogfalhodjmfaaGreatDoorLexJn
import Derived.Test.YtcogfalhodjmfaaGreatDoorLexRC
namespace Go.Proofs.YtcogfalhodjmfaaGreatDoor
open Go.RowKit Kiln
open Go.Proofs

def RScPost (r : Scanned) (w : World) (e : Ending) (w' : World) : Prop :=
  Below w.heap.size w w' ∧ match r with
  | .error (c, ln, col) => e = .returned (.tuple #[.slice none 0 0, .int .i64 ln, .int .i64 col, .int .i64 c])
  | .ok l => ∃ v, e = .returned (.tuple #[v, .int .i64 0, .int .i64 0, .int .i64 0]) ∧ TkS w' v l

theorem rsc_bad {r : Scanned} {w w' : World} {c ln col : Nat} {lv cv ev : Int} (h : r = .error (c, ln, col)) (h1 : lv = ln) (h2 : cv = col) (h3 : ev = c) (hb : Below w.heap.size w w') :
    RScPost r w (.returned (.tuple #[.slice none 0 0, .int .i64 lv, .int .i64 cv, .int .i64 ev])) w' := by
  subst h; subst h1; subst h2; subst h3; exact ⟨hb, rfl⟩

/-- the loop's state -/
structure RcSt (s : ByteArray) (w wr : World) (v : Value) (pt : Nat) (acc : List Tok) (xs : List Value) : Prop where
  txt : wr.cell? ⟨w.heap.size, 0, none⟩ = some (.string s)
  pos : wr.cell? ⟨w.heap.size, 1, none⟩ = some (.int .i64 pt)
  fat : wr.frozen? ⟨w.heap.size, 1, none⟩ = false
  below : Below w.heap.size w wr
  big : w.heap.size + 1 ≤ wr.heap.size
  own : wr.ownsRow (w.heap.size + 1) 34 5 v acc.length xs
  toks : Toks v.ownBlock (w.heap.size + 1) wr acc xs
  le : pt ≤ s.size
  accle : acc.length ≤ pt

theorem RcSt.rsc {s : ByteArray} {w wr : World} {v : Value} {pt : Nat} {acc : List Tok} {xs : List Value} (h : RcSt s w wr v pt acc xs) (hz : s.size ≤ 1048576) : RSc wr s w.heap.size pt := ⟨h.txt, h.pos, hz, h.le⟩

theorem RcSt.init (s : ByteArray) (w : World) : RcSt s w (w.alloc (.cells #[.string s, .int .i64 0] 57)) (.slice none 0 0) 0 [] [] :=
  ⟨by rw [World.cell?_alloc_new]; rfl, by rw [World.cell?_alloc_new]; rfl, by simp, (Below.refl _ w).alloc (Nat.le_refl _) _, by simp, World.ownsRow_nil _ _ _ _, rfl, Nat.zero_le _, Nat.zero_le _⟩

theorem RcSt.later {s : ByteArray} {w wp W : World} {v : Value} {pt : Nat} {acc : List Tok} {xs : List Value} (h : RcSt s w wp v pt acc xs) (hb : Below wp.heap.size wp W) : RcSt s w W v pt acc xs := by
  have hbig := h.big
  exact ⟨cell_later hb h.txt, cell_later hb h.pos, (hb.frozen (p := ⟨w.heap.size, 1, none⟩) (by simp only []; omega)).trans h.fat, h.below.trans (hb.mono (by omega)), Nat.le_trans hbig hb.size,
    owns_below h.own hb, h.toks.later hb.size (fun k _ hk _ => hb.block k hk) (.inl rfl), h.le, h.accle⟩

theorem RcSt.drewN {s : ByteArray} {w wr : World} {v : Value} {pt : Nat} {acc : List Tok} {xs : List Value} (h : RcSt s w wr v pt acc xs) (n : Nat) : RcSt s w (wr.drewN n) v pt acc xs := h.later (below_drewN (Below.refl _ _) n)

theorem RcSt.setAt {s : ByteArray} {w wr : World} {v : Value} {pt pt' : Nat} {acc : List Tok} {xs : List Value} (h : RcSt s w wr v pt acc xs) {u : Int} (hu : u = pt') (h1 : pt ≤ pt') (h2 : pt' ≤ s.size) :
    RcSt s w (wr.setCell ⟨w.heap.size, 1, none⟩ (.int .i64 u)) v pt' acc xs := by
  subst hu
  have hh : ∀ k, k ≠ w.heap.size → (wr.setCell ⟨w.heap.size, 1, none⟩ (.int .i64 pt')).heap[k]? = wr.heap[k]? := fun k hk => Below.heap_setCell _ _ _ _ hk
  refine ⟨?_, World.cell?_setCell_same (h := h.pos) .., by rw [World.frozen?_setCell]; exact h.fat, h.below.setCell (Nat.le_refl _) _, by simpa [World.setCell] using h.big,
    owns_keep h.own fun k hk => hh k (by omega), h.toks.later (by simp [World.setCell]) (fun k h1 _ _ => hh k (by omega)) (.inl rfl), h2, Nat.le_trans h.accle h1⟩
  rw [World.cell?_setCell_other (h := by intro e; injection e; omega)]
  exact h.txt

theorem RcSt.push {s : ByteArray} {w W w1 : World} {v v' : Value} {pt pt' : Nat} {acc : List Tok} {xs : List Value} {tok : Tok} {pv : Value} (h : RcSt s w W v pt acc xs)
    (hown : w1.ownsRow (w.heap.size + 1) 34 5 v' (acc.length + 1) (xs ++ tokVals tok pv)) (hg : W.grownBy w1 v.ownBlock) {m : Nat} (ho : v'.ownBlock = v.ownBlock ∨ v'.ownBlock = some m) (hm : m = W.heap.size)
    (hp : StrsO v.ownBlock (w.heap.size + 1) W pv tok.path) {u : Int} (hu : u = pt') (h1 : pt < pt') (h2 : pt' ≤ s.size) :
    RcSt s w (w1.setCell ⟨w.heap.size, 1, none⟩ (.int .i64 u)) v' pt' (acc ++ [tok]) (xs ++ tokVals tok pv) ∧ w1.cell? ⟨w.heap.size, 1, none⟩ = some (.int .i64 pt) ∧ w1.frozen? ⟨w.heap.size, 1, none⟩ = false := by
  have hbig := h.big
  have hb : Below (w.heap.size + 1) W w1 := (Below.refl _ _).grown hg hbig fun k hk => (h.own.lt k hk).1
  have q1 := (hb.cell (p := ⟨w.heap.size, 1, none⟩) (Nat.lt_succ_self _)).trans h.pos
  have q2 := (hb.frozen (p := ⟨w.heap.size, 1, none⟩) (Nat.lt_succ_self _)).trans h.fat
  have ht : Toks v'.ownBlock (w.heap.size + 1) w1 (acc ++ [tok]) (xs ++ tokVals tok pv) :=
    (h.toks.snoc hp).later hb.size (fun k h1 h2 h3 => hg.block k h2 h3) (by rcases ho with ho | ho; exact .inl ho; exact .inr ⟨_, ho, Nat.le_of_eq hm.symm⟩)
  subst hu
  have hh : ∀ k, k ≠ w.heap.size → (w1.setCell ⟨w.heap.size, 1, none⟩ (.int .i64 pt')).heap[k]? = w1.heap[k]? := fun k hk => Below.heap_setCell _ _ _ _ hk
  refine ⟨⟨?_, World.cell?_setCell_same (h := q1) .., by rw [World.frozen?_setCell]; exact q2, (h.below.trans (hb.mono (by omega))).setCell (Nat.le_refl _) _, by have := hb.size; simp only [World.setCell, Array.size_modify]; omega,
    ?_, ht.later (by simp [World.setCell]) (fun k h1 _ _ => hh k (by omega)) (.inl rfl), h2, by have := h.accle; simp; omega⟩, q1, q2⟩
  · rw [World.cell?_setCell_other (h := by intro e; injection e; omega)]
    exact (hb.cell (p := ⟨w.heap.size, 0, none⟩) (Nat.lt_succ_self _)).trans h.txt
  · rw [List.length_append]; exact owns_keep hown fun k hk => hh k (by omega)

theorem RcSt.path {s : ByteArray} {w wp w2 : World} {v : Value} {pt : Nat} {acc : List Tok} {xs : List Value} {C : Nat} {pv : Value} {pa : List Bytes} (h : RcSt s w wp v pt acc xs) (hC : wp.heap.size ≤ C) (hf : StrsF C w2 pv pa) :
    StrsO v.ownBlock (w.heap.size + 1) w2 pv pa := by
  refine ⟨hf.1, fun hne => ?_⟩
  obtain ⟨a, n, cap, rfl, ha⟩ := hf.2 hne
  have hbig := h.big
  refine ⟨a, n, cap, rfl, by omega, ?_, fun e => ?_⟩
  · obtain ⟨a', cap', hv, _, hl⟩ := hf.1
    obtain ⟨b, off, ha', hx⟩ := hl hne
    simp only [Value.slice.injEq] at hv
    rw [← hv.1] at ha'
    injection ha' with ha'
    subst ha'
    cases pa with
    | nil => exact absurd rfl hne
    | cons x l => exact World.block_lt_of_cell? _ _ (hx 0 x rfl)
  · have := own_lt h.own e.symm; omega

theorem cells_new5g {W : World} {g : Nat} (h : W.heap.size = g) (v0 v1 v2 v3 v4 : Value) (T : TypeId) : ∀ j u, [v0, v1, v2, v3, v4][j]? = some u → (W.alloc (.cells #[v0, v1, v2, v3, v4] T)).cell? ((⟨g, 0, none⟩ : Addr).add j) = some u := by
  rw [← h]; exact cells_new5 _ _ _ _ _ _ _

theorem adv_le (p : Nat × Nat) : ∀ (l : Bytes), (adv p l).1 ≤ p.1 + l.length ∧ (adv p l).2 ≤ p.2 + l.length + 1 := by
  intro l
  induction l generalizing p with
  | nil => exact ⟨Nat.le_refl _, by simp [adv]⟩
  | cons c l ih =>
    have h := ih (adv1 p c)
    have e : adv p (c :: l) = adv (adv1 p c) l := rfl
    rw [e]
    simp only [List.length_cons]
    by_cases hc : (c == 10) = true
    · have e1 : adv1 p c = (p.1 + 1, 1) := if_pos hc
      rw [e1] at h ⊢
      simp only [] at h
      omega
    · have e1 : adv1 p c = (p.1, p.2 + 1) := if_neg hc
      rw [e1] at h ⊢
      simp only [] at h
      omega

def atO (w : World) (b : Nat) : Nat := match w.cell? ⟨b, 1, none⟩ with | some v => (intOf v).toNat | none => 0
theorem atO_eq {w : World} {b n : Nat} (h : w.cell? ⟨b, 1, none⟩ = some (.int .i64 n)) : atO w b = n := by
  unfold atO; rw [h]; simp [intOf]

theorem rscan_long (s : ByteArray) (w : World) (hz : 1048576 < s.size) :
    Calls Tryz.prog 7 #[.string s] w (RScPost (.error (2, 0, 0)) w) := by
  have hl : decide ((1048576 : Int) < (s.size : Int)) = true := by simp; omega
  go_enter Tryz.func7, Tryz.ntmps7
  go_wp2_with fail
  refine bodyPost_ret (results_tmp4 rfl _ _ _) rfl ?_
  exact rsc_bad rfl rfl rfl rfl (Below.refl _ _)

set_option maxRecDepth 100000 in
set_option maxHeartbeats 4000000 in
theorem rscan_any (s : ByteArray) (w : World) (hz : s.size ≤ 1048576) :
    Calls Tryz.prog 7 #[.string s] w (RScPost (scanC s.data.toList (1, 1) []) w) := by
  have hl : decide ((1048576 : Int) < (s.size : Int)) = false := by simp; omega
  obtain ⟨r, hr⟩ : ∃ r, scanC s.data.toList (1, 1) [] = r := ⟨_, rfl⟩
  rw [hr]
  have HR0 := Lib.hid hr.symm; clear hr
  have HI := Lib.hid (RcSt.init s w)
  go_enter Tryz.func7, Tryz.ntmps7
  go_wp2_with fail
  go_loopw [6, 8, 9, 10] (fun v v8 v9 v10 wr => ∃ (pt fr ln col : Nat) (acc : List Tok) (xs : List Value), v8 = .int .i64 ln ∧ v9 = .int .i64 col ∧ v10 = .int .i64 fr ∧ RcSt s w wr v pt acc xs ∧ fr ≤ pt ∧ adv (1, 1) (s.data.toList.take fr) = (ln, col) ∧ r = scanC (s.data.toList.drop pt) (adv (1, 1) (s.data.toList.take pt)) acc) (fun _ _ _ _ wr => s.size - atO wr w.heap.size)
  case atStart => exact ⟨0, 0, 1, 1, [], [], rfl, rfl, rfl, HI.out, Nat.le_refl _, rfl, HR0.out⟩
  case round =>
    clear HI HR0
    obtain ⟨pt, fr, ln, col, acc, xs, rfl, rfl, rfl, hst, hfr, hadv, heq⟩ := hrel
    have HS := Lib.hid hst
    have HADV := Lib.hid hadv
    have HEQ := Lib.hid heq
    have htx := hst.txt
    have hpo := hst.pos
    have hfa := hst.fat
    have hpt := hst.le
    have HC1 := Lib.hid hst.pos
    clear hst hadv heq
    by_cases hlt : pt < s.size
    · have hI : (pt : Int) < (s.size : Int) := by omega
      have hd := cell_u8 s pt hlt
      obtain ⟨x, hx⟩ : ∃ x : UInt8, s[pt]'hlt = x := ⟨_, rfl⟩
      rw [hx] at hd
      have HD := Lib.hid hd; clear hd
      go_wp2_with fail
      refine (rBlank_any _ _).mono ?_
      rintro e w' ⟨rfl, rfl⟩
      rw [show blankI (x.toNat : Int) = blankB x from rfl]
      generalize hB : blankB x = B
      cases B
      · have HB := Lib.hid hB; clear hB
        go_wp2_with fail
        go_loopw [8, 9, 10] (fun v8 v9 v10 wi => ∃ fr ln col : Nat, v8 = .int .i64 ln ∧ v9 = .int .i64 col ∧ v10 = .int .i64 fr ∧ wi = wr ∧ fr ≤ pt ∧ adv (1, 1) (s.data.toList.take fr) = (ln, col)) (fun _ _ v10 _ => pt - (intOf v10).toNat)
        case atStart => exact ⟨fr, ln, col, rfl, rfl, rfl, rfl, hfr, HADV.out⟩
        case round =>
          clear HADV hfr
          obtain ⟨fr, ln, col, rfl, rfl, rfl, rfl, hfr, hadv⟩ := hrel
          have hle := adv_le (1, 1) (s.data.toList.take fr)
          rw [hadv] at hle
          have hfs : fr ≤ s.size := by omega
          have hlen : (s.data.toList.take fr).length = fr := by rw [List.length_take, ← Lib.size_eq]; omega
          rw [hlen] at hle
          simp only [] at hle
          have HADV := Lib.hid hadv; clear hadv hlen
          by_cases hfp : fr < pt
          · have hI2 : (fr : Int) < (pt : Int) := by omega
            have hI3 : (fr : Int) < (s.size : Int) := by omega
            have hfs2 : fr < s.size := by omega
            obtain ⟨y, hy⟩ : ∃ y : UInt8, s[fr]'hfs2 = y := ⟨_, rfl⟩
            have hy256 := y.toNat_lt
            have HN := Lib.hid (show adv (1, 1) (s.data.toList.take (fr + 1)) = adv1 (ln, col) y by rw [adv_step hfs2, HADV.out, hy])
            by_cases h10 : y.toNat = 10
            · have b10 : ((y.toNat : Int) == 10) = true := by rw [beq_iff_eq]; omega
              have HN2 := Lib.hid (show adv (1, 1) (s.data.toList.take (fr + 1)) = (ln + 1, 1) by rw [HN.out, u8_of h10]; rfl)
              go_wp2_with fail
              go_roundw
              case rel => exact ⟨fr + 1, ln + 1, 1, by go_num, rfl, by go_num, by first | trivial | rfl, by omega, HN2.out⟩
              case measure => simp [intOf]; omega
            · have b10 : ((y.toNat : Int) == 10) = false := by rw [beq_eq_false_iff_ne]; omega
              have HN2 := Lib.hid (show adv (1, 1) (s.data.toList.take (fr + 1)) = (ln, col + 1) by
                rw [HN.out]; unfold adv1; rw [if_neg (by rw [beq_iff_eq]; rintro rfl; exact h10 rfl)])
              go_wp2_with fail
              go_roundw
              case rel => exact ⟨fr + 1, ln, col + 1, rfl, by go_num, by go_num, by first | trivial | rfl, by omega, HN2.out⟩
              case measure => simp [intOf]; omega
          · have hI2 : decide ((fr : Int) < (pt : Int)) = false := by simp; omega
            obtain rfl : fr = pt := by omega
            clear hfp hfr
            have HRC := Lib.hid (HS.out.rsc hz)
            have HC := Lib.hid (HS.out.rsc hz).calls
            obtain ⟨L, hL⟩ : ∃ L, s.data.toList.drop fr = L := ⟨_, rfl⟩
            have hLl : fr + L.length = s.size := by rw [← hL, List.length_drop, ← Lib.size_eq]; omega
            rw [hL] at HC HD HEQ
            rw [HADV.out] at HEQ
            have HL := Lib.hid hL; clear hL
            obtain ⟨A, hA⟩ : ∃ A, [40, 42].isPrefixOf L = A := ⟨_, rfl⟩
            have HA := Lib.hid hA
            rw [pre2 L 40 42 (by decide) (by decide)] at hA
            obtain ⟨z0, hz0⟩ : ∃ z, atB L 0 = z := ⟨_, rfl⟩
            obtain ⟨z1, hz1⟩ : ∃ z, atB L 1 = z := ⟨_, rfl⟩
            rw [hz0, hz1] at hA
            have HZ0 := Lib.hid (HC.out.at' 0 0 0 rfl (by omega))
            rw [hz0, World.drewN_zero] at HZ0
            have HZ1 := Lib.hid (fun m => HC.out.at' 1 1 m rfl (by omega))
            rw [hz1] at HZ1
            have HAA := Lib.hid hA
            clear hz0 hz1 hA
            go_upto_region 15 with fail
            go_cut [66] (fun v wc => v = .bool A ∧ ∃ m, wc = wr.drewN m)
            case first =>
              obtain ⟨C, hC⟩ : ∃ B, (z0 == 40) = B := ⟨_, rfl⟩
              have bc : ((z0.toNat : Int) == 40) = C := (u8_beq z0 40 (by omega)).trans hC
              have HBB := Lib.hid (show (C && z1 == 42) = A by rw [← hC]; exact HAA.out)
              clear hC HAA
              go_wp2_with fail
              refine HZ0.out.mono ?_
              rintro e w' ⟨rfl, m1, rfl⟩
              cases C
              · have HB2 := Lib.hid (show false = A from HBB.out)
                go_wp2_with fail
                go_meet
                exact ⟨by rw [HB2.out], _, rfl⟩
              · have b1 : ((z1.toNat : Int) == 42) = A := (u8_beq z1 42 (by omega)).trans HBB.out
                go_wp2_with fail
                refine (HZ1.out _).mono ?_
                rintro e w' ⟨rfl, m2, rfl⟩
                go_wp2_with fail
                go_meet
                exact ⟨rfl, _, rfl⟩
            case rest =>
              obtain ⟨rfl, m1, rfl⟩ := hcut
              clear HAA HZ0 HZ1 HC
              have HSD := Lib.hid (HS.out.drewN m1)
              have HRD := Lib.hid (HRC.out.drew m1)
              cases A
              · have hcm := scanC_tok (p := (ln, col)) (acc := acc) HB.out (by rw [← HD.out]; exact HA.out)
                rw [← HD.out] at hcm
                have HE := Lib.hid (HEQ.out.trans hcm); clear hcm
                have HON := Lib.hid (rone_any s w.heap.size fr (wr.drewN m1) HRD.out hlt)
                rw [HL.out, ← read_one] at HON
                rcases rd_cases HON.out with ⟨c, hrc, hcl⟩ | ⟨k, t, pa, n, hrc, hcl⟩
                · have HEE := Lib.hid (show r = .error (c, ln, col) by rw [HE.out, hrc])
                  have hcz := readP_err hrc
                  have bc : ((c : Int) != 0) = true := by rw [bne_iff_ne]; omega
                  clear hrc hcz HE HEQ
                  go_wp2_with fail
                  refine hcl.mono ?_
                  rintro e w4 ⟨rfl, hb4⟩
                  have HB4 := Lib.hid (HSD.out.below.trans (hb4.mono HSD.out.below.size))
                  clear hb4
                  go_wp2_with fail
                  (try simp only [Exit.inBlock, Exit.then]); refine bodyPost_ret (results_tmp4 rfl _ _ _) rfl ?_
                  exact rsc_bad HEE.out rfl rfl rfl (below_al HB4.out _)
                · have HE2 := Lib.hid (show r = scanC (L.drop n) (adv (ln, col) (L.take n)) (acc ++ [⟨k, t, pa, ln, col⟩]) by rw [HE.out, hrc])
                  have hnl := readP_len (by rw [HD.out]; simp) hrc
                  clear hrc HE HEQ
                  obtain ⟨u0, hu, hu0, hu1, hu2⟩ := info_parts Tryz.infoTok
                  go_wp2_with fail
                  refine hcl.mono ?_
                  rintro e w4 ⟨a, cap, rfl, hsf, hb4⟩
                  have HS4 := Lib.hid (HSD.out.later hb4)
                  have HP4 := Lib.hid (HSD.out.path (Nat.le_refl _) hsf)
                  clear hb4 hsf hcl HON
                  have HS5 := Lib.hid (fun o => HS4.out.later (below_al (Below.refl _ w4) o))
                  have HP5 := Lib.hid (fun o => HP4.out.later (ob' := u6.ownBlock) (w' := w4.alloc o) (by simp) (fun k _ hk _ => Below.heap_alloc _ _ _ hk) (.inl rfl))
                  have HS6 := Lib.hid (fun o o2 => (HS5.out o).later (below_al (Below.refl _ (w4.alloc o)) o2))
                  have HP6 := Lib.hid (fun o o2 => (HP5.out o).later (ob' := u6.ownBlock) (w' := (w4.alloc o).alloc o2) (by simp) (fun k _ hk _ => Below.heap_alloc _ _ _ hk) (.inl rfl))
                  have hac := HS4.out.accle
                  have hbig := HS4.out.big
                  go_wp2_with (first | (at_builtin; refine wpList_append_own_at _ rfl _ _ 22 rfl (w.heap.size + 1) 34 u0 (.agg #[.int .i64 0, .string ⟨#[]⟩, .slice none 0 0, .int .i64 0, .int .i64 0]) 5 64 Tryz.underlying22 hu hu0 hu1 hu2 rfl (by decide) _ _ _ rfl (HS6.out _ _).own ⟨w4.heap.size + 1, 0, none⟩ 1 1 [.int .i64 k, str t, .slice a pa.length cap, .int .i64 ln, .int .i64 col] rfl rfl ?e1 (one_tok _ _ _ _ _ _ _) ?e3 ?e4 ?e5 ?_))
                  case e1 => exact cells_new5g (by simp) _ _ _ _ _ _
                  case e3 => unfold maxLen; omega
                  case e4 => omega
                  case e5 => exact (HS6.out _ _).big
                  intro v' w1 hown1 hgr _ hob
                  obtain ⟨hfin, d1, df⟩ := (HS6.out _ _).push (tok := ⟨k, t, pa, ln, col⟩) hown1 hgr hob (by simp) (HP6.out _ _) (u := ↑fr + ↑n) (pt' := fr + n) (by omega) (by omega) (by omega)
                  have HFIN := Lib.hid hfin
                  have HQ := Lib.hid (show r = scanC (s.data.toList.drop (fr + n)) (adv (1, 1) (s.data.toList.take (fr + n))) (acc ++ [⟨k, t, pa, ln, col⟩]) by
                    rw [HE2.out, ← HL.out, List.drop_drop, ← HADV.out]
                    unfold adv
                    rw [← List.foldl_append, ← List.take_add])
                  clear hown1 hgr hob hfin
                  go_wp2_with fail
                  go_roundw
                  case rel => exact ⟨fr + n, fr, ln, col, _, _, rfl, rfl, rfl, HFIN.out, by omega, HADV.out, HQ.out⟩
                  case measure => rw [atO_eq HFIN.out.pos, atO_eq HC1.out]; omega
              · have hcm := scanC_comm (p := (ln, col)) (acc := acc) HB.out (by rw [← HD.out]; exact HA.out)
                rw [← HD.out] at hcm
                have HE := Lib.hid (HEQ.out.trans hcm); clear hcm
                have HCO := Lib.hid (rcomment_any s w.heap.size fr (wr.drewN m1) HRD.out (by rw [HL.out]; exact HA.out))
                rw [HL.out] at HCO
                obtain ⟨C, hC⟩ : ∃ C, commC 0 0 L = C := ⟨_, rfl⟩
                rw [hC] at HCO
                have hC' : commP (L.length + 1) 0 0 L = C := hC
                rw [hC'] at HE
                have HCC := Lib.hid hC'
                clear hC hC' HEQ
                go_wp2_with fail
                refine HCO.out.mono ?_
                rintro e w' ⟨rfl, rfl⟩
                cases C with
                | none =>
                  rw [show (none : Option Nat).isSome = false from rfl]
                  go_wp2_with fail
                  (try simp only [Exit.inBlock, Exit.then]); refine bodyPost_ret (results_tmp4 rfl _ _ _) rfl ?_
                  exact rsc_bad HE.out rfl rfl rfl HSD.out.below
                | some n =>
                  have hlen := commP_len _ _ _ _ HCC.out
                  rw [show (some n).isSome = true from rfl, show commV fr (some n) = ((fr + n : Nat) : Int) from rfl]
                  have hn := Lib.hid (HSD.out.setAt (pt' := fr + n) (u := ↑fr + ↑n) (by omega) (by omega) (by omega))
                  have HQ := Lib.hid (show r = scanC (s.data.toList.drop (fr + n)) (adv (1, 1) (s.data.toList.take (fr + n))) acc by
                    rw [HE.out]
                    simp only []
                    rw [← HL.out, List.drop_drop, ← HADV.out]
                    unfold adv
                    rw [← List.foldl_append, ← List.take_add])
                  go_wp2_with fail
                  go_roundw
                  case rel => exact ⟨fr + n, fr, ln, col, acc, xs, rfl, rfl, rfl, hn.out, by omega, HADV.out, HQ.out⟩
                  case measure => rw [atO_eq hn.out.pos, atO_eq HC1.out]; omega
      · have hn := Lib.hid (HS.out.setAt (pt' := pt + 1) (u := ↑pt + 1) (by omega) (by omega) (by omega))
        have hq : r = scanC (s.data.toList.drop (pt + 1)) (adv (1, 1) (s.data.toList.take (pt + 1))) acc := by
          rw [HEQ.out, HD.out, scanC_blank hB, adv_step hlt, hx]
        have HQ := Lib.hid hq; clear hq
        clear hB
        go_wp2_with fail
        go_roundw
        case rel => exact ⟨pt + 1, fr, ln, col, acc, xs, rfl, rfl, rfl, hn.out, by omega, HADV.out, HQ.out⟩
        case measure => rw [atO_eq hn.out.pos, atO_eq HC1.out]; omega
    · have HE := Lib.hid (show r = .ok acc by rw [HEQ.out, List.drop_of_length_le (by rw [← Lib.size_eq]; omega)]; rfl)
      have hI : decide ((pt : Int) < (s.size : Int)) = false := by simp; omega
      go_wp2_with fail
      (try simp only [Exit.inBlock, Exit.then]); refine bodyPost_ret (results_tmp4 rfl _ _ _) rfl ?_
      refine ⟨HS.out.below, ?_⟩
      rw [HE.out]
      exact ⟨_, rfl, toks_TkS HS.out.own HS.out.toks⟩

theorem rscanP_any (s : ByteArray) (w : World) : Calls Tryz.prog 7 #[.string s] w (RScPost (scanP s.data.toList) w) := by
  unfold scanP
  split
  · exact rscan_long s w (by rw [Lib.size_eq]; assumption)
  · exact rscan_any s w (by rw [Lib.size_eq]; omega)

end Go.Proofs.YtcogfalhodjmfaaGreatDoor
