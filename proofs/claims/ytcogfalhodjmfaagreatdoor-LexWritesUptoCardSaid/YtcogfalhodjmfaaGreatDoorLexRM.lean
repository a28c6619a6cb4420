/- The reference's name: what the call returns. Conditions: those of the theorem. -/
import Derived.Test.YtcogfalhodjmfaaGreatDoorLexRQ
import Derived.Test.YtcogfalhodjmfaaGreatDoorLexW
namespace Go.Proofs.YtcogfalhodjmfaaGreatDoor
open Go.RowKit Kiln
open Go.Proofs

def nWd (l : Bytes) : Bool := decide (0 < cntB wordB l) && letterB (atB l 0)
def nK (l : Bytes) : Nat := if nWd l then cntB wordB l else cntB signB l
def nameR : Nat → List Bytes → Nat → Bytes → Option (Bytes × List Bytes × Nat)
  | 0, _, _, _ => none
  | f + 1, path, n, l =>
    if nK l = 0 || digitB (atB l 0) || resB (l.take (nK l)) then none
    else if !nWd l || atB l (nK l) != 46 then some (l.take (nK l), path, n + nK l)
    else nameR f (path ++ [l.take (nK l)]) (n + nK l + 1) (l.drop (nK l + 1))

theorem nameR_fuel : ∀ (f g : Nat) (path : List Bytes) (n : Nat) (l : Bytes), l.length < f → l.length < g → nameR f path n l = nameR g path n l
  | 0, _, _, _, _, h, _ => by omega
  | _, 0, _, _, _, _, h => by omega
  | f + 1, g + 1, path, n, l, hf, hg => by
    simp only [nameR]
    by_cases h46 : (atB l (nK l) != 46) = true
    · rw [h46]; simp
    · have hlt := atB_len (l := l) (k := nK l) (c := 46) (by simpa using h46) (by decide)
      have h1 := nameR_fuel f g (path ++ [l.take (nK l)]) (n + nK l + 1) (l.drop (nK l + 1)) (by rw [List.length_drop]; omega) (by rw [List.length_drop]; omega)
      rw [h1]

def nameC (path : List Bytes) (n : Nat) (l : Bytes) : Option (Bytes × List Bytes × Nat) := nameR (l.length + 1) path n l

theorem nameC_eq (path : List Bytes) (n : Nat) (l : Bytes) : nameC path n l =
    if nK l = 0 || digitB (atB l 0) || resB (l.take (nK l)) then none
    else if !nWd l || atB l (nK l) != 46 then some (l.take (nK l), path, n + nK l)
    else nameC (path ++ [l.take (nK l)]) (n + nK l + 1) (l.drop (nK l + 1)) := by
  by_cases h46 : (atB l (nK l) != 46) = true
  · unfold nameC; simp only [nameR]; rw [h46]; simp
  · have hlt := atB_len (l := l) (k := nK l) (c := 46) (by simpa using h46) (by decide)
    conv => lhs; unfold nameC; rw [nameR]
    rw [nameR_fuel l.length ((l.drop (nK l + 1)).length + 1) _ _ _ (by rw [List.length_drop]; omega) (by omega)]
    rfl

def RNPost (r : Option (Bytes × List Bytes × Nat)) (w : World) (e : Ending) (w' : World) : Prop :=
  Below w.heap.size w w' ∧ match r with
  | none => ∃ (a : Option Addr) (m cap : Nat) (n : Int), e = .returned (.tuple #[.agg #[.int .i64 2, .string ⟨#[]⟩, .slice a m cap, .int .i64 0, .int .i64 0], .int .i64 n, .bool false])
  | some (t, pa, n) => ∃ pv, StrsF w.heap.size w' pv pa ∧ e = .returned (.tuple #[.agg #[.int .i64 2, str t, pv, .int .i64 0, .int .i64 0], .int .i64 (n : Nat), .bool true])

theorem rn_bad {r : Option (Bytes × List Bytes × Nat)} {w w' : World} (h : r = none) (hb : Below w.heap.size w w') (a : Option Addr) (m cap : Nat) (n : Int) : RNPost r w (.returned (.tuple #[.agg #[.int .i64 2, .string ⟨#[]⟩, .slice a m cap, .int .i64 0, .int .i64 0], .int .i64 n, .bool false])) w' := by
  subst h; exact ⟨hb, a, m, cap, n, rfl⟩

/-- the token's own block in memory -/
structure TkB (B : Nat) (w : World) (pv : Value) : Prop where
  c0 : w.cell? ⟨B, 0, none⟩ = some (.int .i64 2)
  c1 : w.cell? ⟨B, 1, none⟩ = some (.string ⟨#[]⟩)
  c2 : w.cell? ⟨B, 2, none⟩ = some pv
  c3 : w.cell? ⟨B, 3, none⟩ = some (.int .i64 0)
  c4 : w.cell? ⟨B, 4, none⟩ = some (.int .i64 0)
  fz : ∀ j, w.frozen? ⟨B, j, none⟩ = false
  lt : B < w.heap.size

theorem TkB.later {B : Nat} {w w' : World} {pv : Value} (h : TkB B w pv) (hb : Below w.heap.size w w') : TkB B w' pv :=
  ⟨cell_later hb h.c0, cell_later hb h.c1, cell_later hb h.c2, cell_later hb h.c3, cell_later hb h.c4, fun j => (hb.frozen (p := ⟨B, j, none⟩) h.lt).trans (h.fz j), Nat.lt_of_lt_of_le h.lt hb.size⟩

theorem own_mono {w : World} {B B' n size : Nat} {e : TypeId} {v : Value} {xs : List Value} (h : w.ownsRow B e size v n xs) (hb : B' ≤ B) : w.ownsRow B' e size v n xs := by
  refine ⟨h.1, ?_⟩
  rcases h.2 with hn | ⟨g, cap, cur, rfl, hbg, rest⟩
  · exact .inl hn
  · exact .inr ⟨g, cap, cur, rfl, Nat.le_trans hb hbg, rest⟩

theorem rn_good {r : Option (Bytes × List Bytes × Nat)} {w w2 : World} {t : Bytes} {pa : List Bytes} {n : Nat} {a : Option Addr} {cap : Nat} {nv : Int} {sv : ByteArray} (h : r = some (t, pa, n)) (ht : sv.data.toList = t) (hn : nv = (n : Nat))
    (hown : OwnP (w.heap.size + 1 + 1) w2 (.slice a pa.length cap) pa) (hb : Below w.heap.size w w2) (x v0 v1 v2 v3 v4 : Value) :
    RNPost r w (.returned (.tuple #[.agg #[.int .i64 2, .string sv, .slice a pa.length cap, .int .i64 0, .int .i64 0], .int .i64 nv, .bool true]))
      ((((((w2.setCell ⟨w.heap.size + 1, 1, none⟩ x).setCell ⟨w.heap.size, 0, none⟩ v0).setCell ⟨w.heap.size, 1, none⟩ v1).setCell ⟨w.heap.size, 2, none⟩ v2).setCell ⟨w.heap.size, 3, none⟩ v3).setCell ⟨w.heap.size, 4, none⟩ v4) := by
  subst h; subst ht; subst hn
  refine ⟨below_set5 (hb.setCell (Nat.le_succ _) _) _ _ _ _ _, _, strsF_own (own_set5 (own_mono (ownsRow_setCell_below hown (Nat.lt_succ_self _) _) (Nat.le_succ _)) _ _ _ _ _), ?_⟩
  rw [str, Lib.mk_data]

theorem TkB.keepB {B : Nat} {w w' : World} {pv : Value} (h : TkB B w pv) (hb : Below (B + 1) w w') : TkB B w' pv := by
  have c : ∀ j, w'.cell? ⟨B, j, none⟩ = w.cell? ⟨B, j, none⟩ := fun j => hb.cell (p := ⟨B, j, none⟩) (Nat.lt_succ_self _)
  exact ⟨(c 0).trans h.c0, (c 1).trans h.c1, (c 2).trans h.c2, (c 3).trans h.c3, (c 4).trans h.c4, fun j => (hb.frozen (p := ⟨B, j, none⟩) (Nat.lt_succ_self _)).trans (h.fz j), Nat.lt_of_lt_of_le h.lt hb.size⟩
theorem TkB.set {B : Nat} {w : World} {pv : Value} (h : TkB B w pv) (pv' : Value) : TkB B (w.setCell ⟨B, 2, none⟩ pv') pv' := by
  have o : ∀ j, j ≠ 2 → (w.setCell ⟨B, 2, none⟩ pv').cell? ⟨B, j, none⟩ = w.cell? ⟨B, j, none⟩ := fun j hj => World.cell?_setCell_other (h := fun e => hj (by injection e with _ e; exact e.symm)) ..
  exact ⟨(o 0 (by omega)).trans h.c0, (o 1 (by omega)).trans h.c1, World.cell?_setCell_same (h := h.c2) .., (o 3 (by omega)).trans h.c3, (o 4 (by omega)).trans h.c4, fun j => by rw [World.frozen?_setCell]; exact h.fz j, by simpa [World.setCell] using h.lt⟩

structure NSt (L : Bytes) (r : Option (Bytes × List Bytes × Nat)) (w wr : World) (path : List Bytes) (n : Nat) (a : Option Addr) (cap : Nat) : Prop where
  own : OwnP (w.heap.size + 1 + 1) wr (.slice a path.length cap) path
  tok : TkB (w.heap.size + 1) wr (.slice a path.length cap)
  res : ResB w.heap.size wr
  below : Below w.heap.size w wr
  le : n ≤ L.length
  ple : path.length ≤ n
  eq : r = nameC path n (L.drop n)

set_option maxRecDepth 100000 in
set_option maxHeartbeats 4000000 in
theorem rname_any (s : ByteArray) (b i : Nat) (w : World) (h : RSc w s b i) :
    Calls Tryz.prog 68 #[.pointer (some ⟨b, 0, none⟩)] w (RNPost (nameC [] 0 (s.data.toList.drop i)) w) := by
  have hz := h.sz
  have hi := h.le
  have hne := World.block_lt_of_cell? w _ h.txt
  have hne1 : ¬ w.heap.size = b := fun e => by simp only [] at hne; omega
  have hne2 : ¬ b = w.heap.size := fun e => by simp only [] at hne; omega
  have hne3 : ¬ w.heap.size + 1 = b := fun e => by simp only [] at hne; omega
  have hne4 : ¬ b = w.heap.size + 1 := fun e => by simp only [] at hne; omega
  clear hne
  obtain ⟨u0, hu, hu0, hu1, hu2⟩ := info_parts Tryz.infoStr
  obtain ⟨L, hL⟩ : ∃ L, s.data.toList.drop i = L := ⟨_, rfl⟩
  have hLl : i + L.length = s.size := by rw [← hL, List.length_drop, ← Lib.size_eq]; omega
  have HL := Lib.hid hL
  rw [hL]
  clear hL
  obtain ⟨r, hr⟩ : ∃ r, nameC [] 0 L = r := ⟨_, rfl⟩
  rw [hr]
  have HSC := Lib.hid h; clear h
  have HR0 := Lib.hid hr; clear hr
  go_enter Tryz.func68, Tryz.ntmps68
  go_wp2_with fail
  have HST : RowKit.Hid (NSt L r w ((w.alloc (.cells #[.int .i64 0, .string ⟨#[]⟩, .slice none 0 0, .int .i64 0, .int .i64 0] 34)).alloc (.cells #[.int .i64 2, .string ⟨#[]⟩, .slice none 0 0, .int .i64 0, .int .i64 0] 34)) [] 0 none 0) := by
    refine ⟨World.ownsRow_nil _ _ _ _, ?_, ?_, ?_, by omega, Nat.le_refl _, HR0.out.symm⟩
    · have hn : ∀ (W : World) (k : Nat), k = W.heap.size → TkB k (W.alloc (.cells #[.int .i64 2, .string ⟨#[]⟩, .slice none 0 0, .int .i64 0, .int .i64 0] 34)) (.slice none ([] : List Bytes).length 0) := by
        rintro W k rfl
        exact ⟨by rw [World.cell?_alloc_new]; rfl, by rw [World.cell?_alloc_new]; rfl, by rw [World.cell?_alloc_new]; rfl, by rw [World.cell?_alloc_new]; rfl, by rw [World.cell?_alloc_new]; rfl, fun j => by simp, by simp⟩
      exact hn _ _ (by simp)
    · exact (ResB.new w).keep ((Below.refl _ _).alloc (by simp) _)
    · exact ((Below.refl _ w).alloc (Nat.le_refl _) _).alloc (by simp) _
  clear HR0
  go_loopw [6] (fun v6 wr => ∃ path n a cap, v6 = .int .i64 (n : Nat) ∧ NSt L r w wr path n a cap) (fun v6 _ => L.length + 1 - (intOf v6).toNat)
  case atStart => exact ⟨[], 0, none, 0, rfl, HST.out⟩
  case round =>
    clear HST
    obtain ⟨path, n, a, cap, rfl, hst⟩ := hrel
    have hle := hst.le
    have hple := hst.ple
    have HS := Lib.hid hst; clear hst
    have HC : RowKit.Hid (RCalls L b wr) := by
      have := (HSC.out.later HS.out.below).calls
      rw [HL.out] at this; exact this
    have hs := cell_later HS.out.below HSC.out.txt
    have ha := cell_later HS.out.below HSC.out.pos
    obtain ⟨l, hl⟩ : ∃ l, L.drop n = l := ⟨_, rfl⟩
    have hll : l.length = L.length - n := by rw [← hl, List.length_drop]
    have HEQ := Lib.hid (HS.out.eq.trans (congrArg (nameC path n) hl))
    have HNE := Lib.hid (nameC_eq path n l)
    obtain ⟨x, hx⟩ : ∃ x, atB l 0 = x := ⟨_, rfl⟩
    have hxn : atB L n = x := by rw [← hx, ← hl, atB_add, Nat.add_zero]
    obtain ⟨k1, hk1⟩ : ∃ k, cntB wordB l = k := ⟨_, rfl⟩
    have hk1l : k1 ≤ l.length := by rw [← hk1]; exact cntB_le _ _
    obtain ⟨k2, hk2⟩ : ∃ k, cntB signB l = k := ⟨_, rfl⟩
    have hk2l : k2 ≤ l.length := by rw [← hk2]; exact cntB_le _ _
    have HW : RowKit.Hid (nWd l = (decide (0 < k1) && letterB x)) := by show _ = _; unfold nWd; rw [hk1, hx]
    have HK : RowKit.Hid (nK l = if nWd l then k1 else k2) := by show _ = _; unfold nK; rw [hk1, hk2]
    have HR1 := Lib.hid (fun v m hv => HC.out.run1 v n m hv (by have := HC.out.len; omega))
    rw [hl, hk1] at HR1
    have HR2 := Lib.hid (fun v m hv => HC.out.run2 v n m hv (by have := HC.out.len; omega))
    rw [hl, hk2] at HR2
    have HA1 := Lib.hid (fun v m hv => HC.out.at' v n m hv (by have := HC.out.len; omega))
    rw [hxn] at HA1
    have HX := Lib.hid hx
    clear hk1 hk2 hxn hx
    go_wp2_with fail
    refine (HR1.out _ 0 rfl).mono ?_
    rintro e w' ⟨rfl, m1, rfl⟩
    obtain ⟨Wd, hWd⟩ : ∃ W, nWd l = W := ⟨_, rfl⟩
    rw [hWd] at HW HK
    have HWd := Lib.hid hWd; clear hWd
    go_upto_region 4 with fail
    go_cut [8] (fun v wc => v = .bool Wd ∧ ∃ m, wc = wr.drewN m)
    case first =>
      by_cases hk0 : 0 < k1
      · have hI : (0 : Int) < (k1 : Int) := by omega
        have hW2 : Wd = letterB x := by rw [HW.out]; simp [hk0]
        have HW2 := Lib.hid hW2; clear hW2
        go_wp2_with fail
        refine (HA1.out _ _ rfl).mono ?_
        rintro e w' ⟨rfl, m2, rfl⟩
        go_wp2_with fail
        refine (rLetter_any _ _).mono ?_
        rintro e w' ⟨rfl, rfl⟩
        go_wp2_with fail
        go_meet
        exact ⟨by rw [HW2.out]; rfl, _, rfl⟩
      · have hI : decide ((0 : Int) < (k1 : Int)) = false := by simp; omega
        have hW2 : Wd = false := by rw [HW.out]; simp [hk0]
        have HW2 := Lib.hid hW2; clear hW2
        go_wp2_with fail
        go_meet
        exact ⟨by rw [HW2.out], _, rfl⟩
    case rest =>
      obtain ⟨rfl, m2, rfl⟩ := hcut
      obtain ⟨k, hk⟩ : ∃ k, nK l = k := ⟨_, rfl⟩
      rw [hk] at HK HNE
      clear hk
      have hkl : k ≤ l.length := by have := HK.out; cases Wd <;> simp at this <;> omega
      go_upto_if 23 with fail
      go_cut [7] (fun v wc => v = .int .i64 (k : Nat) ∧ ∃ m, wc = wr.drewN m)
      case first =>
        cases Wd
        · have hke : k = k2 := HK.out
          subst hke
          go_wp2_with fail
          refine (HR2.out _ _ rfl).mono ?_
          rintro e w' ⟨rfl, m3, rfl⟩
          go_wp2_with fail
          go_meet
          exact ⟨rfl, _, rfl⟩
        · have hke : k = k1 := HK.out
          subst hke
          go_wp2_with fail
          go_meet
          exact ⟨rfl, _, rfl⟩
      case rest =>
        obtain ⟨rfl, m3, rfl⟩ := hcut
        clear HK HW HR1 HR2
        rw [HX.out, HWd.out] at HNE
        have e1 : IntKind.i64.wrap ((i : Int) + n) = (i : Int) + n := IntWalk.i64_in _ (by omega)
        have e2 : IntKind.i64.wrap ((i : Int) + n + k) = (i : Int) + n + k := IntWalk.i64_in _ (by omega)
        have e3 : (0 : Int) ≤ (i : Int) + n := by omega
        have e4 : (i : Int) + n ≤ (i : Int) + n + k := by omega
        have e5 : (i : Int) + n + k ≤ (s.size : Int) := by omega
        have e6 : ((i : Int) + n).toNat = i + n := by omega
        have e7 : ((i : Int) + n + k).toNat = i + n + k := by omega
        go_wp2_with fail
        go_quiet (fail)
        clear e1 e2 e3 e4 e5 e6 e7
        have hext : (s.extract (i + n) (i + n + k)).data.toList = l.take k := by
          rw [ext_take s (i + n) (i + n + k) k rfl, ← hl, ← HL.out, List.drop_drop]
        have HEX := Lib.hid hext; clear hext
        obtain ⟨Rb, hRb⟩ : ∃ R, resB (l.take k) = R := ⟨_, rfl⟩
        obtain ⟨D, hD⟩ : ∃ D, digitI (x.toNat : Int) = D := ⟨_, rfl⟩
        rw [hRb, show digitB x = D from hD] at HNE
        obtain ⟨⟨rc0, rc1, rc2, rc3, rc4⟩, rfz⟩ := HS.out.res.cells
        obtain ⟨t0, t1, t2, t3, t4, tf, tlt⟩ := HS.out.tok
        by_cases hk0 : k = 0
        · have HE := Lib.hid (show r = none by rw [HEQ.out, HNE.out, if_pos (by simp [hk0])])
          have bk : ((k : Int) == 0) = true := by rw [beq_iff_eq]; omega
          clear hk0
          go_wp2_with fail
          refine bodyPost_ret (by simp [results, Tryz.results68, go_sem, rc0, rc1, rc2, rc3, rc4]; exact rfl) rfl ?_
          exact rn_bad HE.out (below_set5 (below_drewN HS.out.below _) _ _ _ _ _) _ _ _ _
        · have bk : ((k : Int) == 0) = false := by rw [beq_eq_false_iff_ne]; omega
          go_wp2_with fail
          refine (HA1.out _ _ rfl).mono ?_
          rintro e w' ⟨rfl, m4, rfl⟩
          go_wp2_with fail
          refine (rDigit_any _ _).mono ?_
          rintro e w' ⟨rfl, rfl⟩
          rw [hD]
          clear hD
          cases D
          · go_wp2_with fail
            refine (rReserved_any _ _).mono ?_
            rintro e w2 ⟨rfl, hb2⟩
            rw [HEX.out, hRb]
            have HB4 := Lib.hid ((below_drewN (Below.refl wr.heap.size wr) m4).trans hb2)
            have HB2 := Lib.hid (HS.out.below.trans (HB4.out.mono HS.out.below.size))
            have htk2 := HS.out.tok.later HB4.out
            have hres2 := HS.out.res.keep (HB4.out.mono (Nat.le_of_lt tlt))
            have HO2 := Lib.hid (owns_below HS.out.own HB4.out)
            clear hb2 t0 t1 t2 t3 t4 tf rc0 rc1 rc2 rc3 rc4 rfz
            obtain ⟨⟨rc0, rc1, rc2, rc3, rc4⟩, rfz⟩ := hres2.cells
            obtain ⟨t0, t1, t2, t3, t4, tf, tlt2⟩ := htk2
            have hresH := Lib.hid hres2
            clear hres2
            cases Rb
            · have HR := Lib.hid (show r = if !Wd || atB l k != 46 then some (l.take k, path, n + k) else nameC (path ++ [l.take k]) (n + k + 1) (l.drop (k + 1)) by
                rw [HEQ.out, HNE.out, if_neg (by simp [hk0])])
              have HC2 : RowKit.Hid (RCalls L b w2) := by
                have := (HSC.out.later HB2.out).calls
                rw [HL.out] at this; exact this
              obtain ⟨y, hy⟩ : ∃ y, atB l k = y := ⟨_, rfl⟩
              have hyn : atB L (n + k) = y := by rw [← hy, ← hl, atB_add]
              have HA2 := Lib.hid (fun v m hv => HC2.out.at' v (n + k) m hv (by have := HC2.out.len; omega))
              rw [hyn] at HA2
              rw [hy] at HR
              have HY := Lib.hid hy
              clear hyn hy
              have hlen := HC2.out.len
              cases Wd
              · have HE := Lib.hid (show r = some (l.take k, path, n + k) by rw [HR.out]; simp)
                go_wp2_with fail
                refine bodyPost_ret (by simp [results, Tryz.results68, go_sem, rc0, rc1, rc2, rc3, rc4]; exact rfl) rfl ?_
                exact rn_good HE.out HEX.out (by omega) HO2.out HB2.out _ _ _ _ _ _
              · go_wp2_with fail
                refine (HA2.out _ 0 (by omega)).mono ?_
                rintro e w' ⟨rfl, m5, rfl⟩
                have HO3 := Lib.hid (owns_keep' (w' := w2.drewN m5) HO2.out fun _ _ => rfl)
                have HB3 := Lib.hid (below_drewN HB2.out m5)
                by_cases hy46 : y.toNat = 46
                · have b46 : ((y.toNat : Int) != 46) = false := by rw [bne_eq_false_iff_eq]; omega
                  have HE := Lib.hid (show r = nameC (path ++ [l.take k]) (n + k + 1) (l.drop (k + 1)) by
                    rw [HR.out, u8_of hy46]; simp)
                  have hklt : k < l.length := atB_len HY.out (by rintro rfl; simp at hy46)
                  clear hy46
                  go_wp2_with (first | (at_builtin; refine wpList_append_own _ rfl _ _ 32 rfl (w.heap.size + 1 + 1) 9 u0 (.string ⟨#[]⟩) 1 16 Tryz.underlying32 hu hu0 hu1 hu2 rfl (by decide) _ _ _ rfl (HO3.out.alloc _) ⟨w2.heap.size, 0, none⟩ 1 1 [.string (s.extract (i + n) (i + n + k))] rfl rfl (cell_one_new _ _ _) (one_str _) ?c3 ?c4 ?c5 ?_))
                  case c3 => unfold maxLen; omega
                  case c4 => omega
                  case c5 => simp; omega
                  intro v' w1 hown1 hgr _
                  have hown2 := own_snoc hown1
                  rw [HEX.out] at hown2
                  have hp3 : w.heap.size + 1 + 1 ≤ (w2.drewN m5).heap.size := tlt2
                  have HB5 := Lib.hid (below_pushB HB3.out HO3.out (by omega) (by omega) hgr)
                  have hb6 := below_pushB (Below.refl (w.heap.size + 1 + 1) (w2.drewN m5)) HO3.out (Nat.le_refl _) hp3 hgr
                  have htk5 := (TkB.mk t0 t1 t2 t3 t4 tf tlt2 : TkB (w.heap.size + 1) (w2.drewN m5) _).keepB hb6
                  have hres5 : ResB w.heap.size w1 := ((hresH.out).drew m5).keep (hb6.mono (by omega))
                  obtain ⟨a1, c1, rfl, -⟩ := own_shape hown2
                  obtain ⟨P1, hP1⟩ : ∃ P1, path ++ [l.take k] = P1 := ⟨_, rfl⟩
                  have HP2 := Lib.hid (show P1.length = path.length + 1 by rw [← hP1]; simp)
                  rw [hP1] at hown2 HE ⊢
                  clear hP1
                  have HO5 := Lib.hid hown2
                  have hstep : NSt L r w (w1.setCell ⟨w.heap.size + 1, 2, none⟩ (.slice a1 P1.length c1)) P1 (n + k + 1) a1 c1 :=
                    ⟨ownsRow_setCell_below HO5.out (Nat.lt_succ_self _) _, htk5.set _, (show (w1.setCell _ _).heap[_]? = _ from (Below.heap_setCell _ _ _ _ (by simp only []; omega)).trans hres5), HB5.out.setCell (Nat.le_succ _) _, by omega, by have := HP2.out; omega,
                      by rw [HE.out, ← hl, List.drop_drop, show n + (k + 1) = n + k + 1 from by omega]⟩
                  have HST := Lib.hid hstep
                  obtain ⟨t0', t1', t2', t3', t4', tf', -⟩ := htk5
                  clear hstep hown1 hown2 hgr hb6 hres5 t0 t1 t2 t3 t4 tf rc0 rc1 rc2 rc3 rc4 rfz
                  go_wp2_with fail
                  go_roundw
                  case rel => exact ⟨P1, n + k + 1, a1, c1, by go_num, HST.out⟩
                  case measure => simp [intOf]; omega
                · have b46 : ((y.toNat : Int) != 46) = true := by rw [bne_iff_ne]; omega
                  have HE := Lib.hid (show r = some (l.take k, path, n + k) by
                    rw [HR.out, show (y != 46) = true from by rw [bne_iff_ne]; rintro rfl; exact hy46 rfl]; simp)
                  go_wp2_with fail
                  refine bodyPost_ret (by simp [results, Tryz.results68, go_sem, rc0, rc1, rc2, rc3, rc4]; exact rfl) rfl ?_
                  exact rn_good HE.out HEX.out (by omega) HO3.out HB3.out _ _ _ _ _ _
            · have HE := Lib.hid (show r = none by rw [HEQ.out, HNE.out, if_pos (by simp)])
              go_wp2_with fail
              refine bodyPost_ret (by simp [results, Tryz.results68, go_sem, rc0, rc1, rc2, rc3, rc4]; exact rfl) rfl ?_
              exact rn_bad HE.out (below_set5 (HB2.out) _ _ _ _ _) _ _ _ _
          · have HE := Lib.hid (show r = none by rw [HEQ.out, HNE.out, if_pos (by simp)])
            go_wp2_with fail
            refine bodyPost_ret (by simp [results, Tryz.results68, go_sem, rc0, rc1, rc2, rc3, rc4]; exact rfl) rfl ?_
            exact rn_bad HE.out (below_set5 (below_drewN HS.out.below _) _ _ _ _ _) _ _ _ _

end Go.Proofs.YtcogfalhodjmfaaGreatDoor
