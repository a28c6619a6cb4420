/- The scanner's word: what the call returns. -/
import Derived.Test.YtbchkldhnjahaaaGreatDoorLexS
import Derived.Lib.SliceRun
namespace Go.Proofs.YtbchkldhnjahaaaGreatDoor
open Go.RowKit Kiln
open Go.Proofs

/- wordP without its fuel -/
theorem atB_len {l : Bytes} {k : Nat} {c : UInt8} (h : atB l k = c) (hc : c ≠ 0) : k < l.length := by
  refine Classical.byContradiction fun hk => hc ?_
  rw [← h, atB, List.getD_eq_getElem?_getD, List.getElem?_eq_none (by omega)]; rfl

theorem wordP_fuel : ∀ (f g : Nat) (path : List Bytes) (n : Nat) (l : Bytes), l.length < f → l.length < g → wordP f path n l = wordP g path n l
  | 0, _, _, _, _, h, _ => by omega
  | _, 0, _, _, _, _, h => by omega
  | f + 1, g + 1, path, n, l, hf, hg => by
    simp only [wordP]
    by_cases h46 : (atB l (cntB wordB l) == 46) = true
    · have hlt := atB_len (by simpa using h46) (by decide)
      have h1 := wordP_fuel f g (path ++ [l.take (cntB wordB l)]) (n + cntB wordB l + 1) (l.drop (cntB wordB l + 1)) (by rw [List.length_drop]; omega) (by rw [List.length_drop]; omega)
      rw [h1]
    · simp only [h46]; rfl

def wordC (path : List Bytes) (n : Nat) (l : Bytes) : Rd := wordP (l.length + 1) path n l

theorem wordC_res {path : List Bytes} {n : Nat} {l : Bytes} (h : resB (l.take (cntB wordB l)) = true) : wordC path n l = if path = [] then .ok (1, l.take (cntB wordB l), [], n + cntB wordB l) else .error 44 := by
  unfold wordC; simp only [wordP]; rw [if_pos h]
theorem wordC_end {path : List Bytes} {n : Nat} {l : Bytes} (h : resB (l.take (cntB wordB l)) = false) (h2 : (atB l (cntB wordB l) == 46) = false) : wordC path n l = .ok (2, l.take (cntB wordB l), path, n + cntB wordB l) := by
  unfold wordC; simp only [wordP]; rw [if_neg (by simp [h]), h2]; rfl
theorem wordC_go {path : List Bytes} {n : Nat} {l : Bytes} (h : resB (l.take (cntB wordB l)) = false) (h2 : (atB l (cntB wordB l) == 46) = true) (h3 : letterB (atB (l.drop (cntB wordB l + 1)) 0) = true) :
    wordC path n l = wordC (path ++ [l.take (cntB wordB l)]) (n + cntB wordB l + 1) (l.drop (cntB wordB l + 1)) := by
  have hlt := atB_len (by simpa using h2) (by decide)
  unfold wordC
  rw [wordP]
  simp only []
  rw [if_neg (by simp [h]), if_pos h2, if_pos h3]
  exact wordP_fuel _ _ _ _ _ (by rw [List.length_drop]; omega) (by omega)
theorem wordC_sign {path : List Bytes} {n : Nat} {l : Bytes} (h : resB (l.take (cntB wordB l)) = false) (h2 : (atB l (cntB wordB l) == 46) = true) (h3 : letterB (atB (l.drop (cntB wordB l + 1)) 0) = false) :
    wordC path n l = if cntB signB (l.drop (cntB wordB l + 1)) = 0 || resB ((l.drop (cntB wordB l + 1)).take (cntB signB (l.drop (cntB wordB l + 1)))) then .error 44 else
      .ok (2, (l.drop (cntB wordB l + 1)).take (cntB signB (l.drop (cntB wordB l + 1))), path ++ [l.take (cntB wordB l)], n + cntB wordB l + 1 + cntB signB (l.drop (cntB wordB l + 1))) := by
  unfold wordC
  rw [wordP]
  simp only []
  rw [if_neg (by simp [h]), if_pos h2, if_neg (by simp [h3])]

/- a path that the call itself makes -/
theorem Tryz.infoStr : (Tryz.prog.info? 9).map (fun i => (i.zero, i.size, i.bytes)) = some (some (.string ⟨#[]⟩), 1, 16) := by kernel_rfl

abbrev OwnP (B : Nat) (w : World) (v : Value) (path : List Bytes) : Prop := w.ownsRow B 9 1 v path.length (path.map str)

theorem own_shape {w : World} {B n : Nat} {e : TypeId} {v : Value} {xs : List Value} (h : w.ownsRow B e 1 v n xs) : ∃ a cap, v = .slice a n cap ∧ (n ≠ 0 → a.isNone = false) := by
  rcases h.2 with ⟨rfl, rfl⟩ | ⟨g, cap, cur, rfl, _⟩
  · exact ⟨none, 0, rfl, fun h => absurd rfl h⟩
  · exact ⟨_, cap, rfl, fun _ => rfl⟩

theorem strs_own {w : World} {B : Nat} {a : Option Addr} {cap : Nat} {path : List Bytes} (h : OwnP B w (.slice a path.length cap) path) : Strs w (.slice a path.length cap) path := by
  rcases h.2 with ⟨hv, hn⟩ | ⟨g, cap', cur, hv, _, _, hnc, _⟩
  · obtain rfl := List.eq_nil_of_length_eq_zero hn
    exact ⟨a, cap, rfl, Nat.zero_le _, fun h => absurd rfl h⟩
  · simp only [Value.slice.injEq] at hv
    obtain ⟨rfl, _, rfl⟩ := hv
    refine ⟨_, cap, rfl, hnc, fun _ => ⟨g, 0, rfl, fun i x hi => ?_⟩⟩
    have := h.cells (g := g) rfl i (str x) (by rw [List.getElem?_map, hi]; rfl)
    rw [Nat.zero_add]
    have e : ((⟨g, 0, none⟩ : Addr).add i) = ⟨g, i, none⟩ := by unfold Addr.add; split <;> simp_all
    rw [e] at this; exact this

theorem strsF_own {w : World} {B : Nat} {a : Option Addr} {cap : Nat} {path : List Bytes} (h : OwnP (B + 1) w (.slice a path.length cap) path) : StrsF B w (.slice a path.length cap) path := by
  refine ⟨strs_own h, fun hne => ?_⟩
  rcases h.2 with ⟨_, hn⟩ | ⟨g, cap', cur, hv, hbg, _⟩
  · exact absurd (List.eq_nil_of_length_eq_zero hn) hne
  · simp only [Value.slice.injEq] at hv
    obtain ⟨rfl, _, rfl⟩ := hv
    exact ⟨_, _, _, rfl, by simp only []; omega⟩

theorem own_set5 {w : World} {B : Nat} {v : Value} {path : List Bytes} (h : OwnP (B + 1) w v path) (v0 v1 v2 v3 v4 : Value) :
    OwnP (B + 1) (((((w.setCell ⟨B, 0, none⟩ v0).setCell ⟨B, 1, none⟩ v1).setCell ⟨B, 2, none⟩ v2).setCell ⟨B, 3, none⟩ v3).setCell ⟨B, 4, none⟩ v4) v path :=
  ownsRow_setCell_below (ownsRow_setCell_below (ownsRow_setCell_below (ownsRow_setCell_below (ownsRow_setCell_below h (Nat.lt_succ_self _) _) (Nat.lt_succ_self _) _) (Nat.lt_succ_self _) _) (Nat.lt_succ_self _) _) (Nat.lt_succ_self _) _

theorem own_snoc {w1 : World} {B : Nat} {v : Value} {path : List Bytes} {x : ByteArray} (h : w1.ownsRow B 9 1 v (path.length + 1) (path.map str ++ [.string x])) : OwnP B w1 v (path ++ [x.data.toList]) := by
  unfold OwnP
  rw [List.length_append, List.map_append]
  simp only [List.map_cons, List.map_nil, str, Lib.mk_data]
  exact h
theorem one_str (x : ByteArray) : ∀ u ∈ [Value.string x], u.oneCell' = true := by intro u hu; simp at hu; subst hu; rfl

theorem rd_okW {r : Rd} {i k n : Nat} {t : Bytes} {pa : List Bytes} {w w' : World} {a : Option Addr} {cap : Nat} {kv nv lv : Int} {sv : ByteArray} (h : r = .ok (k, t, pa, n)) (hk : kv = k) (ht : sv.data.toList = t) (hn : nv = (i + n : Nat)) (hl : lv = 0) (hs : StrsF w.heap.size w' (.slice a pa.length cap) pa) (hb : Below w.heap.size w w') :
    RdPost r i w (.returned (.tuple #[.agg #[.int .i64 kv, .string sv, .slice a pa.length cap, .int .i64 lv, .int .i64 lv], .int .i64 nv, .int .i64 0])) w' := by
  subst ht
  have := rd_okS h hk hn hl hs hb
  rw [str, Lib.mk_data] at this
  exact this

theorem below_pushB {w wr w1 : World} {o : Obj} {B base n size : Nat} {e : TypeId} {v : Value} {xs : List Value} (hb : Below B w wr) (ho : wr.ownsRow base e size v n xs) (hB : B ≤ base) (hs : B ≤ wr.heap.size) (hg : (wr.alloc o).grownBy w1 v.ownBlock) : Below B w w1 :=
  (hb.alloc hs o).grown hg (Nat.le_trans hs (by simp)) fun k hk => Nat.le_trans hB ((ho.lt k hk).1)

/-- the loop's state -/
structure WSt (s : ByteArray) (i : Nat) (r : Rd) (w wr : World) (path : List Bytes) (n : Nat) (a : Option Addr) (cap : Nat) : Prop where
  own : OwnP (w.heap.size + 1) wr (.slice a path.length cap) path
  nil : path = [] → a = none
  res : ResB w.heap.size wr
  below : Below w.heap.size w wr
  lt : i + n < s.size
  le : path.length ≤ n
  eq : r = wordC path n (s.data.toList.drop (i + n))

set_option maxRecDepth 100000 in
set_option maxHeartbeats 8000000 in
theorem word_any (s : ByteArray) (b i : Nat) (w : World) (hg : Gl w) (hs : w.cell? ⟨b, 0, none⟩ = some (.string s)) (ha : w.cell? ⟨b, 1, none⟩ = some (.int .i64 i)) (hz : s.size ≤ 1048576) (hi : i < s.size) :
    Calls Tryz.prog 41 #[.pointer (some ⟨b, 0, none⟩)] w (RdPost (wordC [] 0 (s.data.toList.drop i)) i w) := by
  have hs1 := cell_al hs
  have ha1 := cell_al ha
  obtain ⟨u0, hu, hu0, hu1, hu2⟩ := info_parts Tryz.infoStr
  obtain ⟨r, hr⟩ : ∃ r, wordC [] 0 (s.data.toList.drop i) = r := ⟨_, rfl⟩
  rw [hr]
  have hst : WSt s i r w (w.alloc (.cells #[.int .i64 0, .string ⟨#[]⟩, .slice none 0 0, .int .i64 0, .int .i64 0] 32)) [] 0 none 0 :=
    ⟨World.ownsRow_nil _ _ _ _, fun _ => rfl, ResB.new w, ((Below.refl _ w).alloc (Nat.le_refl _) _), by omega, Nat.le_refl _, hr.symm⟩
  have HST := Lib.hid hst; clear hst hr
  have hne := World.block_lt_of_cell? w _ hs
  simp only [] at hne
  have hne1 : ¬ w.heap.size = b := by omega
  have hne2 : ¬ b = w.heap.size := by omega
  have hbl := hne
  clear hne
  have HG := Lib.hid hg; clear hg
  go_enter Tryz.func41, Tryz.ntmps41
  go_wp2_with fail
  go_loopw [5, 6] (fun v5 v6 wr => ∃ path n a cap, v5 = .slice a path.length cap ∧ v6 = .int .i64 (i + n : Nat) ∧ WSt s i r w wr path n a cap) (fun _ v6 _ => s.size - (intOf v6).toNat)
  case atStart => exact ⟨[], 0, none, 0, rfl, rfl, HST.out⟩
  case round =>
    clear HST
    obtain ⟨path, n, a, cap, rfl, rfl, hst⟩ := hrel
    have hbw := hst.below
    have hlt := hst.lt
    have hle := hst.le
    have HS := Lib.hid hst
    have hsr := cell_later hbw hs
    have HB := Lib.hid hbw
    have hsz := hbw.size
    have hwsz : w.heap.size + 1 ≤ wr.heap.size := by
      have := hst.res
      unfold ResB at this
      obtain ⟨h1, _⟩ := Array.getElem?_eq_some_iff.1 this
      omega
    clear hbw
    obtain ⟨mx, hmx⟩ := (HG.out.below HB.out).mx
    obtain ⟨⟨rc0, rc1, rc2, rc3, rc4⟩, rfz⟩ := hst.res.cells
    clear hst
    have hnil : ∀ W, (binOp .eql 30 (.slice a path.length cap) (.slice none 0 0)).run Tryz.prog W = .ok (.bool a.isNone) W := fun W => Lib.run_eql_slice_nil W _ 9 a _ _ _ _ (by kernel_rfl)
    have hk := cntB_le wordB (s.data.toList.drop (i + n))
    rw [List.length_drop, ← Lib.size_eq] at hk
    go_wp2_with fail
    refine (run_any 75 wordB enters_inWord (fun c w => inWord_any _ w) s b (i + n) _ hsr (by unfold maxLen; omega)).mono ?_
    rintro e w' ⟨rfl, rfl⟩
    obtain ⟨k, hK⟩ : ∃ k, cntB wordB (s.data.toList.drop (i + n)) = k := ⟨_, rfl⟩
    rw [hK] at hk ⊢
    have HK := Lib.hid hK; clear hK
    go_wp2_with fail
    refine (reserved_any (s.extract (i + n) (i + n + k)) mx _ hmx (by rw [ByteArray.size_extract]; omega)).mono ?_
    rintro e w' ⟨rfl, rfl⟩
    rw [ext_take _ _ _ k (by omega)]
    cases hrb : resB ((s.data.toList.drop (i + n)).take k)
    · have hrb' : resB ((s.data.toList.drop (i + n)).take (cntB wordB (s.data.toList.drop (i + n)))) = false := by rw [HK.out]; exact hrb
      by_cases hend : i + n + k < s.size
      · obtain ⟨y, hy⟩ : ∃ y : UInt8, s[i + n + k]'hend = y := ⟨_, rfl⟩
        have hat := atB_drop s (i + n) k hend
        rw [hy] at hat
        have hlz : decide ((i : Int) + n + k ≥ (s.size : Int)) = false := by simp; omega
        have hsn : ((i : Int) + n + k).toNat = i + n + k := by omega
        by_cases h46 : y.toNat = 46
        · have b46 : ((y.toNat : Int) != 46) = false := by rw [bne_eq_false_iff_eq]; omega
          have hdot : (atB (s.data.toList.drop (i + n)) (cntB wordB (s.data.toList.drop (i + n))) == 46) = true := by rw [HK.out, hat, u8_of h46]; rfl
          have hwg := wordC_go (path := path) (n := n) hrb' hdot
          have hwd := wordC_sign (path := path) (n := n) hrb' hdot
          rw [HK.out, List.drop_drop, show i + n + (k + 1) = i + n + k + 1 from by omega] at hwg hwd
          clear hat hdot hrb hrb'
          have HWG := Lib.hid hwg; clear hwg
          go_wp2_with (first | (at_builtin; refine wpList_append_own _ rfl _ _ 30 rfl (w.heap.size + 1) 9 u0 (.string ⟨#[]⟩) 1 16 Tryz.underlying30 hu hu0 hu1 hu2 rfl (by decide) _ _ _ rfl (HS.out.own.alloc _) ⟨wr.heap.size, 0, none⟩ 1 1 [.string (s.extract (i + n) (i + n + k))] rfl rfl (cell_one_new _ _ _) (one_str _) ?c3 ?c4 ?c5 ?_))
          case c3 => unfold maxLen; omega
          case c4 => omega
          case c5 => simp; omega
          intro v' w1 hown1 hgr _
          have hown2 := own_snoc hown1
          rw [ext_take _ _ _ k (by omega)] at hown2
          have hpos : w.heap.size + 1 ≤ wr.heap.size := hwsz
          obtain ⟨P1, hP1⟩ : ∃ P1, path ++ [(s.data.toList.drop (i + n)).take k] = P1 := ⟨_, rfl⟩
          rw [hP1] at hown2 hwd HWG
          have HB1 := Lib.hid (below_pushB HB.out HS.out.own (Nat.le_succ _) (Nat.le_of_succ_le hpos) hgr)
          have hres1 : ResB w.heap.size w1 := HS.out.res.keep (below_pushB (Below.refl _ _) HS.out.own (Nat.le_refl _) hpos hgr)
          obtain ⟨⟨rc0, rc1, rc2, rc3, rc4⟩, rfz⟩ := hres1.cells
          have HR1 := Lib.hid hres1
          have hs1 := cell_later HB1.out hs
          obtain ⟨mx, hm1⟩ := (HG.out.below HB1.out).mx
          obtain ⟨a1, c1, rfl, hnn⟩ := own_shape hown2
          have HO1 := Lib.hid hown2
          have hP0 : P1 ≠ [] := by rw [← hP1]; simp
          have HP2 := Lib.hid (show P1.length = path.length + 1 by rw [← hP1]; simp)
          clear hP1
          clear hown1 hown2 hgr hnn hsr hmx
          by_cases hfl : i + n + k + 1 < s.size
          · obtain ⟨z, hz1⟩ : ∃ z : UInt8, s[i + n + k + 1]'hfl = z := ⟨_, rfl⟩
            have hat0 := atB_drop s (i + n + k + 1) 0 hfl
            simp only [Nat.add_zero, hz1] at hat0
            have hlz1 : decide ((i : Int) + n + k + 1 < (s.size : Int)) = true := by simp; omega
            have hsn1 : ((i : Int) + n + k + 1).toNat = i + n + k + 1 := by omega
            obtain ⟨LZ, hlet⟩ : ∃ LZ, letterB (atB (s.data.toList.drop (i + n + k + 1)) 0) = LZ := ⟨_, rfl⟩
            have hlI : letterI (z.toNat : Int) = LZ := by rw [← hlet, hat0]; rfl
            clear hat0
            cases LZ
            · rw [hlet] at hwd
              have HWD := Lib.hid (hwd rfl); clear hwd
              go_wp2_with fail
              refine (letter_any _ _).mono ?_
              rintro e w' ⟨rfl, rfl⟩
              rw [hlI]
              go_wp2_with fail
              refine (run_any 44 signB enters_inSign (fun c w => inSign_any c w) s b (i + n + k + 1) w1 hs1 (by unfold maxLen; omega)).mono ?_
              rintro e w' ⟨rfl, rfl⟩
              obtain ⟨g, hG⟩ : ∃ g, cntB signB (s.data.toList.drop (i + n + k + 1)) = g := ⟨_, rfl⟩
              have hgl := cntB_le signB (s.data.toList.drop (i + n + k + 1))
              rw [List.length_drop, ← Lib.size_eq] at hgl
              rw [hG] at HWD hgl
              rw [hG]
              clear hG
              by_cases hg0 : g = 0
              · subst hg0
                have HE := Lib.hid (HS.out.eq.trans (HWD.out.trans (if_pos (by simp))))
                go_wp2_with fail
                refine bodyPost_ret (by simp [results, Tryz.results41, go_sem, rc0, rc1, rc2, rc3, rc4]; exact rfl) rfl ?_
                exact rd_bad HE.out rfl (below_set5 HB1.out _ _ _ _ _)
              · have bg0 : ((i : Int) + n + k + 1 + g == (i : Int) + n + k + 1) = false := by rw [beq_eq_false_iff_ne]; omega
                go_wp2_with fail
                refine (reserved_any (s.extract (i + n + k + 1) (i + n + k + 1 + g)) mx _ hm1 (by rw [ByteArray.size_extract]; omega)).mono ?_
                rintro e w' ⟨rfl, rfl⟩
                rw [ext_take _ _ _ g (by omega)]
                generalize hrg : resB ((s.data.toList.drop (i + n + k + 1)).take g) = R
                rw [hrg] at HWD
                clear hrg
                cases R
                · have HE : RowKit.Hid (r = .ok (2, (s.data.toList.drop (i + n + k + 1)).take g, P1, n + k + 1 + g)) := HS.out.eq.trans (HWD.out.trans (if_neg (by simp [hg0])))
                  go_wp2_with fail
                  refine bodyPost_ret (by simp [results, Tryz.results41, go_sem, rc0, rc1, rc2, rc3, rc4]; exact rfl) rfl ?_
                  exact rd_okW HE.out rfl (ext_take _ _ _ _ (by omega)) (by omega) rfl (strsF_own (own_set5 HO1.out _ _ _ _ _)) (below_set5 HB1.out _ _ _ _ _)
                · have HE := Lib.hid (HS.out.eq.trans (HWD.out.trans (if_pos (by simp))))
                  go_wp2_with fail
                  refine bodyPost_ret (by simp [results, Tryz.results41, go_sem, rc0, rc1, rc2, rc3, rc4]; exact rfl) rfl ?_
                  exact rd_bad HE.out rfl (below_set5 HB1.out _ _ _ _ _)
            · have HE := Lib.hid (HS.out.eq.trans (HWG.out hlet))
              clear hwd hlet
              go_wp2_with fail
              refine (letter_any _ _).mono ?_
              rintro e w' ⟨rfl, rfl⟩
              rw [hlI]
              go_wp2_with fail
              go_roundw
              case rel => exact ⟨P1, n + k + 1, a1, c1, rfl, by go_num, ⟨HO1.out, fun h => absurd h hP0, HR1.out, HB1.out, by omega, by have := HP2.out; omega, HE.out.trans (by rw [show i + (n + k + 1) = i + n + k + 1 from by omega])⟩⟩
              case measure => simp [intOf]; omega
          · have hlz1 : decide ((i : Int) + n + k + 1 < (s.size : Int)) = false := by simp; omega
            have hlet : letterB (atB (s.data.toList.drop (i + n + k + 1)) 0) = false := by rw [atB_none s (i + n + k + 1) 0 (by omega)]; rfl
            rw [hlet] at hwd
            have HWD := Lib.hid (hwd rfl); clear hwd
            go_wp2_with fail
            refine (run_any 44 signB enters_inSign (fun c w => inSign_any c w) s b (i + n + k + 1) w1 hs1 (by unfold maxLen; omega)).mono ?_
            rintro e w' ⟨rfl, rfl⟩
            obtain ⟨g, hG⟩ : ∃ g, cntB signB (s.data.toList.drop (i + n + k + 1)) = g := ⟨_, rfl⟩
            have hgl := cntB_le signB (s.data.toList.drop (i + n + k + 1))
            rw [List.length_drop, ← Lib.size_eq] at hgl
            rw [hG] at HWD hgl
            rw [hG]
            clear hG
            obtain rfl : g = 0 := by omega
            have HE := Lib.hid (HS.out.eq.trans (HWD.out.trans (if_pos (by simp))))
            go_wp2_with fail
            refine bodyPost_ret (by simp [results, Tryz.results41, go_sem, rc0, rc1, rc2, rc3, rc4]; exact rfl) rfl ?_
            exact rd_bad HE.out rfl (below_set5 HB1.out _ _ _ _ _)
        · have b46 : ((y.toNat : Int) != 46) = true := by rw [bne_iff_ne]; omega
          have hwe := wordC_end (path := path) (n := n) hrb' (by rw [HK.out, hat, beq_eq_false_iff_ne]; rintro rfl; exact h46 rfl)
          rw [HK.out] at hwe
          clear hat hrb'
          have HE := Lib.hid (HS.out.eq.trans hwe)
          clear hwe hrb
          go_wp2_with fail
          refine bodyPost_ret (by simp [results, Tryz.results41, go_sem, rc0, rc1, rc2, rc3, rc4]; exact rfl) rfl ?_
          exact rd_okW HE.out rfl (ext_take _ _ _ _ (by omega)) (by omega) rfl (strsF_own (own_set5 HS.out.own _ _ _ _ _)) (below_set5 HB.out _ _ _ _ _)
      · have hlz : decide ((i : Int) + n + k ≥ (s.size : Int)) = true := by simp; omega
        have hwe := wordC_end (path := path) (n := n) hrb' (by rw [HK.out, atB_none s (i + n) k hend]; rfl)
        rw [HK.out] at hwe
        clear hrb'
        have HE := Lib.hid (HS.out.eq.trans hwe)
        clear hwe hrb
        go_wp2_with fail
        refine bodyPost_ret (by simp [results, Tryz.results41, go_sem, rc0, rc1, rc2, rc3, rc4]; exact rfl) rfl ?_
        exact rd_okW HE.out rfl (ext_take _ _ _ _ (by omega)) (by omega) rfl (strsF_own (own_set5 HS.out.own _ _ _ _ _)) (below_set5 HB.out _ _ _ _ _)
    · have hwr := wordC_res (path := path) (n := n) (show resB ((s.data.toList.drop (i + n)).take (cntB wordB (s.data.toList.drop (i + n)))) = true by rw [HK.out]; exact hrb)
      rw [HK.out] at hwr
      have HWR := Lib.hid (HS.out.eq.trans hwr); clear hwr hrb
      by_cases hp : path = []
      · have hN : a.isNone = true := by rw [HS.out.nil hp]; rfl
        rw [if_pos hp] at HWR
        clear hp
        go_wp2_with fail
        refine bodyPost_ret (by simp [results, Tryz.results41, go_sem, rc0, rc1, rc2, rc3, rc4]; exact rfl) rfl ?_
        exact rd_ok HWR.out rfl (ext_take _ _ _ _ (by omega)) (by omega) (below_set5 HB.out _ _ _ _ _)
      · have hN : a.isNone = false := by
          obtain ⟨a', cap', hv, hh⟩ := own_shape HS.out.own
          simp only [Value.slice.injEq] at hv
          obtain ⟨rfl, _, _⟩ := hv
          exact hh (fun h => hp (List.eq_nil_of_length_eq_zero h))
        rw [if_neg hp] at HWR
        go_wp2_with fail
        refine bodyPost_ret (by simp [results, Tryz.results41, go_sem, rc0, rc1, rc2, rc3, rc4]; exact rfl) rfl ?_
        exact rd_bad HWR.out rfl (below_set5 HB.out _ _ _ _ _)

end Go.Proofs.YtbchkldhnjahaaaGreatDoor
