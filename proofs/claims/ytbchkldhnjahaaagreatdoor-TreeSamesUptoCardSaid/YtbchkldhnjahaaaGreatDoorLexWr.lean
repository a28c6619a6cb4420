/- The call of Write: what it returns. Conditions: those of each theorem. -/
import Derived.Test.YtbchkldhnjahaaaGreatDoorLexBd
import Derived.Test.YtbchkldhnjahaaaGreatDoorLexSc2
import Derived.Deep.CutBlock
namespace Go.Proofs.YtbchkldhnjahaaaGreatDoor
open Go.RowKit Kiln
open Go.Proofs

/-- the strings of a path as the library's contracts name them -/
def baL (pa : List Bytes) : List ByteArray := pa.map fun l => ⟨l.toArray⟩
theorem baL_len (pa : List Bytes) : (baL pa).length = pa.length := by simp [baL]
theorem baL_get (pa : List Bytes) (j : Nat) : (baL pa)[j]? = pa[j]?.map fun l => (⟨l.toArray⟩ : ByteArray) := by simp [baL]
theorem baL_back (pa : List Bytes) : (baL pa).map (fun s => s.data.toList) = pa := by
  unfold baL; rw [List.map_map]; exact (List.map_congr_left (fun l _ => by simp)).trans (List.map_id pa)
theorem baL_str (pa : List Bytes) : (baL pa).map Value.string = pa.map str := by unfold baL; rw [List.map_map]; rfl

theorem strs_cells {w : World} {v : Value} {pa : List Bytes} (h : Strs w v pa) (hne : pa ≠ []) : ∃ b off cap, v = .slice (some ⟨b, off, none⟩) pa.length cap ∧ pa.length ≤ cap ∧ b < w.heap.size ∧
    (∀ (j : Nat) x, (baL pa)[j]? = some x → w.cell? ⟨b, off + j, none⟩ = some (.string x)) ∧
    ∀ j, j < (baL pa).length → w.cell? ⟨b, off + j, none⟩ = some (.string ((baL pa).getD j ByteArray.empty)) := by
  obtain ⟨a, cap, rfl, hc, hl⟩ := h
  obtain ⟨b, off, rfl, hx⟩ := hl hne
  have h1 : ∀ (j : Nat) x, (baL pa)[j]? = some x → w.cell? ⟨b, off + j, none⟩ = some (.string x) := by
    intro j x hj
    rw [baL_get, Option.map_eq_some_iff] at hj
    obtain ⟨y, hy, rfl⟩ := hj
    exact hx j y hy
  refine ⟨b, off, cap, rfl, hc, ?_, h1, fun j hj => ?_⟩
  · cases pa with
    | nil => exact absurd rfl hne
    | cons x l => exact World.block_lt_of_cell? w _ (hx 0 x rfl)
  · refine h1 j _ ?_
    rw [List.getD_eq_getElem?_getD, List.getElem?_eq_getElem hj]; rfl

theorem clone_any (v : Value) (pa : List Bytes) (w : World) (h : Strs w v pa) (hb : pa.length * 16 ≤ 140737488355328) :
    Calls Tryz.prog 54 #[v] w fun e w' => ∃ v', e = .returned v' ∧ OwnP w.heap.size w' v' pa ∧ Below w.heap.size w w' := by
  by_cases hne : pa = []
  · subst hne
    obtain ⟨a, cap, rfl, _, _⟩ := h
    cases a with
    | none =>
      refine (Tryz.slices_Clone_string_nil 0 cap w).mono ?_
      rintro e w' ⟨rfl, rfl⟩
      exact ⟨_, rfl, World.ownsRow_nil _ _ _ _, Below.refl _ _⟩
    | some a =>
      refine (Tryz.slices_Clone_string_zero a cap w).mono ?_
      rintro e w' ⟨v', rfl, hown, _, hbe⟩
      exact ⟨v', rfl, hown, hbe⟩
  · obtain ⟨b, off, cap, rfl, hc, _, _, hcells⟩ := strs_cells h hne
    refine (Tryz.slices_Clone_string b off pa.length cap (baL pa) w (by rw [baL_len]; exact Nat.le_refl _) hb hcells).mono ?_
    rintro e w' ⟨v', rfl, hown, _, hbe⟩
    refine ⟨v', rfl, ?_, hbe⟩
    rw [List.take_of_length_le (by rw [baL_len]; exact Nat.le_refl _), baL_str] at hown
    exact hown

theorem baL_inj {p q : List Bytes} : baL p = baL q ↔ p = q :=
  ⟨fun h => by rw [← baL_back p, ← baL_back q, h], fun h => by rw [h]⟩

theorem equal_any (v1 v2 : Value) (p1 p2 : List Bytes) (w : World) (h1 : Strs w v1 p1) (h2 : Strs w v2 p2) (hb2 : p2.length ≤ 9223372036854775807) :
    Calls Tryz.prog 55 #[v1, v2] w fun e w' => e = .returned (.bool (p1 == p2)) ∧ ∃ q, w' = w.drewN q := by
  by_cases hl : p1.length = p2.length
  · by_cases hne : p1 = []
    · subst hne
      have h2e : p2 = [] := List.eq_nil_of_length_eq_zero hl.symm
      subst h2e
      obtain ⟨a, cap, rfl, _, _⟩ := h1
      obtain ⟨a', cap', rfl, _, _⟩ := h2
      refine (Tryz.slices_Equal_string_empty a a' cap 0 cap' w (by omega)).mono ?_
      rintro e w' ⟨rfl, rfl⟩
      exact ⟨rfl, 0, rfl⟩
    · have hne2 : p2 ≠ [] := by rintro rfl; exact hne (List.eq_nil_of_length_eq_zero hl)
      obtain ⟨b, off, cap, rfl, hc, _, _, hcells⟩ := strs_cells h1 hne
      obtain ⟨b', off', cap', rfl, hc', _, _, hcells'⟩ := strs_cells h2 hne2
      refine (Tryz.slices_Equal_string b off p1.length cap b' off' p2.length cap' (baL p1) (baL p2) w (by rw [baL_len]; exact Nat.le_refl _) (by rw [baL_len]; exact Nat.le_refl _) (hl ▸ hb2) hb2 hcells hcells').mono ?_
      rintro e w' ⟨rfl, q, rfl⟩
      refine ⟨?_, q, rfl⟩
      rw [List.take_of_length_le (by rw [baL_len]; exact Nat.le_refl _), List.take_of_length_le (by rw [baL_len]; exact Nat.le_refl _)]
      refine ret_bool ?_
      rw [Bool.eq_iff_iff, decide_eq_true_eq, beq_iff_eq]
      exact baL_inj
  · obtain ⟨a, cap, rfl, _, _⟩ := h1
    obtain ⟨a', cap', rfl, _, _⟩ := h2
    refine (Tryz.slices_Equal_string_lens a a' p1.length cap p2.length cap' w hl).mono ?_
    rintro e w' ⟨rfl, rfl⟩
    refine ⟨ret_bool ?_, 0, rfl⟩
    symm
    rw [beq_eq_false_iff_ne]
    exact fun e => hl (by rw [e])

theorem joinS_any (v : Value) (pa : List Bytes) (w : World) (h : Strs w v pa) (hne : pa ≠ []) (hN : pa.length ≤ 140737488355328) (hlen : (Lib.join pa [46]).length ≤ 140737488355328) :
    Calls Tryz.prog 53 #[v, .string ⟨#[46]⟩] w fun e w' => e = .returned (str (Lib.join pa [46])) ∧ Below w.heap.size w w' := by
  obtain ⟨b, off, cap, rfl, hc, hbk, hcells, _⟩ := strs_cells h hne
  have := Tryz.strings_Join b off cap (baL pa) ⟨#[46]⟩ w hcells hbk (by rw [baL_len]; exact hN) (by rw [baL_len]; exact hc) (by rw [baL_back]; exact hlen)
  rw [baL_back, baL_len] at this
  exact this

/-- a token as a value -/
abbrev tokV (k : Int) (t : Bytes) (pv : Value) (ln col : Int) : Value := .agg #[.int .i64 k, str t, pv, .int .i64 ln, .int .i64 col]

def WrPost (r : Except Nat Bytes) (w : World) (e : Ending) (w' : World) : Prop :=
  Below w.heap.size w w' ∧ match r with
  | .ok s => e = .returned (.tuple #[str s, .int .i64 0])
  | .error c => e = .returned (.tuple #[.string ⟨#[]⟩, .int .i64 c])

theorem scanG_err {rd : Bytes → Rd} {cm : Bytes → Option Nat} (hr : ∀ l c, rd l = .error c → c ≠ 0) : ∀ (f : Nat) (l : Bytes) (p : Nat × Nat) (acc : List Tok) {c x y : Nat}, scanG rd cm f l p acc = .error (c, x, y) → c ≠ 0
  | 0, _, _, _, _, _, _, h => by simp [scanG] at h
  | _ + 1, [], _, _, _, _, _, h => by simp [scanG] at h
  | f + 1, b :: l, p, acc, c, x, y, h => by
    simp only [scanG] at h
    split at h
    · exact scanG_err hr f _ _ _ h
    · split at h
      · split at h
        · simp only [Except.error.injEq, Prod.mk.injEq] at h; omega
        · exact scanG_err hr f _ _ _ h
      · split at h
        · rename_i e he
          simp only [Except.error.injEq, Prod.mk.injEq] at h
          rw [← h.1]; exact hr _ _ he
        · exact scanG_err hr f _ _ _ h

theorem scanP_err {l : Bytes} {c x y : Nat} (h : scanP l = .error (c, x, y)) : c ≠ 0 := by
  unfold scanP at h
  split at h
  · simp only [Except.error.injEq, Prod.mk.injEq] at h; omega
  · exact scanG_err (fun _ _ => readP_err) _ _ _ _ h

theorem sc_err {r : Scanned} {w w' : World} {e : Ending} {c ln col : Nat} (h : ScPost r w e w') (hr : r = .error (c, ln, col)) : e = .returned (.tuple #[.slice none 0 0, .int .i64 ln, .int .i64 col, .int .i64 c]) := by
  subst hr; exact h.2
theorem sc_ok {r : Scanned} {w w' : World} {e : Ending} {l : List Tok} (h : ScPost r w e w') (hr : r = .ok l) : ∃ v xs, e = .returned (.tuple #[v, .int .i64 0, .int .i64 0, .int .i64 0]) ∧ w'.ownsRow (w.heap.size + 6) 32 5 v l.length xs ∧ Toks v.ownBlock (w.heap.size + 6) w' l xs := by
  subst hr; exact h.2

theorem wr_bad {R : Except Nat Bytes} {w w' : World} {c : Nat} {v : Int} (h : R = .error c) (hv : v = c) (hb : Below w.heap.size w w') : WrPost R w (.returned (.tuple #[.string ⟨#[]⟩, .int .i64 v])) w' := by
  subst h; subst hv; exact ⟨hb, rfl⟩
theorem wr_good {R : Except Nat Bytes} {w w' : World} {s : Bytes} (h : R = .ok s) (hb : Below w.heap.size w w') : WrPost R w (.returned (.tuple #[str s, .int .i64 0])) w' := by
  subst h; exact ⟨hb, rfl⟩

theorem quietE {P : Program} {f : FuncId} {args : Array Value} {w : World} {n : Nat} {v : Value}
    (h : Calls P f args (w.drewN n) fun e x => e = .returned v ∧ ∃ q, x = (w.drewN n).drewN q) : Calls P f args (w.drewN n) fun e x => e = .returned v ∧ ∃ m, x = w.drewN m :=
  h.mono fun _ _ hh => by
    obtain ⟨q, hq⟩ := hh.2
    exact ⟨hh.1, n + q, by rw [hq, World.drewN_drewN]⟩

set_option maxRecDepth 100000 in
set_option maxHeartbeats 4000000 in
theorem write_any (k : Int) (t : Bytes) (pv : Value) (pa : List Bytes) (ln col : Int) (w : World) (hg : Gl w) (hs : Strs w pv pa) (ht : t.length ≤ 17592186044416) (hp : pa.length ≤ 1099511627776) (hj : (Lib.join (pa ++ [t]) [46]).length ≤ 140737488355328) :
    Calls Tryz.prog 28 #[tokV k t pv ln col] w (WrPost (writeP k t pa) w) := by
  obtain ⟨u0, hu, hu0, hu1, hu2⟩ := info_parts Tryz.infoStr
  have HS := Lib.hid hs
  obtain ⟨a, cap, rfl, _, _⟩ := hs
  have HG := Lib.hid hg; clear hg
  obtain ⟨S, hS⟩ : ∃ S, wtext k t pa = S := ⟨_, rfl⟩
  obtain ⟨OK, hOK⟩ : ∃ O, tokIs (scanP S) k t pa = O := ⟨_, rfl⟩
  have HR : RowKit.Hid (writeP k t pa = if OK then .ok S else .error 1) := by
    show _ = _; unfold writeP; rw [hS, hOK]
  generalize writeP k t pa = R at *
  have HSS := Lib.hid hS; clear hS
  have HOK := Lib.hid hOK; clear hOK
  have HBX := Lib.hid ((Below.refl _ w).alloc (Nat.le_refl _) (.cells #[.int .i64 k, str t, .slice a pa.length cap, .int .i64 ln, .int .i64 col] 32))
  go_enter Tryz.func28, Tryz.ntmps28
  go_upto_block 0 with fail
  go_cut [4] (fun v wc => v = str S ∧ Below (w.heap.size + 1) (w.alloc (.cells #[.int .i64 k, str t, .slice a pa.length cap, .int .i64 ln, .int .i64 col] 32)) wc)
  case first =>
    by_cases h6 : k = 6
    · have b6 : (k == 6) = true := by rw [beq_iff_eq]; exact h6
      have HE : RowKit.Hid (S = quoteP t) := by show _ = _; rw [← HSS.out]; unfold wtext; rw [if_pos b6]
      clear h6
      go_wp2_with fail
      refine (quote_any ⟨t.toArray⟩ _ (by simpa [ByteArray.size] using ht)).mono ?_
      rintro e w2 ⟨rfl, hb2⟩
      go_wp2_with fail
      go_meet
      exact ⟨by rw [HE.out], by simpa using hb2⟩
    · have b6 : (k == 6) = false := by rw [beq_eq_false_iff_ne]; exact h6
      by_cases h7 : k = 7
      · have b7 : (k == 7) = true := by rw [beq_iff_eq]; exact h7
        have HE : RowKit.Hid (S = 35 :: quoteP t) := by show _ = _; rw [← HSS.out]; unfold wtext; rw [if_neg (by rw [b6]; exact Bool.false_ne_true), if_pos b7]
        clear h7 h6
        go_wp2_with fail
        obtain ⟨q, hq⟩ : ∃ q : ByteArray, (⟨(quoteP t).toArray⟩ : ByteArray) = q := ⟨_, rfl⟩
        have hqs : q.size ≤ 70368744177666 := by
          rw [← hq, Lib.size_eq]
          have := quote_len t
          show (quoteP t).length ≤ _
          unfold quoteP
          rw [List.length_append, List.length_cons]
          simp only [List.length_cons, List.length_nil]
          omega
        have hql : q.data.toList = quoteP t := by rw [← hq]
        refine (quote_any ⟨t.toArray⟩ _ (by simpa [ByteArray.size] using ht)).mono ?_
        rintro e w2 ⟨rfl, hb2⟩
        rw [show str (quoteP (⟨t.toArray⟩ : ByteArray).data.toList) = .string q by rw [← hq]]
        have HQL := Lib.hid hql
        clear hq hql
        go_wp2_with fail
        go_meet
        refine ⟨?_, by simpa using hb2⟩
        rw [HE.out, ← HQL.out]
        congr 1
      · have b7 : (k == 7) = false := by rw [beq_eq_false_iff_ne]; exact h7
        by_cases h2 : k = 2
        · have b2 : (k == 2) = true := by rw [beq_iff_eq]; exact h2
          have HE : RowKit.Hid (S = Lib.join (pa ++ [t]) [46]) := by show _ = _; rw [← HSS.out]; unfold wtext; rw [if_neg (by rw [b6]; exact Bool.false_ne_true), if_neg (by rw [b7]; exact Bool.false_ne_true), if_pos b2]
          clear h7 h6 h2
          go_wp2_with fail
          refine (clone_any _ pa _ (HS.out.below HBX.out) (by omega)).mono ?_
          rintro e w2 ⟨v2, rfl, hown, hb2⟩
          obtain ⟨a2, cap2, rfl, _⟩ := own_shape hown
          have HO : RowKit.Hid (OwnP (w.heap.size + 1) w2 (.slice a2 pa.length cap2) pa) := by show OwnP _ _ _ _; simpa using hown
          have HB2 := Lib.hid hb2
          have hp3 : w.heap.size + 1 ≤ w2.heap.size := by have := hb2.size; simpa using this
          obtain ⟨P1, hP1⟩ : ∃ P1, pa ++ [t] = P1 := ⟨_, rfl⟩
          rw [hP1] at hj HE
          have HP2 := Lib.hid (show P1.length = pa.length + 1 by rw [← hP1]; simp)
          have HP1 := Lib.hid hP1
          clear hown hb2 hP1
          go_wp2_with (first | (at_builtin; refine wpList_append_own _ rfl _ _ 30 rfl (w.heap.size + 1) 9 u0 (.string ⟨#[]⟩) 1 16 Tryz.underlying30 hu hu0 hu1 hu2 rfl (by decide) _ _ _ rfl (HO.out.alloc _) ⟨w2.heap.size, 0, none⟩ 1 1 [str t] rfl rfl (cell_one_new _ _ _) (one_str _) ?c3 ?c4 ?c5 ?_))
          case c3 => unfold maxLen; omega
          case c4 => omega
          case c5 => simp; omega
          intro v' w1 hown1 hgr _
          have hown2 := own_snoc hown1
          rw [show (⟨t.toArray⟩ : ByteArray).data.toList = t by simp, HP1.out] at hown2
          have hb5 := below_pushB (show Below (w.heap.size + 1) (w.alloc _) w2 by simpa using HB2.out) HO.out (Nat.le_refl _) hp3 hgr
          have HB5 := Lib.hid hb5
          obtain ⟨a3, c3, rfl, _⟩ := own_shape hown2
          have HO2 := Lib.hid hown2
          clear hown1 hown2 hgr hb5
          go_wp2_with fail
          refine (joinS_any _ P1 _ (strs_own HO2.out) (by rw [← HP1.out]; simp) (by have := HP2.out; omega) hj).mono ?_
          rintro e w4 ⟨rfl, hb4⟩
          go_wp2_with fail
          go_meet
          exact ⟨by rw [HE.out], HB5.out.trans (hb4.mono (by have := HB5.out.size; simpa using this))⟩
        · have b2 : (k == 2) = false := by rw [beq_eq_false_iff_ne]; exact h2
          have HE : RowKit.Hid (S = t) := by show _ = _; rw [← HSS.out]; unfold wtext; rw [if_neg (by rw [b6]; exact Bool.false_ne_true), if_neg (by rw [b7]; exact Bool.false_ne_true), if_neg (by rw [b2]; exact Bool.false_ne_true)]
          clear h7 h6 h2
          go_wp2_with fail
          go_meet
          exact ⟨by rw [HE.out], Below.refl _ _⟩
  case rest =>
    obtain ⟨rfl, hbc⟩ := hcut
    have HBC := Lib.hid (HBX.out.trans (hbc.mono (Nat.le_succ _)))
    have hw0 : w.heap.size < wc.heap.size := by have := hbc.size; simp at this; omega
    have hcx : ∀ j, wc.cell? ⟨w.heap.size, j, none⟩ = #[.int .i64 k, str t, .slice a pa.length cap, .int .i64 ln, .int .i64 col][j]? := fun j => by
      rw [hbc.cell (p := ⟨w.heap.size, j, none⟩) (by simp), World.cell?_alloc_new]
    have x0 := hcx 0
    have x1 := hcx 1
    have x2 := hcx 2
    simp only [List.getElem?_toArray, List.getElem?_cons_zero, List.getElem?_cons_succ] at x0 x1 x2
    clear hcx hbc
    have HSC := Lib.hid (scanP_any ⟨S.toArray⟩ wc (HG.out.below HBC.out))
    go_wp2_with fail
    refine HSC.out.mono ?_
    rintro e w2 hpost
    have hb2 := hpost.1
    have HB2 := Lib.hid (HBC.out.trans (hb2.mono HBC.out.size))
    have y0 := (hb2.cell (p := ⟨w.heap.size, 0, none⟩) hw0).trans x0
    have y1 := (hb2.cell (p := ⟨w.heap.size, 1, none⟩) hw0).trans x1
    have y2 := (hb2.cell (p := ⟨w.heap.size, 2, none⟩) hw0).trans x2
    have HBW := Lib.hid hb2
    clear hb2 x0 x1 x2
    cases hr0 : scanP S with
    | error q =>
      obtain ⟨c, ln', col'⟩ := q
      have hc := scanP_err hr0
      have hcn : ((c : Int) != 0) = true := by rw [bne_iff_ne]; omega
      have HE : RowKit.Hid (R = .error 1) := by show _ = _; rw [HR.out, ← HOK.out, hr0]; rfl
      obtain rfl := sc_err hpost hr0
      clear hc hr0 HOK hpost
      go_wp2_with fail
      go_quiet (fail)
      go_wp2_with fail
      go_ret2
      exact wr_bad HE.out rfl (below_drewN HB2.out _)
    | ok l =>
      obtain ⟨v, xs, rfl, hown, htk⟩ := sc_ok hpost hr0
      rw [hr0] at HOK
      clear hr0 hpost
      go_upto_region 10 with fail
      go_cut [72] (fun v wx => v = .bool (!OK) ∧ Below w.heap.size w wx)
      case first =>
        have hlen0 := hown.1
        by_cases h1 : l.length = 1
        · obtain ⟨u, rfl⟩ : ∃ u, l = [u] := by
            match l, h1 with
            | [u], _ => exact ⟨u, rfl⟩
          clear h1
          obtain ⟨pv, ys, hxs, hst, hys⟩ := htk
          subst hys
          rcases id hown.2 with ⟨_, h0⟩ | ⟨g, cap', cur, rfl, _⟩
          · simp at h0
          obtain ⟨pa', pcap, hpv, _, _⟩ := id hst.1
          subst hpv
          have z0 : w2.cell? ⟨g, 0, none⟩ = some (.int .i64 u.kind) := hown.cells (g := g) rfl 0 _ (by rw [hxs]; rfl)
          have z1 : w2.cell? ⟨g, 1, none⟩ = some (str u.text) := hown.cells (g := g) rfl 1 _ (by rw [hxs]; rfl)
          have z2 : w2.cell? ⟨g, 2, none⟩ = some (.slice pa' u.path.length pcap) := hown.cells (g := g) rfl 2 _ (by rw [hxs]; rfl)
          have HST := Lib.hid hst.1
          have HSP := Lib.hid (HS.out.below HB2.out)
          clear hown hxs hst hlen0
          have HOK2 : RowKit.Hid ((u.kind == k && u.text == t && u.path == pa) = OK) := HOK.out
          clear HOK
          by_cases hk : u.kind = k
          · have b2 : (u.kind != k) = false := by rw [bne_eq_false_iff_eq]; exact hk
            have k2 : (u.kind == k) = true := by rw [beq_iff_eq]; exact hk
            by_cases ht2 : u.text = t
            · have k3 : (u.text == t) = true := by rw [beq_iff_eq]; exact ht2
              obtain ⟨PE, hPE⟩ : ∃ PE, (u.path == pa) = PE := ⟨_, rfl⟩
              have HE : RowKit.Hid (OK = PE) := by show _ = _; rw [← HOK2.out, k2, k3, hPE]; rfl
              have HEQ := Lib.hid (fun n => quietE (equal_any _ _ _ _ (w2.drewN n) (HST.out.below (below_drewN (Below.refl _ _) n)) (HSP.out.below (below_drewN (Below.refl _ _) n)) (by omega)))
              rw [hPE] at HEQ
              clear hPE k2 k3 hk HOK2
              go_quiet ((go_at_call 55; exact HEQ.out _))
              go_wp2_with fail
              go_meet
              exact ⟨by rw [HE.out], below_drewN HB2.out _⟩
            · have HE : RowKit.Hid (OK = false) := by
                show _ = _
                rw [← HOK2.out, show (u.text == t) = false by rw [beq_eq_false_iff_ne]; exact ht2]; simp
              go_quiet (fail)
              go_wp2_with fail
              go_meet
              exact ⟨by rw [HE.out]; first | rfl | simp [ht2], below_drewN HB2.out _⟩
          · have b2 : (u.kind != k) = true := by rw [bne_iff_ne]; exact hk
            have HE : RowKit.Hid (OK = false) := by
              show _ = _
              rw [← HOK2.out, show (u.kind == k) = false by rw [beq_eq_false_iff_ne]; exact hk]; rfl
            clear hk
            go_quiet (fail)
            go_wp2_with fail
            go_meet
            exact ⟨by rw [HE.out]; rfl, below_drewN HB2.out _⟩
        · have b1 : ((l.length : Int) != 1) = true := by rw [bne_iff_ne]; omega
          have HE : RowKit.Hid (OK = false) := by
            show _ = _
            rw [← HOK.out]
            match l, h1 with
            | [], _ => rfl
            | _ :: _ :: _, _ => rfl
          clear h1
          obtain ⟨a', cap', rfl⟩ : ∃ a' cap', v = .slice a' l.length cap' := by
            rcases hown.2 with ⟨rfl, h0⟩ | ⟨g, cap', cur, rfl, _⟩
            · exact ⟨none, 0, by rw [h0]⟩
            · exact ⟨_, cap', rfl⟩
          clear hown htk hlen0
          go_quiet (fail)
          go_wp2_with fail
          go_meet
          exact ⟨by rw [HE.out]; rfl, below_drewN HB2.out _⟩
      case rest =>
        obtain ⟨rfl, hbx⟩ := hcut
        have HBXX := Lib.hid hbx; clear hbx
        cases OK
        · have HE : RowKit.Hid (R = .error 1) := HR.out
          go_wp2_with fail
          go_ret2
          exact wr_bad HE.out rfl HBXX.out
        · have HE : RowKit.Hid (R = .ok S) := HR.out
          go_wp2_with fail
          go_ret2
          exact wr_good HE.out HBXX.out

end Go.Proofs.YtbchkldhnjahaaaGreatDoor
