/- What stands between quotes: the scanner's quoted, text and char. -/
import Derived.Test.YtbchkldhnjahaaaGreatDoorLexEsc
namespace Go.Proofs.YtbchkldhnjahaaaGreatDoor
open Go.RowKit Kiln
open Go.Proofs

/- quotedP without its fuel -/
theorem quotedP_fuel : ∀ (f g : Nat) (l acc : Bytes) (n : Nat), l.length < f → l.length < g → quotedP f l acc n = quotedP g l acc n
  | 0, _, _, _, _, h, _ => by omega
  | _, 0, _, _, _, _, h => by omega
  | f + 1, g + 1, [], _, _, _, _ => rfl
  | f + 1, g + 1, c :: l, acc, n, hf, hg => by
    simp only [List.length_cons] at hf hg
    simp only [quotedP]
    have h1 := quotedP_fuel f g l (acc ++ [c]) (n + 1) (by omega) (by omega)
    have h2 := fun a => quotedP_fuel f g (l.drop (escP l).2) a (n + 1 + (escP l).2) (by rw [List.length_drop]; omega) (by rw [List.length_drop]; omega)
    rw [h1, h2]

def quotedC (l acc : Bytes) (n : Nat) : Option (Bytes × Nat) := quotedP (l.length + 1) l acc n

theorem quotedC_nil (acc : Bytes) (n : Nat) : quotedC [] acc n = none := rfl
theorem quotedC_end {c : UInt8} (l acc : Bytes) (n : Nat) (h : c.toNat = 34) : quotedC (c :: l) acc n = some (acc, n + 1) := by
  rw [u8_of h]; rfl
theorem quotedC_bad {c : UInt8} (l acc : Bytes) (n : Nat) (h : c.toNat < 32 ∨ 126 < c.toNat) : quotedC (c :: l) acc n = none := by
  have h1 : (c == 34) = false := by rw [beq_eq_false_iff_ne]; rintro rfl; revert h; decide
  have h2 : (decide (c.toNat < 32) || decide (126 < c.toNat)) = true := by simpa using h
  simp only [quotedC, quotedP, h1, h2, Bool.false_eq_true, if_false, if_true]
theorem quotedC_plain {c : UInt8} (l acc : Bytes) (n : Nat) (h34 : ¬ c.toNat = 34) (h1 : ¬ c.toNat < 32) (h2 : ¬ 126 < c.toNat) (h92 : ¬ c.toNat = 92) : quotedC (c :: l) acc n = quotedC l (acc ++ [c]) (n + 1) := by
  have e1 : (c == 34) = false := by rw [beq_eq_false_iff_ne]; rintro rfl; exact h34 rfl
  have e2 : (decide (c.toNat < 32) || decide (126 < c.toNat)) = false := by simp [h1, h2]
  have e3 : (c != 92) = true := by rw [bne_iff_ne]; rintro rfl; exact h92 rfl
  simp only [quotedC, quotedP, e1, e2, e3, Bool.false_eq_true, if_false, if_true, List.length_cons]
theorem quotedC_esc {c : UInt8} (l acc : Bytes) (n : Nat) (h92 : c.toNat = 92) {v : Int} {k : Nat} (hx : escP l = (v, k)) (hk : ¬ k = 0) :
    quotedC (c :: l) acc n = quotedC (l.drop k) (if 0 ≤ v then acc ++ [v.toNat.toUInt8] else acc) (n + 1 + k) := by
  have e1 : (c == 34) = false := by rw [u8_of h92]; rfl
  have e2 : (decide (c.toNat < 32) || decide (126 < c.toNat)) = false := by rw [h92]; rfl
  have e3 : (c != 92) = false := by rw [u8_of h92]; rfl
  simp only [quotedC, quotedP, e1, e2, e3, Bool.false_eq_true, if_false, hx, hk, List.length_cons]
  exact quotedP_fuel _ _ _ _ _ (by rw [List.length_drop]; omega) (by omega)
theorem quotedC_fall {c : UInt8} (l acc : Bytes) (n : Nat) (h92 : c.toNat = 92) {v : Int} (hx : escP l = (v, 0)) : quotedC (c :: l) acc n = none := by
  have e1 : (c == 34) = false := by rw [u8_of h92]; rfl
  have e2 : (decide (c.toNat < 32) || decide (126 < c.toNat)) = false := by rw [h92]; rfl
  have e3 : (c != 92) = false := by rw [u8_of h92]; rfl
  simp only [quotedC, quotedP, e1, e2, e3, Bool.false_eq_true, if_false, if_true, hx]

/-- an escape says a byte, or none; it takes no more than is there -/
theorem escP_bounds (l : Bytes) : -1 ≤ (escP l).1 ∧ (escP l).1 ≤ 255 ∧ (escP l).2 ≤ l.length + 5 := by
  have hb : ∀ base n m, -1 ≤ basedP base n m ∧ basedP base n m ≤ 255 := by
    intro base n m
    unfold basedP
    split
    · omega
    · split
      · omega
      · split <;> omega
  have h1 := Lib.indexByte_ge escL (atB l 0)
  have h2 := indexByte_lt escL (atB l 0)
  have h3 := cntB_le blankB l
  have h4 := (atB l 0).toNat_lt
  have h5 := (atB l 1).toNat_lt
  have h6 := hb 16 4 (l.drop 1)
  have h7 := hb 10 3 l
  simp only [escL, List.length_cons, List.length_nil] at h2
  simp only [escP, Bool.and_eq_true, decide_eq_true_eq]
  repeat' split
  all_goals (simp only [escL] at *; refine ⟨?_, ?_, ?_⟩ <;> omega)

/-- bytes as values -/
def bvals (l : Bytes) : List Value := l.map fun b => Value.int .u8 b.toNat

theorem Tryz.infoU8 : (Tryz.prog.info? 5).map (fun i => (i.zero, i.size, i.bytes)) = some (some (.int .u8 0), 1, 1) := by kernel_rfl

/-- 'string(b)', b the call's own -/
theorem conv_string {W : World} {B n : Nat} {v : Value} {l : Bytes} (h : W.ownsRow B 5 1 v n (bvals l)) : (convert 129 9 v).run Tryz.prog W = .ok (str l) W := by
  have hl : n = l.length := by have := h.1; simp [bvals] at this; omega
  subst hl
  rcases h.2 with ⟨rfl, h0⟩ | ⟨g, cap, cur, rfl, _, hg, hn, _, _, htk⟩
  · obtain rfl : l = [] := List.eq_nil_of_length_eq_zero h0
    exact run_convert_bytes_string W _ _ 5 none 0 0 (by kernel_rfl) (by kernel_rfl) (by kernel_rfl)
  · refine run_convert_bytes_back W _ _ 5 _ cap l (by kernel_rfl) (by kernel_rfl) (by kernel_rfl) ?_
    intro j hj
    have hc := h.cells (g := g) rfl j (.int .u8 (l[j].toNat : Int)) (by simp [bvals, hj])
    exact hc

/-- what the scanner's quoted returns -/
def QuPost (r : Option (Bytes × Nat)) (base : Nat) (w : World) (e : Ending) (w' : World) : Prop :=
  Below w.heap.size w w' ∧ match r with
  | none => e = .returned (.tuple #[.string ⟨#[]⟩, .int .i64 0, .int .i64 42])
  | some (t, n) => e = .returned (.tuple #[str t, .int .i64 (base + n : Nat), .int .i64 0])

theorem qu_bad {r : Option (Bytes × Nat)} {base : Nat} {w w' : World} (h : r = none) (hb : Below w.heap.size w w') : QuPost r base w (.returned (.tuple #[.string ⟨#[]⟩, .int .i64 0, .int .i64 42])) w' := by
  subst h; exact ⟨hb, rfl⟩
theorem qu_good {r : Option (Bytes × Nat)} {base : Nat} {w w' : World} {t : Bytes} {n : Nat} {v : Int} (h : r = some (t, n)) (hv : v = (base + n : Nat)) (hb : Below w.heap.size w w') : QuPost r base w (.returned (.tuple #[str t, .int .i64 v, .int .i64 0])) w' := by
  subst h; subst hv; exact ⟨hb, rfl⟩

/-- the loop's state: at place i, with these bytes -/
def QAt (s : ByteArray) (r : Option (Bytes × Nat)) (base i : Nat) (acc : Bytes) : Prop := base ≤ i ∧ r = quotedC (s.data.toList.drop i) acc (i - base) ∧ acc.length ≤ i

theorem one_u8 (n : Int) : ∀ u ∈ [Value.int .u8 n], u.oneCell' = true := by intro u hu; simp at hu; subst hu; rfl

theorem bvals_snoc (l : Bytes) (x : UInt8) : bvals l ++ [Value.int .u8 x.toNat] = bvals (l ++ [x]) := by simp [bvals]

theorem owns_snoc {w1 : World} {B : Nat} {v : Value} {acc : Bytes} {x : UInt8} (h : w1.ownsRow B 5 1 v (acc.length + 1) (bvals acc ++ [Value.int .u8 x.toNat])) :
    w1.ownsRow B 5 1 v (acc ++ [x]).length (bvals (acc ++ [x])) := by
  rw [← bvals_snoc, List.length_append]; exact h

/-- what is owned stays owned where nothing old has turned -/
theorem owns_below {w w' : World} {B n size : Nat} {e : TypeId} {v : Value} {xs : List Value} (h : w.ownsRow B e size v n xs) (hb : Below w.heap.size w w') : w'.ownsRow B e size v n xs := by
  refine ⟨h.1, ?_⟩
  rcases h.2 with hn | ⟨g, cap, cur, rfl, hbg, hg, rest⟩
  · exact .inl hn
  · exact .inr ⟨g, cap, cur, rfl, hbg, (hb.block g (Array.getElem?_eq_some_iff.1 hg).1).trans hg, rest⟩

theorem below_push {w wr w1 : World} {o : Obj} {n size : Nat} {e : TypeId} {v : Value} {xs : List Value} (hb : Below w.heap.size w wr) (ho : wr.ownsRow w.heap.size e size v n xs) (hg : (wr.alloc o).grownBy w1 v.ownBlock) : Below w.heap.size w w1 :=
  (hb.alloc hb.size o).grown hg (by have := hb.size; simp; omega) (fun k hk => (ho.lt k hk).1)

theorem q_step {s : ByteArray} {r : Option (Bytes × Nat)} {base i : Nat} {acc : Bytes} {x : UInt8} (h1 : base ≤ i) (h2 : acc.length ≤ i) (h : r = quotedC (s.data.toList.drop (i + 1)) (acc ++ [x]) (i - base + 1)) : QAt s r base (i + 1) (acc ++ [x]) := by
  refine ⟨by omega, ?_, by simp; omega⟩
  rw [h, show i + 1 - base = i - base + 1 from by omega]
theorem q_esc {s : ByteArray} {r : Option (Bytes × Nat)} {base i k : Nat} {acc : Bytes} {x : UInt8} (h1 : base ≤ i) (h2 : acc.length ≤ i) (h : r = quotedC ((s.data.toList.drop (i + 1)).drop k) (acc ++ [x]) (i - base + 1 + k)) : QAt s r base (i + (1 + k)) (acc ++ [x]) := by
  refine ⟨by omega, ?_, by simp; omega⟩
  rw [h, List.drop_drop, show i + (1 + k) - base = i - base + 1 + k from by omega, show i + 1 + k = i + (1 + k) from by omega]
theorem q_esc0 {s : ByteArray} {r : Option (Bytes × Nat)} {base i k : Nat} {acc : Bytes} (h1 : base ≤ i) (h2 : acc.length ≤ i) (h : r = quotedC ((s.data.toList.drop (i + 1)).drop k) acc (i - base + 1 + k)) : QAt s r base (i + (1 + k)) acc := by
  refine ⟨by omega, ?_, by omega⟩
  rw [h, List.drop_drop, show i + (1 + k) - base = i - base + 1 + k from by omega, show i + 1 + k = i + (1 + k) from by omega]

set_option maxRecDepth 100000 in
set_option maxHeartbeats 2000000 in
theorem quoted_any (s : ByteArray) (b i0 base : Nat) (w : World) (hg : Gl w) (hs : w.cell? ⟨b, 0, none⟩ = some (.string s)) (hz : s.size ≤ 1048576) (hi : i0 ≤ s.size) (hbase : base ≤ i0) :
    Calls Tryz.prog 80 #[.pointer (some ⟨b, 0, none⟩), .int .i64 i0] w (QuPost (quotedC (s.data.toList.drop i0) [] (i0 - base)) base w) := by
  obtain ⟨u0, hu, hu0, hu1, hu2⟩ := info_parts Tryz.infoU8
  have HG := Lib.hid hg; clear hg
  obtain ⟨r, hr⟩ : ∃ r, quotedC (s.data.toList.drop i0) [] (i0 - base) = r := ⟨_, rfl⟩
  rw [hr]
  have hq0 : QAt s r base i0 [] := ⟨hbase, hr.symm, Nat.zero_le _⟩
  clear hr hbase
  have HQ0 := Lib.hid hq0; clear hq0
  go_enter Tryz.func80, Tryz.ntmps80
  go_wp2_with fail
  go_loopw [1, 7] (fun iv v wr => ∃ (i : Nat) (acc : Bytes), iv = .int .i64 i ∧ i ≤ 1048600 ∧ wr.ownsRow w.heap.size 5 1 v acc.length (bvals acc) ∧ Below w.heap.size w wr ∧ QAt s r base i acc)
    (fun iv _ _ => s.size - (intOf iv).toNat)
  case atStart => exact ⟨i0, [], rfl, by omega, World.ownsRow_nil _ _ _ _, Below.refl _ _, HQ0.out⟩
  case round =>
    obtain ⟨i, acc, rfl, hib, hown, hbw, hqa⟩ := hrel
    have hsr := cell_later hbw hs
    have HO := Lib.hid hown
    have HB := Lib.hid hbw
    clear HQ0
    by_cases hlt : i < s.size
    · obtain ⟨x, hx⟩ : ∃ x : UInt8, s[i]'hlt = x := ⟨_, rfl⟩
      have hd := cell_u8 s i hlt
      rw [hx] at hd
      have hx256 := x.toNat_lt
      obtain ⟨hq1, hq2, hq3⟩ := hqa
      rw [hd] at hq2
      clear hd
      have HQ := Lib.hid hq2; clear hq2
      by_cases h34 : x.toNat = 34
      · have HE := Lib.hid (HQ.out.trans (quotedC_end _ _ _ h34))
        have hcv := conv_string hown
        clear hown
        go_wp2_with fail
        go_ret3
        exact qu_good HE.out (by omega) HB.out
      · have b34 : ((x.toNat : Int) == 34) = false := by rw [beq_eq_false_iff_ne]; omega
        by_cases hlo : x.toNat < 32
        · have HE := Lib.hid (HQ.out.trans (quotedC_bad _ _ _ (.inl hlo)))
          clear hown
          go_wp2_with fail
          go_ret3
          exact qu_bad HE.out HB.out
        · by_cases hhi : 126 < x.toNat
          · have HE := Lib.hid (HQ.out.trans (quotedC_bad _ _ _ (.inr hhi)))
            clear hown
            go_wp2_with fail
            go_ret3
            exact qu_bad HE.out HB.out
          · by_cases h92 : x.toNat = 92
            · have b92 : ((x.toNat : Int) != 92) = false := by rw [bne_eq_false_iff_eq]; omega
              have hbd := escP_bounds (s.data.toList.drop (i + 1))
              rw [List.length_drop, ← Lib.size_eq] at hbd
              have hcall := fun W h1 h2 => escape_any s b (i + 1) W h1 h2 hz (by omega)
              unfold EscPost at hcall
              generalize hE : escP (s.data.toList.drop (i + 1)) = E at *
              obtain ⟨v, k⟩ := E
              obtain ⟨hv1, hv2, hk2⟩ := hbd
              have HEE := Lib.hid hE; clear hE
              have HC := Lib.hid (hcall wr (HG.out.below hbw) hsr); clear hcall
              simp only [] at HC hv1 hv2 hk2
              by_cases hk : k = 0
              · subst hk
                have HE := Lib.hid (HQ.out.trans (quotedC_fall _ _ _ h92 HEE.out))
                clear hown
                go_wp2_with fail
                refine (HC.out).mono ?_
                rintro e w2 ⟨rfl, hb2⟩
                go_wp2_with fail
                go_ret3
                exact qu_bad HE.out (HB.out.trans (hb2.mono HB.out.size))
              · have HE := Lib.hid (HQ.out.trans (quotedC_esc _ _ _ h92 HEE.out hk))
                have bk : ((k : Int) == 0) = false := by rw [beq_eq_false_iff_ne]; omega
                by_cases hv : 0 ≤ v
                · rw [if_pos hv] at HE
                  obtain ⟨c, hc⟩ : ∃ c : UInt8, v = c.toNat := ⟨v.toNat.toUInt8, by simp; omega⟩
                  subst hc
                  have hc256 := c.toNat_lt
                  rw [show ((c.toNat : Int)).toNat.toUInt8 = c from by simp] at HE
                  go_wp2_with fail
                  refine (HC.out).mono ?_
                  rintro e w2 ⟨rfl, hb2⟩
                  have HO2 := Lib.hid (owns_below HO.out hb2)
                  have HB2 := Lib.hid (HB.out.trans (hb2.mono HB.out.size))
                  clear hown
                  go_wp2_with (first | (at_builtin; refine wpList_append_own _ rfl _ _ 129 rfl w.heap.size 5 u0 (.int .u8 0) 1 1 Tryz.underlying129 hu hu0 hu1 hu2 rfl (by decide) _ _ _ rfl (HO2.out.alloc _) ⟨w2.heap.size, 0, none⟩ 1 1 [.int .u8 c.toNat] rfl rfl (cell_one_new _ _ _) (one_u8 _) ?e3 ?e4 ?e5 ?_))
                  case e3 => unfold maxLen; omega
                  case e4 => omega
                  case e5 => have := HB2.out.size; simp; omega
                  intro v' w1 hown1 hgr _
                  have HO1 := Lib.hid hown1
                  have HB1 := Lib.hid (below_push HB2.out HO2.out hgr)
                  have hs1 := cell_later HB1.out hs
                  clear hown1 hgr hbw hb2
                  go_wp2_with fail
                  go_roundw
                  case rel => exact ⟨i + (1 + k), acc ++ [c], by go_num, by omega, owns_snoc HO1.out, HB1.out, q_esc hq1 hq3 HE.out⟩
                  case measure => simp [intOf]; omega
                · rw [if_neg hv] at HE
                  go_wp2_with fail
                  refine (HC.out).mono ?_
                  rintro e w2 ⟨rfl, hb2⟩
                  have HO2 := Lib.hid (owns_below HO.out hb2)
                  have HB2 := Lib.hid (HB.out.trans (hb2.mono HB.out.size))
                  clear hown hbw hb2
                  go_wp2_with fail
                  go_roundw
                  case rel => exact ⟨i + (1 + k), acc, by go_num, by omega, HO2.out, HB2.out, q_esc0 hq1 hq3 HE.out⟩
                  case measure => simp [intOf]; omega
            · have b92 : ((x.toNat : Int) != 92) = true := by rw [bne_iff_ne]; omega
              have HE := Lib.hid (HQ.out.trans (quotedC_plain _ _ _ h34 hlo hhi h92))
              go_wp2_with (first | (at_builtin; refine wpList_append_own _ rfl _ _ 129 rfl w.heap.size 5 u0 (.int .u8 0) 1 1 Tryz.underlying129 hu hu0 hu1 hu2 rfl (by decide) _ _ _ rfl (HO.out.alloc _) ⟨wr.heap.size, 0, none⟩ 1 1 [.int .u8 x.toNat] rfl rfl (cell_one_new _ _ _) (one_u8 _) ?c3 ?c4 ?c5 ?_))
              case c3 => unfold maxLen; omega
              case c4 => omega
              case c5 => have := HB.out.size; simp; omega
              intro v' w1 hown1 hgr _
              have HO1 := Lib.hid hown1
              have HB1 := Lib.hid (below_push HB.out HO.out hgr)
              clear hown1 hgr hown hbw
              go_wp2_with fail
              go_roundw
              case rel => exact ⟨i + 1, acc ++ [x], by go_num, by omega, owns_snoc HO1.out, HB1.out, q_step hq1 hq3 HE.out⟩
              case measure => simp [intOf]; omega
    · have HE := Lib.hid (show r = none by
        rw [hqa.2.1, List.drop_of_length_le (by rw [← Lib.size_eq]; omega)]; exact quotedC_nil _ _)
      clear hown hqa
      go_wp2_with fail
      go_ret3
      exact qu_bad HE.out HB.out

end Go.Proofs.YtbchkldhnjahaaaGreatDoor
