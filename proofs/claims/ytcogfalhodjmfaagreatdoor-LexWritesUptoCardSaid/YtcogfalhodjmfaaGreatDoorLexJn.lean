/- The call of Join: what it returns. Conditions: those of each theorem. -/
import Derived.Test.YtcogfalhodjmfaaGreatDoorLexWr
namespace Go.Proofs.YtcogfalhodjmfaaGreatDoor
open Go.RowKit Kiln
open Go.Proofs

/-- a slice of tokens reads so -/
def TkS (w : World) (v : Value) (l : List Tok) : Prop :=
  ∃ a cap, v = .slice a l.length cap ∧ (l ≠ [] → ∃ b off, a = some ⟨b, off, none⟩ ∧ ∀ (i : Nat) u, l[i]? = some u → ∃ pv, Strs w pv u.path ∧ ∀ (j : Nat) x, (tokVals u pv)[j]? = some x → w.cell? ⟨b, off + (5 * i + j), none⟩ = some x)

theorem TkS.below {w w' : World} {v : Value} {l : List Tok} (h : TkS w v l) (hb : Below w.heap.size w w') : TkS w' v l := by
  obtain ⟨a, cap, hv, hl⟩ := h
  refine ⟨a, cap, hv, fun hne => ?_⟩
  obtain ⟨b, off, ha, hx⟩ := hl hne
  refine ⟨b, off, ha, fun i u hi => ?_⟩
  obtain ⟨pv, hs, hc⟩ := hx i u hi
  exact ⟨pv, hs.below hb, fun j x hj => cell_later hb (hc j x hj)⟩

theorem toks_at {ob : Option Nat} {B : Nat} {w : World} : ∀ {l : List Tok} {xs : List Value}, Toks ob B w l xs → ∀ (i : Nat) u, l[i]? = some u → ∃ pv, StrsO ob B w pv u.path ∧ ∀ (j : Nat) x, (tokVals u pv)[j]? = some x → xs[5 * i + j]? = some x
  | [], _, _, i, u, hi => by simp at hi
  | t :: l, xs, ⟨pv, ys, hx, hp, hr⟩, 0, u, hi => by
    simp only [List.getElem?_cons_zero, Option.some.injEq] at hi
    subst hi
    refine ⟨pv, hp, fun j x hj => ?_⟩
    subst hx
    rw [Nat.mul_zero, Nat.zero_add, List.getElem?_append_left (List.getElem?_eq_some_iff.1 hj).1]; exact hj
  | t :: l, xs, ⟨pv, ys, hx, hp, hr⟩, i + 1, u, hi => by
    obtain ⟨pv', hs, hc⟩ := toks_at hr i u (by simpa using hi)
    refine ⟨pv', hs, fun j x hj => ?_⟩
    subst hx
    rw [List.getElem?_append_right (by simp [tokVals]; omega)]
    rw [show 5 * (i + 1) + j - (tokVals t pv).length = 5 * i + j by simp [tokVals]; omega]
    exact hc j x hj

theorem addr_add0 (g n : Nat) : (⟨g, 0, none⟩ : Addr).add n = ⟨g, n, none⟩ := by
  unfold Addr.add
  split
  · rename_i h; simp_all
  · simp

theorem toks_TkS {w : World} {B : Nat} {v : Value} {l : List Tok} {xs : List Value} (ho : w.ownsRow B 34 5 v l.length xs) (ht : Toks v.ownBlock B w l xs) : TkS w v l := by
  rcases id ho.2 with ⟨rfl, h0⟩ | ⟨g, cap, cur, rfl, _⟩
  · have : l = [] := List.eq_nil_of_length_eq_zero h0
    subst this
    exact ⟨none, 0, rfl, fun h => absurd rfl h⟩
  · refine ⟨_, cap, rfl, fun _ => ⟨g, 0, rfl, fun i u hi => ?_⟩⟩
    obtain ⟨pv, hs, hc⟩ := toks_at ht i u hi
    refine ⟨pv, hs.1, fun j x hj => ?_⟩
    have := ho.cells (g := g) rfl (5 * i + j) x (hc j x hj)
    rw [Nat.zero_add, ← addr_add0]; exact this

theorem bd_keep {B b : Nat} {l : Bytes} {w w' : World} (h : Bd B b l w) (hb : Below w.heap.size w w') : Bd B b l w' := by
  rcases h with ⟨hB, v, hbb, hown, hne⟩ | ⟨hB, v, hbb, hown, hne⟩
  · exact .inl ⟨hB, v, (hb.block b (Array.getElem?_eq_some_iff.1 hbb).1).trans hbb, owns_below hown hb, hne⟩
  · exact .inr ⟨hB, v, (hb.block b (Array.getElem?_eq_some_iff.1 hbb).1).trans hbb, owns_below hown hb, hne⟩

/-- sizes that Go's own limits allow -/
def Fits (u : Tok) : Prop := u.text.length ≤ 17592186044416 ∧ u.path.length ≤ 1099511627776 ∧ (Lib.join (u.path ++ [u.text]) [46]).length ≤ 140737488355328

theorem writeP_err {k : Int} {t : Bytes} {pa : List Bytes} {c : Nat} (h : writeP k t pa = .error c) : c = 1 := by
  unfold writeP at h
  split at h
  · cases h
  · simp only [Except.error.injEq] at h; exact h.symm

set_option maxRecDepth 100000 in
set_option maxHeartbeats 4000000 in
theorem join_any (l : List Tok) (v : Value) (w : World) (hg : Gl w) (hv : TkS w v l) (hz : ∀ u ∈ l, Fits u) (hlen : l.length ≤ 1099511627776) :
    Calls Tryz.prog 14 #[v] w (WrPost (joinP l) w) := by
  obtain ⟨a, cap, rfl, hl⟩ := hv
  have HL := Lib.hid hl; clear hl
  have HG := Lib.hid hg; clear hg
  have HZ := Lib.hid hz; clear hz
  obtain ⟨R, hR⟩ : ∃ R, joinP l = R := ⟨_, rfl⟩
  rw [hR]
  have HR := Lib.hid hR.symm; clear hR
  go_enter Tryz.func14, Tryz.ntmps14
  go_wp2_with fail
  have HB0 := Lib.hid ((Below.refl _ w).alloc (Nat.le_refl _) (.cells #[.pointer none, .slice none 0 0] 73))
  have HBD0 := Lib.hid (Bd.new w)
  go_loopw [11] (fun j wr => ∃ (k : Nat) (acc : Bytes), j = .int .i64 k ∧ k ≤ l.length ∧ R = joinG (k == 0) acc (l.drop k) ∧ Bd w.heap.size w.heap.size acc wr ∧ Below w.heap.size w wr ∧ acc.length ≤ 3145728) (fun j _ => l.length - (intOf j).toNat)
  case atStart => exact ⟨0, [], rfl, Nat.zero_le _, HR.out, HBD0.out, HB0.out, by simp⟩
  case round =>
    clear HB0 HBD0 HR
    obtain ⟨k, acc, rfl, hk, heq, hbd, hbe, hal⟩ := hrel
    have HEQ := Lib.hid heq
    have HBD := Lib.hid hbd
    have HB := Lib.hid hbe
    have hwl := hbe.size
    clear heq hbd hbe
    by_cases hlt : k < l.length
    · have hki : (k : Int) < (l.length : Int) := by omega
      obtain ⟨u, hu⟩ : ∃ u, l[k]? = some u := ⟨l[k], List.getElem?_eq_getElem hlt⟩
      obtain ⟨b, off, rfl, hx⟩ := HL.out (by rintro rfl; simp at hlt)
      obtain ⟨pv, hs, hc⟩ := hx k u hu
      obtain ⟨a2, cap2, rfl, _⟩ := id hs
      have hc' : ∀ (j : Nat) x q, (tokVals u (.slice a2 u.path.length cap2))[j]? = some x → q = off + (5 * k + j) → wr.cell? ⟨b, q, none⟩ = some x := fun j x q hj hq => by
        subst hq; exact cell_later HB.out (hc j x hj)
      have c0 : wr.cell? ⟨b, off + k * 5, none⟩ = some (.int .i64 u.kind) := hc' 0 _ _ rfl (by omega)
      have c1 : wr.cell? ⟨b, off + k * 5 + 1, none⟩ = some (str u.text) := hc' 1 _ _ rfl (by omega)
      have c2 : wr.cell? ⟨b, off + k * 5 + 2, none⟩ = some (.slice a2 u.path.length cap2) := hc' 2 _ _ rfl (by omega)
      have c3 : wr.cell? ⟨b, off + k * 5 + 3, none⟩ = some (.int .i64 u.line) := hc' 3 _ _ rfl (by omega)
      have c4 : wr.cell? ⟨b, off + k * 5 + 4, none⟩ = some (.int .i64 u.col) := hc' 4 _ _ rfl (by omega)
      clear hc hx hc'
      have HF := Lib.hid (HZ.out u (List.mem_of_getElem? hu))
      have hdr : l.drop k = u :: l.drop (k + 1) := by
        rw [List.drop_eq_getElem_cons hlt]
        rw [List.getElem?_eq_getElem hlt] at hu
        simp only [Option.some.injEq] at hu
        rw [hu]
      have HEN : RowKit.Hid (R = match writeP u.kind u.text u.path with
          | .error e => .error e
          | .ok s => joinG false (if acc.length ≤ 1048576 then acc ++ (if (k == 0) then s else 32 :: s) else acc) (l.drop (k + 1))) := by
        show _ = _
        rw [HEQ.out, hdr]; rfl
      clear hdr hu HEQ
      have hal1 := (Below.refl wr.heap.size wr).alloc (Nat.le_refl _) (.cells #[.int .i64 u.kind, str u.text, .slice a2 u.path.length cap2, .int .i64 u.line, .int .i64 u.col] 34)
      have HW1 := Lib.hid (HB.out.trans (hal1.mono hwl))
      have HWR := Lib.hid (write_any u.kind u.text (.slice a2 u.path.length cap2) u.path u.line u.col _ (HG.out.below HW1.out) (hs.below HW1.out) HF.out.1 HF.out.2.1 HF.out.2.2)
      have HBDW := Lib.hid (bd_alloc HBD.out (.cells #[.int .i64 u.kind, str u.text, .slice a2 u.path.length cap2, .int .i64 u.line, .int .i64 u.col] 34))
      clear hs hal1 HF
      go_wp2_with fail
      obtain ⟨W, hW⟩ : ∃ W, wr.alloc (.cells #[.int .i64 u.kind, str u.text, .slice a2 u.path.length cap2, .int .i64 u.line, .int .i64 u.col] 34) = W := ⟨_, rfl⟩
      rw [hW] at HW1 HWR HBDW
      rw [show wr.alloc (.cells #[.int .i64 u.kind, .string { data := List.toArray u.text }, .slice a2 u.path.length cap2, .int .i64 u.line, .int .i64 u.col] 34) = W from hW]
      clear hW
      refine HWR.out.mono ?_
      rintro e w2 ⟨hb2, hr⟩
      have HB2 := Lib.hid (HW1.out.trans (hb2.mono HW1.out.size))
      have HBD2 := Lib.hid (bd_keep HBDW.out hb2)
      clear hb2 HWR
      cases hwr : writeP u.kind u.text u.path with
      | error c =>
        rw [hwr] at hr HEN
        have hc := writeP_err hwr
        have hcn : ((c : Int) != 0) = true := by rw [bne_iff_ne]; omega
        have HE : RowKit.Hid (R = .error c) := HEN.out
        subst hr
        clear hwr hc
        go_wp2_with fail
        go_ret2
        exact wr_bad HE.out rfl HB2.out
      | ok s =>
        rw [hwr] at hr HEN
        have hsz := writeP_size hwr
        subst hr
        clear hwr
        obtain ⟨s2, hs2⟩ : ∃ s2, (if (k == 0) then s else 32 :: s) = s2 := ⟨_, rfl⟩
        have hs2l : s2.length ≤ 1048577 := by rw [← hs2]; split <;> (try simp only [List.length_cons]) <;> omega
        have HE : RowKit.Hid (R = joinG false (if acc.length ≤ 1048576 then acc ++ s2 else acc) (l.drop (k + 1))) := by show _ = _; rw [← hs2]; exact HEN.out
        have HS2 := Lib.hid hs2
        clear HEN hs2
        go_upto_if 25 with fail
        go_cut [7] (fun v wc => v = str s2 ∧ wc = w2)
        case first =>
          by_cases hk0 : k = 0
          · have b1 : ¬ 0 < k := by omega
            have HQ : RowKit.Hid (s2 = s) := by show _ = _; rw [← HS2.out, hk0]; rfl
            clear hk0
            go_wp2_with fail
            go_meet
            exact ⟨by rw [HQ.out], rfl⟩
          · have b1 : 0 < k := by omega
            have HQ : RowKit.Hid (s2 = 32 :: s) := by show _ = _; rw [← HS2.out, if_neg (by simpa using hk0)]
            obtain ⟨q, hq⟩ : ∃ q : ByteArray, (⟨s.toArray⟩ : ByteArray) = q := ⟨_, rfl⟩
            have hqs : q.size ≤ 1048576 := by rw [← hq, Lib.size_eq]; exact hsz
            have HQL := Lib.hid (show q.data.toList = s by rw [← hq])
            rw [show str s = .string q by rw [← hq]]
            clear hk0 hq
            go_wp2_with fail
            go_meet
            refine ⟨?_, rfl⟩
            rw [HQ.out, ← HQL.out]
            congr 1
        case rest =>
          obtain ⟨rfl, rfl⟩ := hcut
          go_wp2_with fail
          refine (bd_len _ _ _ _ HBD2.out).mono ?_
          rintro e w3 ⟨rfl, rfl⟩
          by_cases hal2 : acc.length ≤ 1048576
          · have hbI : (acc.length : Int) ≤ 1048576 := by omega
            rw [if_pos hal2] at HE
            go_wp2_with fail
            refine (bd_str _ _ _ ⟨s2.toArray⟩ _ HBD2.out (by rw [Lib.size_eq]; simp; omega) HB2.out.size).mono ?_
            rintro e w4 ⟨rfl, hbd4, hb4⟩
            have HBD4 := Lib.hid hbd4
            have HB4 := Lib.hid (HB2.out.trans hb4)
            clear hbd4 hb4
            go_wp2_with fail
            go_roundw
            case rel => exact ⟨k + 1, acc ++ s2, by go_num, by omega, HE.out, by simpa using HBD4.out, HB4.out, by simp; omega⟩
            case measure => simp [intOf]; omega
          · have hbI : decide ((acc.length : Int) ≤ 1048576) = false := by simp; omega
            rw [if_neg hal2] at HE
            go_wp2_with fail
            go_roundw
            case rel => exact ⟨k + 1, acc, by go_num, by omega, HE.out, HBD2.out, HB2.out, by omega⟩
            case measure => simp [intOf]; omega
    · have hki : decide ((k : Int) < (l.length : Int)) = false := by simp; omega
      have hkl : k = l.length := by omega
      have HE : RowKit.Hid (R = if 1048576 < acc.length then .error 2 else .ok acc) := by
        show _ = _
        rw [HEQ.out, hkl, List.drop_length]; rfl
      clear HEQ
      by_cases hbig : 1048576 < acc.length
      · have HE2 : RowKit.Hid (R = .error 2) := by show _ = _; rw [HE.out, if_pos hbig]
        have hbI : (1048576 : Int) < (acc.length : Int) := by omega
        go_wp2_with fail
        refine (bd_len _ _ _ _ HBD.out).mono ?_
        rintro e w2 ⟨rfl, rfl⟩
        go_wp2_with fail
        go_ret2
        exact wr_bad HE2.out rfl HB.out
      · have HE2 : RowKit.Hid (R = .ok acc) := by show _ = _; rw [HE.out, if_neg hbig]
        have hbI : decide ((acc.length : Int) > 1048576) = false := by simp; omega
        go_wp2_with fail
        refine (bd_len _ _ _ _ HBD.out).mono ?_
        rintro e w2 ⟨rfl, rfl⟩
        go_wp2_with fail
        refine (bd_string _ _ _ _ HBD.out hwl).mono ?_
        rintro e w3 ⟨rfl, hb3⟩
        go_wp2_with fail
        go_ret2
        exact wr_good HE2.out (HB.out.trans hb3)

end Go.Proofs.YtcogfalhodjmfaaGreatDoor
