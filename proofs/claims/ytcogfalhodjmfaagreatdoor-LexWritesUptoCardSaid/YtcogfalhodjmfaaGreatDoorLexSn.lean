/- The reference's Same: what the call returns. Conditions: those of each theorem. -/
import Derived.Test.YtcogfalhodjmfaaGreatDoorLexSm
import Derived.Test.YtcogfalhodjmfaaGreatDoorLexSc
import Derived.BigQuiet
namespace Go.Proofs.YtcogfalhodjmfaaGreatDoor
open Go.RowKit Kiln
open Go.Proofs

/-- a region that draws, whose calls leave what was there: walked once, in the text's order, over a class of worlds (Derived/Deep/Quiet's theorem at the class of f's values) -/
theorem wp_region_grown {P : Program} {id : Nat} {Q : Exit → Act → World → Prop} {a : Act} {w : World} {l : List Oper} {T : Type} (f : T → World) (hm : P.follows .mixedOrders = true) (hB : Region.lexB .any l.toArray = true) (h0 : ∃ q, w.drew = f q)
    (h : wpQuiet P l.toArray (fun w' => ∃ q, w' = f q) (fun a' => ∀ w', (∃ q, w' = f q) → Q .normal a' w') l a) : (Code.region id l.toArray true).wp P Q a w :=
  wp_region_quiet (C := fun w' => ∃ q, w' = f q) hm hB h0 (by simpa using h)

theorem sameL_len (pl : Bool) : ∀ (l m : List Tok), sameL pl l m = true → l.length = m.length
  | [], [], _ => rfl
  | [], _ :: _, h => by simp [sameL] at h
  | _ :: _, [], h => by simp [sameL] at h
  | u :: l, v :: m, h => by
    simp only [sameL, Bool.and_eq_true] at h
    simp only [List.length_cons, sameL_len pl l m h.2]

set_option maxRecDepth 100000 in
set_option maxHeartbeats 4000000 in
theorem same_any (pl : Bool) (la lb : List Tok) (va vb : Value) (w : World) (ha : TkS w va la) (hb : TkS w vb lb) (hp : ∀ u ∈ la, u.path.length ≤ 1099511627776) (hn : la.length ≤ 1099511627776) :
    Calls Tryz.prog 8 #[va, vb, .bool pl] w fun e w' => e = .returned (.bool (sameL pl la lb)) ∧ Below w.heap.size w w' := by
  obtain ⟨a1, cap1, rfl, hl1⟩ := ha
  obtain ⟨a2, cap2, rfl, hl2⟩ := hb
  have HL1 := Lib.hid hl1
  have HL2 := Lib.hid hl2
  have HP := Lib.hid hp
  clear hl1 hl2 hp
  obtain ⟨R, hR⟩ : ∃ R, sameL pl la lb = R := ⟨_, rfl⟩
  rw [hR]
  have HR := Lib.hid hR; clear hR
  go_enter Tryz.func8, Tryz.ntmps8
  by_cases hl : la.length = lb.length
  · have b3 : ((la.length : Int) != lb.length) = false := by rw [bne_eq_false_iff_eq]; omega
    have HL := Lib.hid hl
    clear hl
    go_wp2_with fail
    clear b3
    go_loopw [7] (fun j wr => ∃ k : Nat, j = .int .i64 k ∧ k ≤ la.length ∧ Below w.heap.size w wr ∧ R = sameL pl (la.drop k) (lb.drop k)) (fun j _ => la.length - (intOf j).toNat)
    case atStart => exact ⟨0, rfl, Nat.zero_le _, Below.refl _ _, HR.out.symm⟩
    case round =>
      clear HR
      obtain ⟨k, rfl, hk, hbe, heq⟩ := hrel
      have HB := Lib.hid hbe
      have HEQ := Lib.hid heq
      clear hbe heq
      by_cases hlt : k < la.length
      · have hki : (k : Int) < (la.length : Int) := by omega
        have hlt2 : k < lb.length := by have := HL.out; omega
        have hki2 : (k : Int) < (lb.length : Int) := by omega
        obtain ⟨u, hu⟩ : ∃ u, la[k]? = some u := ⟨la[k], List.getElem?_eq_getElem hlt⟩
        obtain ⟨v, hv⟩ : ∃ v, lb[k]? = some v := ⟨lb[k], List.getElem?_eq_getElem hlt2⟩
        obtain ⟨b1, o1, rfl, hx1⟩ := HL1.out (by rintro rfl; simp at hlt)
        obtain ⟨b2, o2, rfl, hx2⟩ := HL2.out (by rintro rfl; simp at hlt2)
        obtain ⟨pv1, hs1, hc1⟩ := hx1 k u hu
        obtain ⟨pv2, hs2, hc2⟩ := hx2 k v hv
        obtain ⟨q1, e1, rfl, _⟩ := id hs1
        obtain ⟨q2, e2, rfl, _⟩ := id hs2
        have hd1 : la.drop k = u :: la.drop (k + 1) := by
          rw [List.getElem?_eq_getElem hlt] at hu
          simp only [Option.some.injEq] at hu
          rw [List.drop_eq_getElem_cons hlt, hu]
        have hd2 : lb.drop k = v :: lb.drop (k + 1) := by
          rw [List.getElem?_eq_getElem hlt2] at hv
          simp only [Option.some.injEq] at hv
          rw [List.drop_eq_getElem_cons hlt2, hv]
        have hup := HP.out u (List.mem_of_getElem? hu)
        obtain ⟨B, hB⟩ : ∃ B, alikeB u v = B := ⟨_, rfl⟩
        have HEN : RowKit.Hid (R = (B && (!pl || (u.line == v.line && u.col == v.col)) && sameL pl (la.drop (k + 1)) (lb.drop (k + 1)))) := by
          show _ = _
          rw [HEQ.out, hd1, hd2, ← hB]; rfl
        have HAL := Lib.hid (fun W (hb : Below wr.heap.size wr W) => hB ▸ alike_any u v (.slice q1 u.path.length e1) (.slice q2 v.path.length e2) W ((hs1.below HB.out).below hb) ((hs2.below HB.out).below hb) hup)
        have g1 : ∀ (j : Nat) x q, (tokVals u (.slice q1 u.path.length e1))[j]? = some x → q = o1 + (5 * k + j) → wr.cell? ⟨b1, q, none⟩ = some x := fun j x q hj hq => by
          subst hq; exact cell_later HB.out (hc1 j x hj)
        have g2 : ∀ (j : Nat) x q, (tokVals v (.slice q2 v.path.length e2))[j]? = some x → q = o2 + (5 * k + j) → wr.cell? ⟨b2, q, none⟩ = some x := fun j x q hj hq => by
          subst hq; exact cell_later HB.out (hc2 j x hj)
        have u0 : wr.cell? ⟨b1, o1 + k * 5, none⟩ = some (.int .i64 u.kind) := g1 0 _ _ rfl (by omega)
        have u1 : wr.cell? ⟨b1, o1 + k * 5 + 1, none⟩ = some (str u.text) := g1 1 _ _ rfl (by omega)
        have u2 : wr.cell? ⟨b1, o1 + k * 5 + 2, none⟩ = some (.slice q1 u.path.length e1) := g1 2 _ _ rfl (by omega)
        have u3 : wr.cell? ⟨b1, o1 + k * 5 + 3, none⟩ = some (.int .i64 u.line) := g1 3 _ _ rfl (by omega)
        have u4 : wr.cell? ⟨b1, o1 + k * 5 + 4, none⟩ = some (.int .i64 u.col) := g1 4 _ _ rfl (by omega)
        have v0 : wr.cell? ⟨b2, o2 + k * 5, none⟩ = some (.int .i64 v.kind) := g2 0 _ _ rfl (by omega)
        have v1 : wr.cell? ⟨b2, o2 + k * 5 + 1, none⟩ = some (str v.text) := g2 1 _ _ rfl (by omega)
        have v2 : wr.cell? ⟨b2, o2 + k * 5 + 2, none⟩ = some (.slice q2 v.path.length e2) := g2 2 _ _ rfl (by omega)
        have v3 : wr.cell? ⟨b2, o2 + k * 5 + 3, none⟩ = some (.int .i64 v.line) := g2 3 _ _ rfl (by omega)
        have v4 : wr.cell? ⟨b2, o2 + k * 5 + 4, none⟩ = some (.int .i64 v.col) := g2 4 _ _ rfl (by omega)
        have HSR := Lib.hid (fun W (hb : Below wr.heap.size wr W) => (⟨cell_later hb u0, cell_later hb u1, cell_later hb u2, cell_later hb u3, cell_later hb u4, cell_later hb v0, cell_later hb v1, cell_later hb v2, cell_later hb v3, cell_later hb v4, hb⟩ :
          W.cell? ⟨b1, o1 + k * 5, none⟩ = some (.int .i64 u.kind) ∧ W.cell? ⟨b1, o1 + k * 5 + 1, none⟩ = some (str u.text) ∧ W.cell? ⟨b1, o1 + k * 5 + 2, none⟩ = some (.slice q1 u.path.length e1) ∧ W.cell? ⟨b1, o1 + k * 5 + 3, none⟩ = some (.int .i64 u.line) ∧ W.cell? ⟨b1, o1 + k * 5 + 4, none⟩ = some (.int .i64 u.col) ∧
          W.cell? ⟨b2, o2 + k * 5, none⟩ = some (.int .i64 v.kind) ∧ W.cell? ⟨b2, o2 + k * 5 + 1, none⟩ = some (str v.text) ∧ W.cell? ⟨b2, o2 + k * 5 + 2, none⟩ = some (.slice q2 v.path.length e2) ∧ W.cell? ⟨b2, o2 + k * 5 + 3, none⟩ = some (.int .i64 v.line) ∧ W.cell? ⟨b2, o2 + k * 5 + 4, none⟩ = some (.int .i64 v.col) ∧ Below wr.heap.size wr W))
        clear g1 g2 hs1 hs2 hc1 hc2 hx1 hx2 hd1 hd2 hu hv hup hB HEQ
        obtain ⟨K, hK⟩ : ∃ K, (B && (!pl || (u.line == v.line && u.col == v.col))) = K := ⟨_, rfl⟩
        rw [hK] at HEN
        have HK := Lib.hid hK; clear hK
        go_upto_region 6 with fail
        go_cut [57] (fun x wc => x = .bool (!K) ∧ Below wr.heap.size wr wc)
        case first =>
          obtain ⟨T, f, hT, hf, hsur⟩ : ∃ (T : Type) (f : T → World), Nonempty T ∧ (∀ q, Below wr.heap.size wr (f q)) ∧ (∀ W, Below wr.heap.size wr W → ∃ q, W = f q) :=
            ⟨{W // Below wr.heap.size wr W}, Subtype.val, ⟨⟨wr, Below.refl _ _⟩⟩, fun q => q.2, fun W hW => ⟨⟨W, hW⟩, rfl⟩⟩
          haveI := hT
          have HF := Lib.hid hf
          have HSU := Lib.hid hsur
          have h0 := hsur _ (Below.refl wr.heap.size wr).drew
          have HAQ := Lib.hid (fun q => (HAL.out (f q) (HF.out q)).mono fun e w' hh => (⟨hh.1, HSU.out w' ((HF.out q).trans (hh.2.mono (HF.out q).size))⟩ : e = Ending.returned (.bool B) ∧ ∃ q', w' = f q'))
          have a0 := fun q => (HSR.out (f q) (HF.out q)).1
          have a1 := fun q => (HSR.out (f q) (HF.out q)).2.1
          have a2 := fun q => (HSR.out (f q) (HF.out q)).2.2.1
          have a3 := fun q => (HSR.out (f q) (HF.out q)).2.2.2.1
          have a4 := fun q => (HSR.out (f q) (HF.out q)).2.2.2.2.1
          have a5 := fun q => (HSR.out (f q) (HF.out q)).2.2.2.2.2.1
          have a6 := fun q => (HSR.out (f q) (HF.out q)).2.2.2.2.2.2.1
          have a7 := fun q => (HSR.out (f q) (HF.out q)).2.2.2.2.2.2.2.1
          have a8 := fun q => (HSR.out (f q) (HF.out q)).2.2.2.2.2.2.2.2.1
          have a9 := fun q => (HSR.out (f q) (HF.out q)).2.2.2.2.2.2.2.2.2.1
          have H0 := Lib.hid h0
          clear hf hsur h0 u0 u1 u2 u3 u4 v0 v1 v2 v3 v4
          cases B
          · have HE : RowKit.Hid (K = false) := by show _ = _; rw [← HK.out]; rfl
            clear HK
            refine wp_region_grown f (by kernel_rfl) (by kernel_rfl) H0.out ?_
            repeat (go_big_quiet_step (exact HAQ.out _))
            refine wpQuiet_nil ?_
            rintro wz ⟨qz, rfl⟩
            go_wp2_with fail
            go_meet
            exact ⟨by rw [HE.out]; rfl, HF.out _⟩
          · cases pl
            · have HE : RowKit.Hid (K = true) := by show _ = _; rw [← HK.out]; rfl
              clear HK
              refine wp_region_grown f (by kernel_rfl) (by kernel_rfl) H0.out ?_
              repeat (go_big_quiet_step (exact HAQ.out _))
              refine wpQuiet_nil ?_
              rintro wz ⟨qz, rfl⟩
              go_wp2_with fail
              go_meet
              exact ⟨by rw [HE.out]; rfl, HF.out _⟩
            · have HK2 : RowKit.Hid ((u.line == v.line && u.col == v.col) = K) := HK.out
              clear HK
              by_cases hl : u.line = v.line
              · have b1 : (u.line != v.line) = false := by rw [bne_eq_false_iff_eq]; exact hl
                have HE : RowKit.Hid ((u.col != v.col) = !K) := by
                  show _ = _
                  rw [← HK2.out, show (u.line == v.line) = true by rw [beq_iff_eq]; exact hl]
                  rfl
                clear HK2 hl
                refine wp_region_grown f (by kernel_rfl) (by kernel_rfl) H0.out ?_
                repeat (go_big_quiet_step (exact HAQ.out _))
                refine wpQuiet_nil ?_
                rintro wz ⟨qz, rfl⟩
                go_wp2_with fail
                go_meet
                exact ⟨by rw [HE.out], HF.out _⟩
              · have b1 : (u.line != v.line) = true := by rw [bne_iff_ne]; exact hl
                have HE : RowKit.Hid (K = false) := by
                  show _ = _
                  rw [← HK2.out, show (u.line == v.line) = false by rw [beq_eq_false_iff_ne]; exact hl]; rfl
                clear HK2 hl
                refine wp_region_grown f (by kernel_rfl) (by kernel_rfl) H0.out ?_
                repeat (go_big_quiet_step (exact HAQ.out _))
                refine wpQuiet_nil ?_
                rintro wz ⟨qz, rfl⟩
                go_wp2_with fail
                go_meet
                exact ⟨by rw [HE.out]; rfl, HF.out _⟩
        case rest =>
          obtain ⟨rfl, hbx⟩ := hcut
          have HBX := Lib.hid (HB.out.trans (hbx.mono HB.out.size))
          clear hbx
          cases K
          · have HE : RowKit.Hid (R = false) := by show _ = _; rw [HEN.out]; rfl
            go_wp2_with fail
            go_ret
            exact ⟨by rw [HE.out]; rfl, HBX.out⟩
          · have HE : RowKit.Hid (R = sameL pl (la.drop (k + 1)) (lb.drop (k + 1))) := by show _ = _; rw [HEN.out]; rfl
            clear HEN
            go_wp2_with fail
            go_roundw
            case rel => exact ⟨k + 1, by go_num, by omega, HBX.out, HE.out⟩
            case measure => simp [intOf]; omega
      · have hki : decide ((k : Int) < (la.length : Int)) = false := by simp; omega
        have HE : RowKit.Hid (R = true) := by
          show _ = _
          rw [HEQ.out, List.drop_of_length_le (by omega), List.drop_of_length_le (by have := HL.out; omega)]; rfl
        go_wp2_with fail
        go_ret
        exact ⟨by rw [HE.out]; rfl, HB.out⟩
  · have b3 : ((la.length : Int) != lb.length) = true := by rw [bne_iff_ne]; omega
    have HE : RowKit.Hid (R = false) := by
      show _ = _
      rw [← HR.out]
      cases h : sameL pl la lb
      · rfl
      · exact absurd (sameL_len pl la lb h) hl
    clear hl
    go_wp2_with fail
    go_ret
    exact ⟨by rw [HE.out]; rfl, Below.refl _ _⟩

end Go.Proofs.YtcogfalhodjmfaaGreatDoor
