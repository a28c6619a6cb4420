/- Part of the proof. Conditions: those of each theorem. -/
import Derived.BigQuiet
import Derived.Deep.Slices
import Derived.SliceStrings
import Derived.Test.YtbchkldhnjahaaaGreatDoorTie
import Derived.Test.YtbchkldhnjahaaaGreatDoorCards
import Derived.SevenTiedAt
import Derived.Deep.DeepHandedRow
import Derived.Deep.DeepWitnessRowRef
import Derived.Test.YtbchkldhnjahaaaGreatDoorPoa
import Derived.Test.YtbchkldhnjahaaaGreatDoorPof
import Derived.Test.YtbchkldhnjahaaaGreatDoorPoh
import Derived.Test.YtbchkldhnjahaaaGreatDoorPoi
import Derived.Test.YtbchkldhnjahaaaGreatDoorPov
set_option maxRecDepth 100000
set_option maxHeartbeats 40000000
namespace Go.Proofs.YtbchkldhnjahaaaGreatDoor
open Go.RowKit Kiln
open Go.Proofs
def uo (u v : Kiln.Tok) : Bool := u.kind == v.kind && u.text == v.text && u.path == v.path
def qm (pl : Bool) : List Kiln.Tok → List Kiln.Tok → Bool
 | [], [] => true
 | u :: l, v :: m => uo u v && (!pl || (u.line == v.line && u.col == v.col)) && qm pl l m
 | _, _ => false
theorem alike_refl (u : Kiln.Tok) : uo u u = true := by simp [uo]
theorem sw (pl : Bool) : ∀ l, qm pl l l = true
 | [] => rfl
 | u :: l => by simp only [qm, alike_refl, sw pl l]; simp
theorem Ly {w : World} {v : Value} {pa : List Bytes} (h : Strs w v pa) {k : Nat} {x : Bytes} (hk : pa[k]? = some x) : ∃ b off cap, v = .slice (some ⟨b, off, none⟩) pa.length cap ∧ w.cell? ⟨b, off + k, none⟩ = some (str x) := by
 obtain ⟨a, cap, rfl, _, hl⟩ := h;obtain ⟨b, off, rfl, hx⟩ := hl (by rintro rfl; simp at hk);exact ⟨b, off, cap, rfl, hx k x hk⟩
theorem Ls (u v : Kiln.Tok) (pv1 pv2 : Value) (w : World) (h1 : Strs w pv1 u.path) (h2 : Strs w pv2 v.path) (hp : u.path.length ≤ 1099511627776) :
 Calls Tryz.prog 33 #[Nh u.kind u.text pv1 u.line u.col, Nh v.kind v.text pv2 v.line v.col] w fun e w' => e = .returned (.bool (uo u v)) ∧ Below w.heap.size w w' := by
 obtain ⟨k1, t1, p1, l1, c1⟩ := u;obtain ⟨k2, t2, p2, l2, c2⟩ := v;simp only [] at h1 h2 hp ⊢;obtain ⟨R, hR⟩ : ∃ R, uo ⟨k1, t1, p1, l1, c1⟩ ⟨k2, t2, p2, l2, c2⟩ = R := ⟨_, rfl⟩;rw [hR];have HR : RowKit.Hid ((k1 == k2 && t1 == t2 && p1 == p2) = R) := hR;clear hR;have hs1 := h1;have hs2 := h2;obtain ⟨a1, cap1, rfl, _, _⟩ := h1;obtain ⟨a2, cap2, rfl, _, _⟩ := h2;have hB := ((ξf _ w).alloc (ξF _) (.cells #[.int .i64 k1, str t1, .slice a1 p1.length cap1, .int .i64 l1, .int .i64 c1] 32)).alloc (by simp) (.cells #[.int .i64 k2, str t2, .slice a2 p2.length cap2, .int .i64 l2, .int .i64 c2] 32);have HS1 := κ (hs1.below hB);have HS2 := κ (hs2.below hB);have HB := κ hB;clear hs1 hs2 hB;go_enter Tryz.func33, Tryz.ntmps33;go_upto_region 1 with fail;obtain ⟨W, hW⟩ : ∃ W, (w.alloc (.cells #[.int .i64 k1, str t1, .slice a1 p1.length cap1, .int .i64 l1, .int .i64 c1] 32)).alloc (.cells #[.int .i64 k2, str t2, .slice a2 p2.length cap2, .int .i64 l2, .int .i64 c2] 32) = W := ⟨_, rfl⟩;have x0 : W.cell? ⟨w.heap.size, 0, none⟩ = some (.int .i64 k1) := by rw [← hW]; simp
 have x1 : W.cell? ⟨w.heap.size, 1, none⟩ = some (str t1) := by rw [← hW]; simp
 have x2 : W.cell? ⟨w.heap.size, 2, none⟩ = some (.slice a1 p1.length cap1) := by rw [← hW]; simp
 have y0 : W.cell? ⟨w.heap.size + 1, 0, none⟩ = some (.int .i64 k2) := by rw [← hW]; simp
 have y1 : W.cell? ⟨w.heap.size + 1, 1, none⟩ = some (str t2) := by rw [← hW]; simp
 have y2 : W.cell? ⟨w.heap.size + 1, 2, none⟩ = some (.slice a2 p2.length cap2) := by rw [← hW]; simp
 rw [hW] at HS1 HS2 HB ⊢;clear hW;by_cases hk : k1 = k2
 · have b1 : (k1 != k2) = false := by rw [bne_eq_false_iff_eq]; exact hk
   have HR2 : RowKit.Hid ((t1 == t2 && p1 == p2) = R) := by show _ = _; rw [← HR.out, show (k1 == k2) = true by rw [ξZ]; exact hk]; rfl
   clear hk HR;by_cases ht : t1 = t2
   · have HR3 : RowKit.Hid ((p1 == p2) = R) := by show _ = _; rw [← HR2.out, show (t1 == t2) = true by rw [ξZ]; exact ht]; rfl
     by_cases hl : p1.length = p2.length
     · have b3 : ((p1.length : Int) != p2.length) = false := by rw [bne_eq_false_iff_eq]; omega
       have HL := κ hl;clear hl;go_wp2_with fail;clear b1 b3 ht;go_loopw [5] (fun j wr => ∃ k m : Nat, j = .int .i64 k ∧ wr = W.drewN m ∧ k ≤ p1.length ∧ p1.take k = p2.take k) (fun j _ => p1.length - (intOf j).toNat)
       case atStart => exact ⟨0, 0, rfl, rfl, ξM _, rfl⟩
       case round =>
        obtain ⟨k, m, rfl, rfl, hk, htk⟩ := hrel;have HT := κ htk; clear htk;by_cases hlt : k < p1.length
        · have hki : (k : Int) < (p1.length : Int) := by omega
          have hlt2 : k < p2.length := by have := HL.out; omega
          have hki2 : (k : Int) < (p2.length : Int) := by omega
          obtain ⟨x, hx⟩ : ∃ x, p1[k]? = some x := ⟨p1[k], ξw hlt⟩;obtain ⟨y, hy⟩ : ∃ y, p2[k]? = some y := ⟨p2[k], ξw hlt2⟩;obtain ⟨b, off, cp, hv, hc⟩ := Ly HS1 hx;obtain ⟨b', off', cp', hv', hc'⟩ := Ly HS2 hy;simp only [ξR] at hv hv';obtain ⟨rfl, -, rfl⟩ := hv;obtain ⟨rfl, -, rfl⟩ := hv';have HX := κ hx;have HY := κ hy;clear hx hy;by_cases hxy : x = y
          · have HT2 := κ (show p1.take (k + 1) = p2.take (k + 1) by rw [List.take_add_one, List.take_add_one, HT.out, HX.out, HY.out, hxy]);go_wp2_with fail;go_quiet (fail);go_wp2_with fail;go_roundw
            case rel => exact ⟨k + 1, _, by go_num, rfl, by omega, HT2⟩
            case measure => simp [intOf]; omega
          · have HE : RowKit.Hid (R = false) := by
             show _ = _;rw [← HR3.out, ξY];intro e;have h1 := HX.out;rw [e, HY.out] at h1;simp only [ξO] at h1;exact hxy h1.symm
            have hxyb : (x == y) = false := by rw [ξY]; exact hxy
            go_wp2_with fail;go_quiet (fail);go_wp2_with fail;go_ret;exact ⟨by rw [HE.out]; rfl, below_drewN (below_drewN HB.out _) _⟩
        · have hki : decide ((k : Int) < (p1.length : Int)) = false := by simp; omega
          have HE : RowKit.Hid (R = true) := by
           show _ = _;rw [← HR3.out, ξZ];have := HT.out;rwa [List.take_of_length_le (by omega), List.take_of_length_le (by have := HL.out; omega)] at this
          go_wp2_with fail;go_ret;exact ⟨by rw [HE.out]; rfl, below_drewN HB.out _⟩
     · have b3 : ((p1.length : Int) != p2.length) = true := by rw [ψa]; omega
       have HE : RowKit.Hid (R = false) := by
        show _ = _;rw [← HR3.out, ξY];exact fun e => hl (by rw [e])
       clear hl;go_wp2_with fail;go_ret;exact ⟨by rw [HE.out]; rfl, HB.out⟩
   · have HE : RowKit.Hid (R = false) := by
      show _ = _;rw [← HR2.out, show (t1 == t2) = false by rw [ξY]; exact ht]; rfl
     go_wp2_with fail;go_ret;exact ⟨by rw [HE.out]; rfl, HB.out⟩
 · have b1 : (k1 != k2) = true := by rw [ψa]; exact hk
   have HE : RowKit.Hid (R = false) := by
    show _ = _;rw [← HR.out, show (k1 == k2) = false by rw [ξY]; exact hk]; rfl
   clear hk;go_wp2_with fail;go_ret;exact ⟨by rw [HE.out]; rfl, HB.out⟩
theorem u9 (pl : Bool) : ∀ (l m : List Kiln.Tok), qm pl l m = true → l.length = m.length
 | [], [], _ => rfl
 | [], _ :: _, h => by simp [qm] at h
 | _ :: _, [], h => by simp [qm] at h
 | u :: l, v :: m, h => by
  simp only [qm, ξg] at h;simp only [ξ2, u9 pl l m h.2]
theorem Rp {p : Prop} (h : p := by
 refine kY f (by kernel_rfl) (by kernel_rfl) H0 ?_;repeat (go_big_quiet_step (exact HAQ _))
 refine wpQuiet_nil ?_;rintro wz ⟨qz, rfl⟩;go_wp2_with fail;go_meet
 exact ⟨by rw [HE.out]; rfl, HF.out _⟩
 ) : p := h
theorem Np (pl : Bool) (la lb : List Kiln.Tok) (va vb : Value) (w : World) (ha : TkS w va la) (hb : TkS w vb lb) (hp : ∀ u ∈ la, u.path.length ≤ 1099511627776) (hn : la.length ≤ 1099511627776) :
 Calls Tryz.prog 13 #[va, vb, .bool pl] w fun e w' => e = .returned (.bool (qm pl la lb)) ∧ Below w.heap.size w w' := by
 obtain ⟨a1, cap1, rfl, hl1⟩ := ha;obtain ⟨a2, cap2, rfl, hl2⟩ := hb;have HL1 := κ hl1;have HL2 := κ hl2;have HP := κ hp;clear hl1 hl2 hp;obtain ⟨R, hR⟩ : ∃ R, qm pl la lb = R := ⟨_, rfl⟩;rw [hR];have HR := κ hR; clear hR;go_enter Tryz.func13, Tryz.ntmps13;by_cases hl : la.length = lb.length
 · have b3 : ((la.length : Int) != lb.length) = false := by rw [bne_eq_false_iff_eq]; omega
   have HL := κ hl;clear hl;go_wp2_with fail;clear b3;go_loopw [7] (fun j wr => ∃ k : Nat, j = .int .i64 k ∧ k ≤ la.length ∧ Below w.heap.size w wr ∧ R = qm pl (la.drop k) (lb.drop k)) (fun j _ => la.length - (intOf j).toNat)
   case atStart => exact ⟨0, rfl, ξM _, ξf _ _, HR.symm⟩
   case round =>
    obtain ⟨k, rfl, hk, hbe, heq⟩ := hrel;have HB := κ hbe;have HEQ := κ heq;clear hbe heq;by_cases hlt : k < la.length
    · have hki : (k : Int) < (la.length : Int) := by omega
      have hlt2 : k < lb.length := by have := HL.out; omega
      have hki2 : (k : Int) < (lb.length : Int) := by omega
      obtain ⟨u, hu⟩ : ∃ u, la[k]? = some u := ⟨la[k], ξw hlt⟩;obtain ⟨v, hv⟩ : ∃ v, lb[k]? = some v := ⟨lb[k], ξw hlt2⟩;obtain ⟨b1, o1, rfl, hx1⟩ := HL1.out (by rintro rfl; simp at hlt);obtain ⟨b2, o2, rfl, hx2⟩ := HL2.out (by rintro rfl; simp at hlt2);obtain ⟨pv1, hs1, hc1⟩ := hx1 k u hu;obtain ⟨pv2, hs2, hc2⟩ := hx2 k v hv;obtain ⟨q1, e1, rfl, _⟩ := id hs1;obtain ⟨q2, e2, rfl, _⟩ := id hs2;have hd1 : la.drop k = u :: la.drop (k + 1) := by
       rw [ξw hlt] at hu;simp only [ξO] at hu;rw [ξp hlt, hu]
      have hd2 : lb.drop k = v :: lb.drop (k + 1) := by
       rw [ξw hlt2] at hv;simp only [ξO] at hv;rw [ξp hlt2, hv]
      have hup := HP.out u (ξB hu);obtain ⟨B, hB⟩ : ∃ B, uo u v = B := ⟨_, rfl⟩;have HEN : RowKit.Hid (R = (B && (!pl || (u.line == v.line && u.col == v.col)) && qm pl (la.drop (k + 1)) (lb.drop (k + 1)))) := by
       show _ = _;rw [HEQ.out, hd1, hd2, ← hB]; rfl
      have HAL := κ (fun W (hb : Below wr.heap.size wr W) => hB ▸ Ls u v (.slice q1 u.path.length e1) (.slice q2 v.path.length e2) W ((hs1.below HB.out).below hb) ((hs2.below HB.out).below hb) hup);have g1 : ∀ (j : Nat) x q, (fV u (.slice q1 u.path.length e1))[j]? = some x → q = o1 + (5 * k + j) → wr.cell? ⟨b1, q, none⟩ = some x := fun j x q hj hq => by
       subst hq; exact cell_later HB.out (hc1 j x hj)
      have g2 : ∀ (j : Nat) x q, (fV v (.slice q2 v.path.length e2))[j]? = some x → q = o2 + (5 * k + j) → wr.cell? ⟨b2, q, none⟩ = some x := fun j x q hj hq => by
       subst hq; exact cell_later HB.out (hc2 j x hj)
      have u0 : wr.cell? ⟨b1, o1 + k * 5, none⟩ = some (.int .i64 u.kind) := g1 0 _ _ rfl (by omega);have u1 : wr.cell? ⟨b1, o1 + k * 5 + 1, none⟩ = some (str u.text) := g1 1 _ _ rfl (by omega);have u2 : wr.cell? ⟨b1, o1 + k * 5 + 2, none⟩ = some (.slice q1 u.path.length e1) := g1 2 _ _ rfl (by omega);have u3 : wr.cell? ⟨b1, o1 + k * 5 + 3, none⟩ = some (.int .i64 u.line) := g1 3 _ _ rfl (by omega);have u4 : wr.cell? ⟨b1, o1 + k * 5 + 4, none⟩ = some (.int .i64 u.col) := g1 4 _ _ rfl (by omega);have v0 : wr.cell? ⟨b2, o2 + k * 5, none⟩ = some (.int .i64 v.kind) := g2 0 _ _ rfl (by omega);have v1 : wr.cell? ⟨b2, o2 + k * 5 + 1, none⟩ = some (str v.text) := g2 1 _ _ rfl (by omega);have v2 : wr.cell? ⟨b2, o2 + k * 5 + 2, none⟩ = some (.slice q2 v.path.length e2) := g2 2 _ _ rfl (by omega);have v3 : wr.cell? ⟨b2, o2 + k * 5 + 3, none⟩ = some (.int .i64 v.line) := g2 3 _ _ rfl (by omega);have v4 : wr.cell? ⟨b2, o2 + k * 5 + 4, none⟩ = some (.int .i64 v.col) := g2 4 _ _ rfl (by omega);have HSR := κ (fun W (hb : Below wr.heap.size wr W) => (⟨cell_later hb u0, cell_later hb u1, cell_later hb u2, cell_later hb u3, cell_later hb u4, cell_later hb v0, cell_later hb v1, cell_later hb v2, cell_later hb v3, cell_later hb v4, hb⟩ :
       W.cell? ⟨b1, o1 + k * 5, none⟩ = some (.int .i64 u.kind) ∧ W.cell? ⟨b1, o1 + k * 5 + 1, none⟩ = some (str u.text) ∧ W.cell? ⟨b1, o1 + k * 5 + 2, none⟩ = some (.slice q1 u.path.length e1) ∧ W.cell? ⟨b1, o1 + k * 5 + 3, none⟩ = some (.int .i64 u.line) ∧ W.cell? ⟨b1, o1 + k * 5 + 4, none⟩ = some (.int .i64 u.col) ∧
       W.cell? ⟨b2, o2 + k * 5, none⟩ = some (.int .i64 v.kind) ∧ W.cell? ⟨b2, o2 + k * 5 + 1, none⟩ = some (str v.text) ∧ W.cell? ⟨b2, o2 + k * 5 + 2, none⟩ = some (.slice q2 v.path.length e2) ∧ W.cell? ⟨b2, o2 + k * 5 + 3, none⟩ = some (.int .i64 v.line) ∧ W.cell? ⟨b2, o2 + k * 5 + 4, none⟩ = some (.int .i64 v.col) ∧ Below wr.heap.size wr W))
      clear g1 g2 hs1 hs2 hc1 hc2 hx1 hx2 hd1 hd2 hu hv hup hB HEQ;obtain ⟨K, hK⟩ : ∃ K, (B && (!pl || (u.line == v.line && u.col == v.col))) = K := ⟨_, rfl⟩;rw [hK] at HEN;have HK := κ hK; clear hK;go_upto_region 6 with fail;go_cut [57] (fun x wc => x = .bool (!K) ∧ Below wr.heap.size wr wc)
      case first =>
       obtain ⟨T, f, hT, hf, hsur⟩ : ∃ (T : Type) (f : T → World), Nonempty T ∧ (∀ q, Below wr.heap.size wr (f q)) ∧ (∀ W, Below wr.heap.size wr W → ∃ q, W = f q) :=
        ⟨{W // Below wr.heap.size wr W}, Subtype.val, ⟨⟨wr, ξf _ _⟩⟩, fun q => q.2, fun W hW => ⟨⟨W, hW⟩, rfl⟩⟩
       haveI := hT
       have HF := κ hf;have HSU := κ hsur;have h0 := hsur _ (ξf wr.heap.size wr).drew;have HAQ := κ (fun q => (HAL (f q) (HF q)).mono fun e w' hh => (⟨hh.1, HSU w' ((HF q).trans (hh.2.mono (HF q).size))⟩ : e = Ending.returned (.bool B) ∧ ∃ q', w' = f q'));have a0 := fun q => (HSR (f q) (HF q)).1;have a1 := fun q => (HSR (f q) (HF q)).2.1;have a2 := fun q => (HSR (f q) (HF q)).2.2.1;have a3 := fun q => (HSR (f q) (HF q)).2.2.2.1;have a4 := fun q => (HSR (f q) (HF q)).2.2.2.2.1;have a5 := fun q => (HSR (f q) (HF q)).2.2.2.2.2.1;have a6 := fun q => (HSR (f q) (HF q)).2.2.2.2.2.2.1;have a7 := fun q => (HSR (f q) (HF q)).2.2.2.2.2.2.2.1;have a8 := fun q => (HSR (f q) (HF q)).2.2.2.2.2.2.2.2.1;have a9 := fun q => (HSR (f q) (HF q)).2.2.2.2.2.2.2.2.2.1;have H0 := κ h0;clear hf hsur h0 u0 u1 u2 u3 u4 v0 v1 v2 v3 v4;cases B
       · have HE : RowKit.Hid (K = false) := by show _ = _; rw [← HK.out]; rfl
         exact Rp
       · cases pl
         · have HE : RowKit.Hid (K = true) := by show _ = _; rw [← HK.out]; rfl
           exact Rp
         · have HK2 : RowKit.Hid ((u.line == v.line && u.col == v.col) = K) := HK.out;by_cases hl : u.line = v.line
           · have b1 : (u.line != v.line) = false := by rw [bne_eq_false_iff_eq]; exact hl
             have HE : RowKit.Hid ((u.col != v.col) = !K) := by
              show _ = _;rw [← HK2.out, show (u.line == v.line) = true by rw [ξZ]; exact hl];rfl
             clear HK2 hl;refine kY f (by kernel_rfl) (by kernel_rfl) H0 ?_;repeat (go_big_quiet_step (exact HAQ _))
             refine wpQuiet_nil ?_;rintro wz ⟨qz, rfl⟩;go_wp2_with fail;go_meet
             exact ⟨by rw [HE.out], HF.out _⟩
           · have b1 : (u.line != v.line) = true := by rw [ψa]; exact hl
             have HE : RowKit.Hid (K = false) := by
              show _ = _;rw [← HK2.out, show (u.line == v.line) = false by rw [ξY]; exact hl]; rfl
             clear HK2 hl;exact Rp
      case rest =>
       obtain ⟨rfl, hbx⟩ := hcut;have HBX := κ (HB.trans (hbx.mono HB.size));clear hbx;cases K
       · have HE : RowKit.Hid (R = false) := by show _ = _; rw [HEN.out]; rfl
         go_wp2_with fail;go_ret;exact ⟨by rw [HE.out]; rfl, HBX.out⟩
       · have HE : RowKit.Hid (R = qm pl (la.drop (k + 1)) (lb.drop (k + 1))) := by show _ = _; rw [HEN.out]; rfl
         go_wp2_with fail;go_roundw
         case rel => exact ⟨k + 1, by go_num, by omega, HBX, HE⟩
         case measure => simp [intOf]; omega
    · have hki : decide ((k : Int) < (la.length : Int)) = false := by simp; omega
      have HE : RowKit.Hid (R = true) := by
       show _ = _;rw [HEQ.out, List.drop_of_length_le (by omega), List.drop_of_length_le (by have := HL.out; omega)]; rfl
      go_wp2_with fail;go_ret;exact ⟨by rw [HE.out]; rfl, HB.out⟩
 · have b3 : ((la.length : Int) != lb.length) = true := by rw [ψa]; omega
   have HE : RowKit.Hid (R = false) := by
    show _ = _;rw [← HR.out];cases h : qm pl la lb
    · rfl
    · exact absurd (u9 pl la lb h) hl
   clear hl;go_wp2_with fail;go_ret;exact ⟨by rw [HE.out]; rfl, ξf _ _⟩
end Go.Proofs.YtbchkldhnjahaaaGreatDoor
namespace Go.Proofs.YtbchkldhnjahaaaGreatDoor
open Go Go.ChangeShapes Go.WideShapes Go.RowKit Kiln
section
variable {H : Type} {enc : TypeId × Value → H} {W : World} {sp : Nat → Bool} {held : Bool}
theorem addr_add (b off n : Nat) : (⟨b, off, none⟩ : Addr).add n = ⟨b, off + n, none⟩ := by
 unfold Addr.add;split
 · rename_i h; simp_all
 · simp
theorem LJ {H : Type} (d : DataW H) : 1 ≤ Rows.uptoBulk d := by
 cases d with
 | lit l => cases l <;> simp [Rows.uptoBulk]
 | nil => simp [Rows.uptoBulk]
 | ptr d => simp [Rows.uptoBulk]
 | slice elems spare => simp [Rows.uptoBulk]
 | agg parts => simp [Rows.uptoBulk]
 | iface t d => simp [Rows.uptoBulk]
 | map entries => simp [Rows.uptoBulk]
 | held h => simp [Rows.uptoBulk]
theorem NJ {H : Type} {d : DataW H} {l : List (DataW H)} (h : d ∈ l) : Rows.uptoBulk d ≤ Rows.uptoBulkAll l := by
 induction l with
 | nil => cases h
 | cons x r ih =>
  simp only [Rows.uptoBulkAll];cases List.mem_cons.1 h with
  | inl e => subst e; omega
  | inr e => have := ih e; omega
theorem QO {H : Type} (l : List (DataW H)) : l.length ≤ Rows.uptoBulkAll l := by
 induction l with
 | nil => simp [Rows.uptoBulkAll]
 | cons x r ih => have := LJ x; simp only [Rows.uptoBulkAll, ξ2]; omega
theorem NI {H : Type} (ss : List ByteArray) : Rows.uptoBulkAll (strs ss : List (DataW H)) = tX (ss.map fun s => s.data.toList) + ss.length := by
 induction ss with
 | nil => simp [strs, Rows.uptoBulkAll, tX]
 | cons s ss ih =>
  simp only [strs, List.map_cons, Rows.uptoBulkAll, Rows.uptoBulk, tX, List.sum_cons, ξ2] at ih ⊢;omega
theorem vo {v : Value} {fuel : Nat} {y : DataW H × List MemPlace} (h : DataW.trod enc Tryz.prog W 0 sp held fuel 30 [v] = some y) : ∃ pa : List Bytes, Strs W v pa ∧ tX pa + pa.length ≤ Rows.uptoBulk y.1 := by
 rcases open_strings Tryz.underlying30 Tryz.underlying9 Ik h with ⟨hcs, hx⟩ | ⟨a, len, cap, ss, hcs, _, hl, _, hz, hx, hcell, _⟩
 · simp only [List.cons.injEq, and_true] at hcs;subst hcs;exact ⟨[], Strs.nil W, by have := LJ y.1; simp [tX]⟩
 · simp only [List.cons.injEq, and_true] at hcs;subst hcs;have hle : len ≤ ss.length := by rw [hz]; split <;> omega
   have hpl : ((ss.take len).map fun s => s.data.toList).length = len := by rw [ξ4, ξ7, ξK hle]
   refine ⟨(ss.take len).map fun s => s.data.toList, ⟨some a, cap, by rw [hpl], by rw [hpl]; exact hl, fun hne => ?_⟩, ?_⟩
   · have hl0 : 0 < len := by
      rw [← hpl];cases h : (ss.take len).map fun s => s.data.toList with
      | nil => exact absurd h hne
      | cons x l => simp
     obtain ⟨b, off, spot⟩ := a;have hspot : spot = none := by simpa [Addr.add] using World.cell?_spot (hcell 0 (by omega))
     subst hspot;refine ⟨b, off, rfl, fun i x hi => ?_⟩;rw [ξ0, ξN] at hi;obtain ⟨s, hs, rfl⟩ := hi;have hil : i < len := by
      have := (ξz.1 hs).1;rw [ξ7] at this; omega
     have hc := hcell i (by omega);rw [addr_add] at hc;rw [hc, str, Lib.mk_data];rw [List.getElem?_take_of_lt hil] at hs;rw [ξr, hs]; rfl
   · subst hx;simp only [Rows.uptoBulk];rw [NI, hpl, ξ7, ξK hle];omega
def mq (u : Kiln.Tok) : Nat := u.text.length + tX u.path + u.path.length
theorem Sk : Tryz.prog.cellsOf 29 = 1 := by kernel_rfl
theorem Sj : Tryz.prog.cellsOf 30 = 1 := by kernel_rfl
theorem cells3 : Tryz.prog.cellsOf 3 = 1 := by kernel_rfl
theorem cells5 : Tryz.prog.cellsOf 32 = 5 := by kernel_rfl
theorem G0 {cs : List Value} {fuel : Nat} {y : DataW H × List MemPlace} (h : DataW.trod enc Tryz.prog W 0 sp held fuel 32 cs = some y) : ∃ (u : Kiln.Tok) (pv : Value), cs = fV u pv ∧ Strs W pv u.path ∧ mq u ≤ Rows.uptoBulk y.1 := by
 obtain ⟨xs, n, _, rfl, hlen, hxl, hf⟩ := DataW.trod_struct Tryz.underlying32 h;rw [cells5] at hlen;have hxl : xs.length = 5 := hxl;match cs, hlen, xs, hxl, hf with
 | [c0, c1, c2, c3, c4], _, [x0, x1, x2, x3, x4], _, hf =>
  have f0 : DataW.trod enc Tryz.prog W 0 sp held n 29 (([c0, c1, c2, c3, c4].drop 0).take (Tryz.prog.cellsOf 29)) = some x0 := hf 0 _ rfl;rw [Sk] at f0;replace f0 : DataW.trod enc Tryz.prog W 0 sp held n 29 [c0] = some x0 := f0;have f1 : DataW.trod enc Tryz.prog W 0 sp held n 9 (([c0, c1, c2, c3, c4].drop 1).take (Tryz.prog.cellsOf 9)) = some x1 := hf 1 _ rfl;rw [Ik] at f1;replace f1 : DataW.trod enc Tryz.prog W 0 sp held n 9 [c1] = some x1 := f1;have f2 : DataW.trod enc Tryz.prog W 0 sp held n 30 (([c0, c1, c2, c3, c4].drop 2).take (Tryz.prog.cellsOf 30)) = some x2 := hf 2 _ rfl;rw [Sj] at f2;replace f2 : DataW.trod enc Tryz.prog W 0 sp held n 30 [c2] = some x2 := f2;have f3 : DataW.trod enc Tryz.prog W 0 sp held n 3 (([c0, c1, c2, c3, c4].drop 3).take (Tryz.prog.cellsOf 3)) = some x3 := hf 3 _ rfl;rw [cells3] at f3;replace f3 : DataW.trod enc Tryz.prog W 0 sp held n 3 [c3] = some x3 := f3;have f4 : DataW.trod enc Tryz.prog W 0 sp held n 3 (([c0, c1, c2, c3, c4].drop 4).take (Tryz.prog.cellsOf 3)) = some x4 := hf 4 _ rfl;rw [cells3] at f4;replace f4 : DataW.trod enc Tryz.prog W 0 sp held n 3 [c4] = some x4 := f4;obtain ⟨k, e0, rfl, _⟩ := DataW.trod_int Tryz.underlying29 f0;obtain ⟨s, e1, rfl, _⟩ := DataW.trod_string Tryz.underlying9 f1;obtain ⟨pa, hs, hb⟩ := vo f2;obtain ⟨ln, e3, rfl, _⟩ := DataW.trod_int Tryz.underlying3 f3;obtain ⟨col, e4, rfl, _⟩ := DataW.trod_int Tryz.underlying3 f4;simp only [List.cons.injEq, and_true] at e0 e1 e3 e4;subst e0; subst e1; subst e3; subst e4;refine ⟨⟨k, s.data.toList, pa, ln, col⟩, c2, ?_, hs, ?_⟩
  · simp only [fV, str, Lib.mk_data]
  · simp only [mq, List.map_cons, List.map_nil, Rows.uptoBulk, Rows.uptoBulkAll];omega
instance : Inhabited Kiln.Tok := ⟨⟨0, [], [], 0, 0⟩⟩
theorem u6 {v : Value} {d : DataW H} {ps : List MemPlace} (h : DataW.Trod enc Tryz.prog W 0 sp held 22 v d ps) (hv : ∃ a len cap, v = .slice a len cap) :
 ∃ l : List Kiln.Tok, TkS W v l ∧ (∀ u ∈ l, mq u ≤ Rows.uptoBulk d) ∧ l.length ≤ Rows.uptoBulk d := by
 obtain ⟨a0, len0, cap0, rfl⟩ := hv;obtain ⟨fuel, hf⟩ := h;rcases Go.Deep.open_slice Tryz.underlying22 hf with ⟨hcs, hx⟩ | ⟨a, len, cap, m, n, D, Pl, hcs, _, hl, _, hm, hx, hel⟩
 · simp only [Value.cells, List.cons.injEq, and_true] at hcs;rw [hcs];exact ⟨[], ⟨none, 0, rfl, fun h => absurd rfl h⟩, by simp, by simp⟩
 · simp only [Value.cells, List.cons.injEq, and_true] at hcs;rw [hcs];have hlm : len ≤ m := by rw [hm]; split <;> omega
   rw [cells5] at hel;have each : ∀ i, i < len → ∃ u : Kiln.Tok, (∃ pv, Strs W pv u.path ∧ ∀ (j : Nat) x, (fV u pv)[j]? = some x → W.cell? (a.add (i * 5 + j)) = some x) ∧ mq u ≤ Rows.uptoBulk (D i) := by
    intro i hi;obtain ⟨cs', hc, ht⟩ := hel i (by omega);obtain ⟨u, pv, rfl, hs, hb⟩ := G0 ht;obtain ⟨_, _, hc⟩ := World.cells?_some hc;refine ⟨u, ⟨pv, hs, fun j x hj => ?_⟩, hb⟩;have hj5 : j < 5 := by
     have := (ξz.1 hj).1;simpa [fV] using this
    have := hc j hj5;rw [hj, Go.Deep.add_add] at this;exact this
   obtain ⟨f, hfu⟩ := Go.Deep.choose_lt each;have hd : d = .slice ((List.range len).map D) ((List.range (m - len)).map fun j => D (len + j)) := by
    have := congrArg Prod.fst hx;exact this
   have hbulk : ∀ i, i < len → Rows.uptoBulk (D i) ≤ Rows.uptoBulk d := fun i hi => by
    rw [hd];simp only [Rows.uptoBulk];have := NJ (d := D i) (l := (List.range len).map D) (List.mem_map.2 ⟨i, List.mem_range.2 hi, rfl⟩);omega
   have hl2 : ((List.range len).map f).length = len := by simp
   refine ⟨(List.range len).map f, ⟨some a, cap, by rw [hl2], fun hne => ?_⟩, fun u hu => ?_, ?_⟩
   · have h0 : 0 < len := by
      rw [← hl2];cases h : (List.range len).map f with
      | nil => exact absurd h hne
      | cons x l => simp
     obtain ⟨b, off, spot⟩ := a;obtain ⟨⟨pv, hs, hc⟩, _⟩ := hfu 0 h0;have hspot : spot = none := by simpa [Addr.add] using World.cell?_spot (hc 0 _ rfl)
     subst hspot;refine ⟨b, off, rfl, fun i u hi => ?_⟩;rw [ξ0, ξN] at hi;obtain ⟨i', hi', rfl⟩ := hi;have hil : i < len := by
      have := (ξz.1 hi').1;simpa using this
     rw [List.getElem?_range hil] at hi';simp only [ξO] at hi';subst hi';obtain ⟨⟨pv, hs, hc⟩, _⟩ := hfu i hil;refine ⟨pv, hs, fun j x hj => ?_⟩;have := hc j x hj;rw [addr_add] at this;rw [show off + (5 * i + j) = off + (i * 5 + j) by omega];exact this
   · rw [List.mem_map] at hu;obtain ⟨i, hi, rfl⟩ := hu;rw [List.mem_range] at hi;exact ξG (hfu i hi).2 (hbulk i hi)
   · rw [hl2, hd];simp only [Rows.uptoBulk];have := QO ((List.range len).map D);simp only [ξ4, List.length_range] at this;omega
theorem NM {u : Kiln.Tok} (h : mq u ≤ 1048576) : Fits u := by
 have hj := Bh (u.path ++ [u.text]) [46];rw [qX, ξ1] at hj;simp only [ξ2, ξ5] at hj;unfold mq at h;exact ⟨by omega, by omega, by omega⟩
end
end Go.Proofs.YtbchkldhnjahaaaGreatDoor
namespace Go.Proofs.YtbchkldhnjahaaaGreatDoor
open Go.RowKit Kiln
open Go.Proofs
theorem iN {ops : Array Oper} {rest : List Oper} {o : Oper} {a : Act} {w : World} {Q : Exit → Act → World → Prop} (hgd : o.guard = none) (s x : Operand)
 (ho : o.op = .call { callee := .builtin .append, args := #[s, x], argTypes := #[30, 30] }) (hs : a.eval s = .slice none 0 0) {pv : Value} (hx : a.eval x = pv) {l : List Bytes} (hl : Strs w pv l) (hn : l.length ≤ 1099511627776)
 (h : ∀ (ao : Option Addr) (c : Nat) w', Strs w' (.slice ao l.length c) l → w.grownBy w' none → (∀ k, (Value.slice ao l.length c).ownBlock = some k → k = w.heap.size ∧ Fz w' k) → wpList Tryz.prog ops Q rest (a.put o.dst (.slice ao l.length c)) w') : wpList Tryz.prog ops Q (o :: rest) a w :=
 wpList_plain hgd fun _ hK => by
  have := iB (ops := #[]) (Q := Q) (E := False) hgd s x ho hs hx hl hn fun ao c w' h1 h2 h3 => hK _ _ (h ao c w' h1 h2 h3);rwa [ψi (by simp [Region.wanted, hgd])] at this
def TkR (B : Nat) (w : World) (o : Option Nat) : List Kiln.Tok → List Value → Prop
 | [], xs => xs = []
 | t :: l, xs => ∃ pv ys, xs = fV t pv ++ ys ∧ Strs w pv t.path ∧ (∀ k, pv.ownBlock = some k → B ≤ k ∧ Fz w k ∧ o ≠ some k) ∧ TkR B w o l ys
theorem TkR.keep {B : Nat} {w w' : World} {o o' : Option Nat} (hk : ∀ k, B ≤ k → k < w.heap.size → o ≠ some k → w'.heap[k]? = w.heap[k]? ∧ o' ≠ some k) : ∀ {l : List Kiln.Tok} {xs : List Value}, TkR B w o l xs → TkR B w' o' l xs
 | [], _, h => h
 | _ :: _, _, ⟨pv, ys, hx, hp, hq, hr⟩ =>
  ⟨pv, ys, hx, hp.stay fun k e => (hk k (hq k e).1 (hq k e).2.1.lt (hq k e).2.2).1, fun k e => ⟨(hq k e).1, (hq k e).2.1.keep (hk k (hq k e).1 (hq k e).2.1.lt (hq k e).2.2).1, (hk k (hq k e).1 (hq k e).2.1.lt (hq k e).2.2).2⟩, TkR.keep hk hr⟩
theorem TkR.snoc {B : Nat} {w : World} {o : Option Nat} {t : Kiln.Tok} {pv : Value} (hp : Strs w pv t.path) (hq : ∀ k, pv.ownBlock = some k → B ≤ k ∧ Fz w k ∧ o ≠ some k) : ∀ {l : List Kiln.Tok} {xs : List Value}, TkR B w o l xs → TkR B w o (l ++ [t]) (xs ++ fV t pv)
 | [], _, h => by subst h; exact ⟨pv, [], by simp, hp, hq, rfl⟩
 | _ :: _, _, ⟨pv', ys, hx, hp', hq', hr⟩ => ⟨pv', ys ++ fV t pv, by rw [hx, ξo], hp', hq', TkR.snoc hp hq hr⟩
theorem TkR.at {B : Nat} {w : World} {o : Option Nat} : ∀ {l : List Kiln.Tok} {xs : List Value}, TkR B w o l xs → ∀ (i : Nat) u, l[i]? = some u → ∃ pv, Strs w pv u.path ∧ (∀ k, pv.ownBlock = some k → B ≤ k ∧ Fz w k ∧ o ≠ some k) ∧ ∀ (j : Nat) x, (fV u pv)[j]? = some x → xs[5 * i + j]? = some x
 | [], _, _, i, u, hi => by simp at hi
 | t :: l, xs, ⟨pv, ys, hx, hp, hq, hr⟩, 0, u, hi => by
  simp only [ξv, ξO] at hi;subst hi;refine ⟨pv, hp, hq, fun j x hj => ?_⟩;subst hx;rw [Nat.mul_zero, Nat.zero_add, ξs (ξz.1 hj).1]; exact hj
 | t :: l, xs, ⟨pv, ys, hx, hp, hq, hr⟩, i + 1, u, hi => by
  obtain ⟨pv', hs, hv, hc⟩ := TkR.at hr i u (by simpa using hi);refine ⟨pv', hs, hv, fun j x hj => ?_⟩;subst hx;rw [ξt (by simp [fV]; omega)];rw [show 5 * (i + 1) + j - (fV t pv).length = 5 * i + j by simp [fV]; omega];exact hc j x hj
def RwQ (B C : Nat) (w : World) (v : Value) (n S F : Nat) (len : Nat → Nat) : Prop :=
 ∃ a cap, v = .slice a n cap ∧ (0 < n → ∃ g off, a = some ⟨g, off, none⟩ ∧ B ≤ g ∧ g < C ∧ Fz w g ∧ ∀ i, i < n → (∃ x, w.cell? ⟨g, off + (S * i + 1), none⟩ = some x) ∧ ∃ ka kc, w.cell? ⟨g, off + (S * i + F), none⟩ = some (.slice ka (len i) kc) ∧
  (0 < len i → ∃ b o, ka = some ⟨b, o, none⟩ ∧ B ≤ b ∧ b < C ∧ b ≠ g ∧ Fz w b ∧ ∀ j, j < len i → ∃ x, w.cell? ⟨b, o + j, none⟩ = some x))
def lnT (l : List Kiln.Tok) (i : Nat) : Nat := (l[i]?.map fun u => u.path.length).getD 0
def lnN (l : List Nd) (i : Nat) : Nat := (l[i]?.map fun u => u.kids.length).getD 0
theorem Sg {l : List Kiln.Tok} {N : Nat} (h : ∀ u ∈ l, u.path.length ≤ N) (i : Nat) : lnT l i ≤ N := by
 unfold lnT;cases hi : l[i]? with
 | none => exact ξM _
 | some u => exact h u (ξB hi)
theorem Si {l : List Nd} {N : Nat} (h : ∀ u ∈ l, u.kids.length ≤ N) (i : Nat) : lnN l i ≤ N := by
 unfold lnN;cases hi : l[i]? with
 | none => exact ξM _
 | some u => exact h u (ξB hi)
theorem NK {B : Nat} {w : World} {v : Value} {l : List Kiln.Tok} {xs : List Value} (ho : w.ownsRow B 32 5 v l.length xs) (ht : TkR B w v.ownBlock l xs) : TkS w v l ∧ RwQ B w.heap.size w v l.length 5 2 (lnT l) := by
 rcases id ho.2 with ⟨rfl, h0⟩ | ⟨g, cap, cur, rfl, hb, hg, _⟩
 · have : l = [] := ξq h0;subst this;exact ⟨⟨none, 0, rfl, fun h => absurd rfl h⟩, ⟨none, 0, rfl, fun h => absurd h (by simp)⟩⟩
 · have hc5 : ∀ (i : Nat) u pv, (∀ (j : Nat) x, (fV u pv)[j]? = some x → xs[5 * i + j]? = some x) → ∀ (j : Nat) x, (fV u pv)[j]? = some x → w.cell? ⟨g, 0 + (5 * i + j), none⟩ = some x := fun i u pv hc j x hj => by
    have := ho.cells (g := g) rfl (5 * i + j) x (hc j x hj);rw [Nat.zero_add, ← iA]; exact this
   refine ⟨⟨_, cap, rfl, fun _ => ⟨g, 0, rfl, fun i u hi => ?_⟩⟩, ⟨_, cap, rfl, fun _ => ⟨g, 0, rfl, hb, (ξd.1 hg).1, ⟨_, _, hg⟩, fun i hi => ?_⟩⟩⟩
   · obtain ⟨pv, hs, _, hc⟩ := ht.at i u hi;exact ⟨pv, hs, hc5 i u pv hc⟩
   · obtain ⟨u, hu⟩ : ∃ u, l[i]? = some u := ⟨_, ξw hi⟩;obtain ⟨pv, hs, hq, hc⟩ := ht.at i u hu;refine ⟨⟨_, hc5 i u pv hc 1 _ rfl⟩, ?_⟩;obtain ⟨pa, pc, rfl, _, hl⟩ := id hs;unfold lnT; rw [hu];refine ⟨pa, pc, hc5 i u _ hc 2 _ rfl, fun hn => ?_⟩;have hn : 0 < u.path.length := hn;obtain ⟨b, o, rfl, hx⟩ := hl (by intro e; rw [e] at hn; simp at hn);obtain ⟨h1, h2, h3⟩ := hq b rfl;refine ⟨b, o, rfl, h1, h2.lt, fun e => h3 (by rw [e]; rfl), h2, fun j hj => ?_⟩;have hj : j < u.path.length := hj;exact ⟨_, hx j _ (ξw hj)⟩
theorem Lp {B : Nat} {w : World} {v : Value} {l : List Nd} (h : NdO B w v l) : RwQ B w.heap.size w v l.length 6 3 (lnN l) := by
 obtain ⟨U, xs, ho, ht, hm, hz⟩ := h;rcases id ho.2 with ⟨rfl, h0⟩ | ⟨g, cap, cur, rfl, hb, hg, _⟩
 · have : l = [] := ξq h0;subst this;exact ⟨none, 0, rfl, fun h => absurd h (by simp)⟩
 · refine ⟨_, cap, rfl, fun _ => ⟨g, 0, rfl, hb, (ξd.1 hg).1, ⟨_, _, hg⟩, fun i hi => ?_⟩⟩;obtain ⟨u, hu⟩ : ∃ u, l[i]? = some u := ⟨_, ξw hi⟩;obtain ⟨pv, kv, _, _, hk, ik, hc⟩ := ht.at i u hu;have hc6 : ∀ (j : Nat) x, (ji u pv kv)[j]? = some x → w.cell? ⟨g, 0 + (6 * i + j), none⟩ = some x := fun j x hj => by
    have := ho.cells (g := g) rfl (6 * i + j) x (hc j x hj);rw [Nat.zero_add, ← iA]; exact this
   refine ⟨⟨_, hc6 1 _ rfl⟩, ?_⟩;obtain ⟨ka, kc, rfl, _, _, hl⟩ := id hk;unfold lnN; rw [hu];refine ⟨ka, kc, hc6 3 _ rfl, fun hn => ?_⟩;have hn : 0 < u.kids.length := hn;obtain ⟨b, o, rfl, hx⟩ := hl (by intro e; rw [e] at hn; simp at hn);have h4 := ik b rfl;obtain ⟨h1, h2⟩ := hz b h4;refine ⟨b, o, rfl, h1, h2.lt, fun e => ?_, h2, fun j hj => ?_⟩
   · subst e;have := hm b rfl;omega
   · have hj : j < u.kids.length := hj;exact ⟨_, hx j _ (ξw hj)⟩
theorem Fz.set {w : World} {k : Nat} (h : Fz w k) (p : Addr) (x : Value) (hp : p.spot = none) : Fz (w.setCell p x) k := by
 obtain ⟨xs, T, hk⟩ := h;by_cases e : k = p.block
 · subst e;obtain ⟨b, i, s⟩ := p;obtain rfl : s = none := hp;exact ⟨_, _, ψg w b i _ _ x hk⟩
 · exact ⟨xs, T, (ψf w p k x e).trans hk⟩
theorem Fz.frozen {w : World} {k : Nat} (h : Fz w k) (i : Nat) : w.frozen? ⟨k, i, none⟩ = false := let ⟨_, _, h⟩ := h; frozen_of_row w k i _ _ h
theorem u5 {w : World} {p q : Addr} (x : Value) (h : ∃ y, w.cell? q = some y) : ∃ y, (w.setCell p x).cell? q = some y := by
 obtain ⟨y, h⟩ := h;by_cases e : p = q
 · subst e; exact ⟨x, ξU _ _ _ h⟩
 · exact ⟨y, (ξT _ _ _ _ e).trans h⟩
section
variable {B C n S F : Nat} {w w' : World} {v : Value} {len : Nat → Nat}
theorem RwQ.keep (h : RwQ B C w v n S F len) (hk : ∀ k, B ≤ k → k < C → w'.heap[k]? = w.heap[k]?) : RwQ B C w' v n S F len := by
 obtain ⟨a, cap, rfl, h⟩ := h;refine ⟨a, cap, rfl, fun hn => ?_⟩;obtain ⟨g, off, rfl, h1, h2, h3, h4⟩ := h hn;have hc : ∀ k j, B ≤ k → k < C → w'.cell? ⟨k, j, none⟩ = w.cell? ⟨k, j, none⟩ := fun k j a b => World.cell?_of_block (w := w) (a := ⟨k, j, none⟩) (hk k a b);refine ⟨g, off, rfl, h1, h2, h3.keep (hk g h1 h2), fun i hi => ?_⟩;obtain ⟨h5, ka, kc, h6, h7⟩ := h4 i hi;refine ⟨by rw [hc g _ h1 h2]; exact h5, ka, kc, by rw [hc g _ h1 h2]; exact h6, fun hl => ?_⟩;obtain ⟨b, o, rfl, k1, k2, k3, k4, k5⟩ := h7 hl;exact ⟨b, o, rfl, k1, k2, k3, k4.keep (hk b k1 k2), fun j hj => by rw [hc b _ k1 k2]; exact k5 j hj⟩
theorem RwQ.form (h : RwQ B C w v n S F len) : ∃ a cap, v = .slice a n cap := let ⟨a, cap, h, _⟩ := h; ⟨a, cap, h⟩
theorem RwQ.head (h : RwQ B C w v n S F len) {i : Nat} (hi : i < n) : ∃ g off cap ka kc, v = .slice (some ⟨g, off, none⟩) n cap ∧ ∀ q, q = off + i * S + F → w.cell? ⟨g, q, none⟩ = some (.slice ka (len i) kc) := by
 obtain ⟨a, cap, rfl, h⟩ := h;obtain ⟨g, off, rfl, _, _, _, h4⟩ := h (by omega);obtain ⟨_, ka, kc, h6, _⟩ := h4 i hi;exact ⟨g, off, cap, ka, kc, rfl, fun q hq => by subst hq; rw [Nat.mul_comm i S, Nat.add_assoc]; exact h6⟩
theorem RwQ.kid (h : RwQ B C w v n S F len) {i j : Nat} (hi : i < n) (hj : j < len i) : ∃ g off cap b o kc, v = .slice (some ⟨g, off, none⟩) n cap ∧ (∀ q, q = off + i * S + F → w.cell? ⟨g, q, none⟩ = some (.slice (some ⟨b, o, none⟩) (len i) kc)) ∧
 B ≤ b ∧ b < C ∧ w.frozen? ⟨b, o + j, none⟩ = false ∧ (∃ x, w.cell? ⟨b, o + j, none⟩ = some x) ∧ ∀ x, RwQ B C (w.setCell ⟨b, o + j, none⟩ x) v n S F len := by
 obtain ⟨a, cap, rfl, h⟩ := h;obtain ⟨g, off, rfl, h1, h2, h3, h4⟩ := h (by omega);obtain ⟨_, ka, kc, h6, h7⟩ := h4 i hi;obtain ⟨b, o, rfl, k1, k2, k3, k4, k5⟩ := h7 (by omega);refine ⟨g, off, cap, b, o, kc, rfl, fun q hq => by subst hq; rw [Nat.mul_comm i S, Nat.add_assoc]; exact h6, k1, k2, k4.frozen _, k5 j hj, fun x => ⟨_, cap, rfl, fun _ => ⟨g, off, rfl, h1, h2, h3.set _ x rfl, fun i' hi' => ?_⟩⟩⟩;obtain ⟨m5, ka', kc', m6, m7⟩ := h4 i' hi';refine ⟨u5 x m5, ka', kc', (ξT _ _ _ _ (fun e => k3 (by simp only [Addr.mk.injEq] at e; exact e.1))).trans m6, fun hl => ?_⟩;obtain ⟨b', o', rfl, n1, n2, n3, n4, n5⟩ := m7 hl;exact ⟨b', o', rfl, n1, n2, n3, n4.set _ x rfl, fun j' hj' => u5 x (n5 j' hj')⟩
theorem RwQ.txt {n : Nat} (h : RwQ B C w v n 6 3 len) {i : Nat} (hi : i < n) : ∃ g off cap, v = .slice (some ⟨g, off, none⟩) n cap ∧ B ≤ g ∧ g < C ∧ w.frozen? ⟨g, off + i * 6 + 1, none⟩ = false ∧ (∃ x, w.cell? ⟨g, off + i * 6 + 1, none⟩ = some x) ∧ ∀ x, RwQ B C (w.setCell ⟨g, off + i * 6 + 1, none⟩ x) v n 6 3 len := by
 obtain ⟨a, cap, rfl, h⟩ := h;obtain ⟨g, off, rfl, h1, h2, h3, h4⟩ := h (by omega);have e1 : off + i * 6 + 1 = off + (6 * i + 1) := by omega
 refine ⟨g, off, cap, rfl, h1, h2, h3.frozen _, e1 ▸ (h4 i hi).1, fun x => ⟨_, cap, rfl, fun _ => ⟨g, off, rfl, h1, h2, h3.set _ x rfl, fun i' hi' => ?_⟩⟩⟩;obtain ⟨m5, ka', kc', m6, m7⟩ := h4 i' hi';refine ⟨u5 x m5, ka', kc', (ξT _ _ _ _ (fun e => by simp only [Addr.mk.injEq] at e; omega)).trans m6, fun hl => ?_⟩;obtain ⟨b', o', rfl, n1, n2, n3, n4, n5⟩ := m7 hl;exact ⟨b', o', rfl, n1, n2, n3, n4.set _ x rfl, fun j' hj' => u5 x (n5 j' hj')⟩
end
structure Mdz (B C : Nat) (w w' : World) : Prop where
 below : Below B w w'
 keep : ∀ k, C ≤ k → k < w.heap.size → w'.heap[k]? = w.heap[k]?
theorem Mdz.refl (B C : Nat) (w : World) : Mdz B C w w := ⟨ξf _ _, fun _ _ _ => rfl⟩
theorem Mdz.set {B C : Nat} {w w' : World} (h : Mdz B C w w') {p : Addr} (h1 : B ≤ p.block) (h2 : p.block < C) (x : Value) : Mdz B C w (w'.setCell p x) :=
 ⟨h.below.setCell h1 x, fun k hk hl => (ψf w' p k x (by omega)).trans (h.keep k hk hl)⟩
theorem NdO.keep {B : Nat} {w w' : World} {nv : Value} {l : List Nd} (h : NdO B w nv l) (hk : ∀ k, B ≤ k → k < w.heap.size → w'.heap[k]? = w.heap[k]?) : NdO B w' nv l := by
 obtain ⟨U, xs, h1, h2, h3, h4⟩ := h;exact ⟨U, xs, cE h1 fun k e => hk k (h1.lt k e).1 (h1.lt k e).2, h2.keep fun k e => ⟨hk k (h4 k e).1 (h4 k e).2.lt, e⟩, h3, fun k e => ⟨(h4 k e).1, (h4 k e).2.keep (hk k (h4 k e).1 (h4 k e).2.lt)⟩⟩
theorem NdO.below {B : Nat} {w w' : World} {nv : Value} {l : List Nd} (h : NdO B w nv l) (hb : Below w.heap.size w w') : NdO B w' nv l := h.keep fun k _ hk => hb.block k hk
theorem NdO.nil (B : Nat) (w : World) : NdO B w (.slice none 0 0) [] := ⟨fun _ => 0, [], ξX _ _ _ _, rfl, Im.nil _ _, fun k e => absurd (show (0 : Nat) = 4 from e) (by decide)⟩
def NG (ok : Bool) (R : Except Flt (Nat × PS)) : List Nd := match ok, R with
 | true, .ok x => x.2.nodes
 | _, _ => []
def NH (ok : Bool) (R : Except Flt (Nat × PS)) : Int := match ok, R with
 | false, _ => 1
 | true, .ok _ => 0
 | true, .error (.stop _ _ k) => (k : Nat)
 | true, .error .out => 0
theorem F5.own {w w' : World} {ok : Bool} {R : Except Flt (Nat × PS)} {e : Ending} (h : F5 w ok R e w') :
 ∃ av i ln cl, e = .returned (.tuple #[av, .int .i64 i, .int .i64 ln, .int .i64 cl, .int .i64 (NH ok R)]) ∧ NdO w.heap.size w' av (NG ok R) ∧ Below w.heap.size w w' := by
 obtain ⟨hb, h⟩ := h;cases ok with
 | false => exact ⟨_, _, _, _, h, NdO.nil _ _, hb⟩
 | true =>
  cases R with
  | ok x => obtain ⟨nv, h1, h2⟩ := h; exact ⟨_, _, _, _, h1, h2, hb⟩
  | error q =>
   cases q with
   | out => exact h.elim
   | stop l c k => exact ⟨_, _, _, _, h, NdO.nil _ _, hb⟩
theorem Jt {ts : List Kiln.Tok} (hp : ∀ t ∈ ts, t.path.length ≤ 1099511627776) : (NG (ts.all cL) (eY ts (iV ts 1001) ps0)).length ≤ 262144 ∧ ∀ n ∈ NG (ts.all cL) (eY ts (iV ts 1001) ps0), n.kids.length ≤ 262154 ∧ n.path.length ≤ 1099511627776 := by
 have h := JK hp 0 0;unfold AL at h;unfold NG;cases hw : ts.all cL with
 | false => simp
 | true =>
  rw [hw] at h;simp only [↓reduceIte] at h;cases hr : eY ts (iV ts 1001) ps0 with
  | ok x => rw [hr] at h; exact ⟨h.2.2.2.1, h.2.2.2.2⟩
  | error q => simp
theorem Ct (l : List Kiln.Tok) (v : Value) (w : World) (hg : Gl w) (ht : TkS w v l) (hz : ∀ u ∈ l, Fits u) (hn : l.length ≤ 1048576) : Calls Tryz.prog 4 #[v] w fun e w' => e = .returned (.bool true) ∧ Below w.heap.size w w' := by
 have HG := κ hg;have HT := κ ht;have HZ := κ hz;have HPL : RowKit.Hid (∀ u ∈ l, u.path.length ≤ 1099511627776) := fun u hu => (hz u hu).2.1;obtain ⟨ta, tcap, rfl, -⟩ := id ht;clear hg ht hz;go_enter Tryz.func4, Tryz.ntmps4;go_wp2_with fail;go_loopg [3, 4] (l.length + 1) (fun g u v wr => ∃ (t : Nat) (xs : List Value) (wx : World), wx = wr ∧ v = .int .i64 (t : Nat) ∧ t + g = l.length + 1 ∧ t ≤ l.length ∧ wr.ownsRow w.heap.size 32 5 u t xs ∧ TkR w.heap.size wr u.ownBlock (l.take t) xs ∧ Below w.heap.size w wr)
 case atStart => exact ⟨0, [], _, rfl, rfl, by omega, ξM _, ξX _ _ _ _, rfl, ξf _ _⟩
 case round =>
  obtain ⟨t, xs, wx, rfl, rfl, hg, ht, how, htp, hb⟩ := hrel;have HBX := κ hb;have HOW := κ how;have HTP := κ htp;obtain ⟨ma, mcap, rfl⟩ := qw how;clear hb how htp;by_cases hlt : t < l.length
  · obtain ⟨fu, rfl⟩ : ∃ fu, gk = fu + 1 := ⟨gk - 1, by omega⟩;have hti : (t : Int) < (l.length : Int) := by omega
    obtain ⟨u, hu⟩ : ∃ u, l[t]? = some u := ⟨l[t]'hlt, ξw hlt⟩;obtain ⟨a', cap', hv', hl⟩ := id HT;simp only [ξR] at hv';obtain ⟨rfl, -, rfl⟩ := hv';obtain ⟨b, off, rfl, hx⟩ := hl (by rintro rfl; simp at hlt);obtain ⟨pv, hpv, hc⟩ := hx t u hu;have HU := κ hu;have HUL := κ (HPL u (ξB hu));obtain ⟨pa, pcap, rfl, -⟩ := id hpv;have gk2 : ∀ (j : Nat) x q, (fV u (.slice pa u.path.length pcap))[j]? = some x → q = off + (5 * t + j) → wx.cell? ⟨b, q, none⟩ = some x := fun j x q hj hq => by
     subst hq; exact cell_later HBX.out (hc j x hj)
    have g0 : wx.cell? ⟨b, off + t * 5, none⟩ = some (.int .i64 u.kind) := gk2 0 _ _ rfl (by omega);have g1 : wx.cell? ⟨b, off + t * 5 + 1, none⟩ = some (str u.text) := gk2 1 _ _ rfl (by omega);have g2 : wx.cell? ⟨b, off + t * 5 + 2, none⟩ = some (.slice pa u.path.length pcap) := gk2 2 _ _ rfl (by omega);have g3 : wx.cell? ⟨b, off + t * 5 + 3, none⟩ = some (.int .i64 u.line) := gk2 3 _ _ rfl (by omega);have g4 : wx.cell? ⟨b, off + t * 5 + 4, none⟩ = some (.int .i64 u.col) := gk2 4 _ _ rfl (by omega);have HPA := κ ((hpv.below HBX).below (bQ (ξf _ wx) (.cells #[.int .i64 u.kind, str u.text, .slice pa u.path.length pcap, .int .i64 u.line, .int .i64 u.col] 32)));clear hx hl hc hpv gk2 hu;go_upto_region 7 with fail;clear g0 g1 g2 g3 g4;obtain ⟨wA, hwA⟩ : ∃ wA, wx.alloc (.cells #[.int .i64 u.kind, str u.text, .slice pa u.path.length pcap, .int .i64 u.line, .int .i64 u.col] 32) = wA := ⟨_, rfl⟩;rw [hwA] at HPA;have hA : wA.heap[wx.heap.size]? = some (.cells #[.int .i64 u.kind, str u.text, .slice pa u.path.length pcap, .int .i64 u.line, .int .i64 u.col] 32 (0, 0)) := by rw [← hwA]; exact ψe _ _
    have a2 := bO hA 2 _ rfl;have hszA : wA.heap.size = wx.heap.size + 1 := by rw [← hwA]; simp
    have hkA : ∀ k, k < wx.heap.size → wA.heap[k]? = wx.heap[k]? := fun k hk => by rw [← hwA]; exact ξe wx _ k hk
    have hbA : Below w.heap.size w wA := by rw [← hwA]; exact bQ HBX.out _
    rw [hwA];go_upto_region 8 with (first | (at_builtin; refine iN rfl (.tmp 36) (.tmp 38) rfl rfl rfl HPA.out HUL.out ?_; intro ao cp w5 hs5 hgr5 ho5));have h5 := (hgr5.block wx.heap.size (by omega) (by simp)).trans hA;have d2 := bO h5 2 _ rfl;have f2 := frozen_of_row w5 wx.heap.size 2 _ _ h5;clear hwA a2;go_upto_region 9 with fail;obtain ⟨wC, hwC⟩ : ∃ wC, w5.setCell ⟨wx.heap.size, 2, none⟩ (.slice ao u.path.length cp) = wC := ⟨_, rfl⟩;have hC := ψg w5 wx.heap.size 2 _ _ (.slice ao u.path.length cp) h5;rw [hwC] at hC ⊢;have c0 := bO hC 0 _ rfl;have c1 := bO hC 1 _ rfl;have c2 := bO hC 2 _ rfl;have c3 := bO hC 3 _ rfl;have c4 := bO hC 4 _ rfl;have hkC : ∀ k, k ≠ wx.heap.size → wC.heap[k]? = w5.heap[k]? := fun k hk => by rw [← hwC]; exact ψf w5 _ k _ hk
    have hszC : wx.heap.size + 1 ≤ wC.heap.size := by
     have := hgr5.size;rw [← hwC, World.size_setCell]; omega
    have hkX : ∀ k, k < wx.heap.size → wC.heap[k]? = wx.heap[k]? := fun k hk => (hkC k (by omega)).trans ((hgr5.block k (by omega) (by simp)).trans (hkA k hk));have HKX := κ hkX;have HSC := κ (hs5.stay (w' := wC) fun k e => hkC k (by have := (ho5 k e).1; omega));have HOP : RowKit.Hid (∀ k, (Value.slice ao u.path.length cp).ownBlock = some k → k = wx.heap.size + 1 ∧ Fz wC k) := fun k e => ⟨by have := (ho5 k e).1; omega, (ho5 k e).2.keep (hkC k (by have := (ho5 k e).1; omega))⟩;have HBC : RowKit.Hid (Below w.heap.size w wC) := by
     show Below _ _ _;rw [← hwC];exact (hbA.grown hgr5 (by have := HBX.size; omega) fun k e => by cases e).setCell (p := ⟨wx.heap.size, 2, none⟩) HBX.size _
    have HOC : RowKit.Hid (∀ o, (wC.alloc o).ownsRow w.heap.size 32 5 (.slice ma t mcap) t xs) := fun o => by
     refine cE HOW fun k e => ?_;have hk := (World.ownsRow.lt HOW k e).2;rw [ξe wC o k (by omega)];exact hkX k hk
    clear hwC hA hC h5 d2 f2 hkA hbA hszA hkC hkX hs5 hgr5 ho5;obtain ⟨u0, hu, hu0, hu1, hu2⟩ := info_parts Tryz.infoTok;have HU0 := κ (ξc hu (ξc hu0 (ξc hu1 hu2)));clear hu hu0 hu1 hu2;have hbs := HBC.size;go_wp2_with (first | (at_builtin; refine ψm _ rfl (.tmp 42) (.tmp 44) 22 rfl (w.heap.size) 32 u0 (.agg #[.int .i64 0, .string ⟨#[]⟩, .slice none 0 0, .int .i64 0, .int .i64 0]) 5 64 Tryz.underlying22 HU0.out.1 HU0.out.2.1 HU0.out.2.2.1 HU0.out.2.2.2 rfl (by decide) (.slice ma t mcap) t xs rfl (HOC.out _) ⟨wC.heap.size, 0, none⟩ 1 1 [.int .i64 u.kind, str u.text, .slice ao u.path.length cp, .int .i64 u.line, .int .i64 u.col] rfl rfl (ξW (ψe _ _)) (JM _ _ _ _ _ _ _) (by decide) (by unfold maxLen; omega) (by omega) (by simp; omega) _ rfl ?_; intro g2 cap2 w6 hrow2 hgr2 hgb2 hgl2));have HT6 : RowKit.Hid (TkR w.heap.size w6 (some g2) (l.take (t + 1)) (xs ++ fV u (.slice ao u.path.length cp))) := by
     show TkR _ _ _ _ _;rw [List.take_add_one, HU.out];have hg6 : ∀ k, k < wC.heap.size → (Value.slice ma t mcap).ownBlock ≠ some k → w6.heap[k]? = wC.heap[k]? ∧ some g2 ≠ some k := fun k hk hne => by
      refine ⟨(hgr2.block k (by simp; omega) (fun e => hne e.symm)).trans (ξe wC _ k hk), fun e => ?_⟩;cases e;rcases hgb2 with h | h
      · exact hne h
      · simp at h; omega
     have hop : ∀ k, (Value.slice ao u.path.length cp).ownBlock = some k → w6.heap[k]? = wC.heap[k]? ∧ some g2 ≠ some k := fun k e => hg6 k (HOP k e).2.lt fun e2 => by
      have h1 := (World.ownsRow.lt HOW k e2).2;have h2 := (HOP k e).1;omega
     refine TkR.snoc (t := u) (HSC.stay fun k e => (hop k e).1) (fun k e => ⟨by have := (HOP k e).1; have := HBX.size; omega, (HOP k e).2.keep (hop k e).1, (hop k e).2⟩) ?_;exact HTP.keep fun k _ hk hne => ⟨(hg6 k (by omega) hne).1.trans (HKX k hk), (hg6 k (by omega) hne).2⟩
    have HB6 : RowKit.Hid (Below w.heap.size w w6) := (HBC.alloc HBC.size _).grown hgr2 (by simp; omega) fun k e => (World.ownsRow.lt HOW.out k e).1;have HO6 := κ hrow2;clear hrow2 hgr2 hgb2 hgl2 HKX HSC HOP HBC HOC HTP HOW HBX;go_wp2_with fail;go_roundg fu
    case measure => omega
    case rel => exact ⟨t + 1, _, _, rfl, rfl, by omega, by omega, HO6, HT6, HB6⟩
  · obtain rfl : t = l.length := by omega
    obtain ⟨htm, hrq⟩ := NK HOW (by have h := HTP.out; rwa [List.take_of_length_le (ξF _)] at h);obtain ⟨mv, hmv⟩ : ∃ mv, Value.slice ma l.length mcap = mv := ⟨_, rfl⟩;have HTM := κ htm;have HRQ := κ hrq;have HGX := κ (HG.below HBX);have HP1 := κ (xU _ l wx HGX HTM (by omega) HZ);obtain ⟨ok, hok⟩ : ∃ ok, l.all cL = ok := ⟨_, rfl⟩;obtain ⟨R, hR⟩ : ∃ R, eY l (iV l 1001) ps0 = R := ⟨_, rfl⟩;have hsm := Jt HPL;have HP2 := κ (fun W (hgw : Gl W) (h : TkS W (.slice ta l.length tcap) l) => xU _ l W hgw h (by omega) HZ);rw [hok, hR] at HP1 hsm HP2;obtain ⟨ns, hns⟩ : ∃ ns, NG ok R = ns := ⟨_, rfl⟩;rw [hns] at hsm;have HNS := κ hns;obtain ⟨hnl, hnk⟩ := hsm;have HNK : RowKit.Hid (∀ n ∈ ns, n.path.length ≤ 1099511627776) := fun n hn => (hnk n hn).2;have HLN := κ (Si fun n hn => (hnk n hn).1);have HLT := κ (Sg HPL);clear htm hrq HTP HOW hok hR hns hnk hmv;go_wp2_with fail;refine HP1.mono ?_;intro e w3 hpost;obtain ⟨av, ai, aln, acl, rfl, hna, hb3⟩ := hpost.own;rw [HNS.out] at hna;obtain ⟨aa, acap, rfl⟩ := (Lp hna).form;have HB3 := κ hb3;have HNA := κ hna;have HP3 := κ (HP2 w3 (HGX.below hb3) ((HT.below HBX).below hb3));clear hpost hna hb3 HP1;obtain ⟨CD, hCD⟩ : ∃ CD, NH ok R = CD := ⟨_, rfl⟩;rw [hCD];go_wp2_with fail;refine HP3.mono ?_;intro e w5 hpost;obtain ⟨bv, bi, bln, bcl, rfl, hnb, hb5⟩ := hpost.own;rw [HNS.out] at hnb;rw [hCD];obtain ⟨ba, bcap, rfl⟩ := (Lp hnb).form;have HB5 := κ hb5;have HNB := κ hnb;have HSM := κ (Np true l l _ _ w5 ((HTM.below HB3).below hb5) (((HT.below HBX).below HB3).below hb5) HPL (by omega));rw [sw] at HSM;have hne : (CD != CD) = false := by simp
    clear hpost hnb hb5 HP3 hCD;go_wp2_with fail;refine HSM.mono ?_;rintro e w6 ⟨rfl, hb6⟩;have HB6 := κ hb6;have hs3 := HB3.size;have hs5 := HB5.size;have hs6 := hb6.size;have HX6 : RowKit.Hid (Below wx.heap.size wx w6) := (HB3.trans (HB5.mono hs3)).trans (hb6.mono (by omega));have HQ6 := κ (HRQ.keep (w' := w6) fun k _ hk => HX6.block k hk);have HNA6 := κ ((HNA.below HB5).below hb6);have HNB6 := κ (HNB.below hb6);have HQA6 := κ ((Lp HNA).keep (w' := w6) fun k _ hk => (HB5.trans (hb6.mono hs5)).block k hk);clear hb6 HSM hne HNA HNB HRQ HB5;go_wp2_with fail;go_loopg [17] (l.length + 1) (fun g vv wr => ∃ (t : Nat) (wz : World), wz = wr ∧ vv = .int .i64 (t : Nat) ∧ t + g = l.length + 1 ∧ t ≤ l.length ∧ RwQ w.heap.size wx.heap.size wr (.slice ma l.length mcap) l.length 5 2 (lnT l) ∧ Mdz w.heap.size wx.heap.size w6 wr)
    case atStart => exact ⟨0, _, rfl, rfl, by omega, ξM _, HQ6, Mdz.refl _ _ _⟩
    case round =>
     obtain ⟨t, wz, rfl, rfl, hg1, ht1, hq1, hm1⟩ := hrel;have HQ1 := κ hq1;have HM1 := κ hm1;clear hq1 hm1;by_cases hlt : t < l.length
     · obtain ⟨fu1, rfl⟩ : ∃ fu1, gk = fu1 + 1 := ⟨gk - 1, by omega⟩;have hti : (t : Int) < (l.length : Int) := by omega
       have hlb := HLT.out t;go_wp2_with fail;go_loopg [18] (lnT l t + 1) (fun g vv wr => ∃ (j : Nat) (wz : World), wz = wr ∧ vv = .int .i64 (j : Nat) ∧ j + g = lnT l t + 1 ∧ j ≤ lnT l t ∧ RwQ w.heap.size wx.heap.size wr (.slice ma l.length mcap) l.length 5 2 (lnT l) ∧ Mdz w.heap.size wx.heap.size w6 wr)
       case atStart => exact ⟨0, _, rfl, rfl, by omega, ξM _, HQ1, HM1⟩
       case round =>
        obtain ⟨j, wz, rfl, rfl, hg2, ht2, hq2, hm2⟩ := hrel;have HQ2 := κ hq2;have HM2 := κ hm2;clear hq2 hm2;by_cases hlj : j < lnT l t
        · obtain ⟨fu2, rfl⟩ : ∃ fu2, gk = fu2 + 1 := ⟨gk - 1, by omega⟩;have hji : (j : Int) < (lnT l t : Int) := by omega
          obtain ⟨g, off, cp, b, o, kc, hv, hc, h1, h2, hf, ⟨x0, hx0⟩, hs⟩ := HQ2.kid hlt hlj;simp only [ξR] at hv;obtain ⟨rfl, -, rfl⟩ := hv;have c2 := hc _ rfl;have HS := κ (hs (str [122]));have HM3 := κ (HM2.set (p := ⟨b, o + j, none⟩) h1 h2 (str [122]));clear hc hs h1 h2;go_wp2_with fail;go_roundg fu2
          case measure => omega
          case rel => exact ⟨j + 1, _, rfl, rfl, by omega, by omega, HS, HM3⟩
        · obtain rfl : j = lnT l t := by omega
          obtain ⟨g, off, cp, ka, kc, hv, hc⟩ := HQ2.head hlt;simp only [ξR] at hv;obtain ⟨rfl, -, rfl⟩ := hv;have c2 := hc _ rfl;clear hc;go_wp2_with fail;go_roundg fu1
          case measure => omega
          case rel => exact ⟨t + 1, _, rfl, rfl, by omega, by omega, HQ2, HM2⟩
     · obtain rfl : t = l.length := by omega
       have HNA7 := κ (HNA6.keep (w' := wz) fun k h1 h2 => HM1.keep k h1 h2);have HNB7 := κ (HNB6.keep (w' := wz) fun k h1 h2 => HM1.keep k (by omega) h2);have HQA7 := κ (HQA6.keep (w' := wz) fun k h1 h2 => HM1.keep k h1 (by omega));have HAL := κ (tq wz _ _ ns HNA7.nds HNB7.nds hnl HNK);have HB7 : RowKit.Hid (Below w.heap.size w wz) := (HBX.trans (HX6.mono HBX.size)).trans HM1.below;have hs7 : w3.heap.size ≤ wz.heap.size := by have := HM1.below.size; omega
       go_wp2_with fail;refine HAL.mono ?_;rintro e w8 ⟨rfl, hb8⟩;have HNB8 := κ (HNB7.below hb8);have HQA8 := κ (HQA7.keep (w' := w8) fun k h1 h2 => hb8.block k (by omega));have HB8 := κ (HB7.trans (hb8.mono HB7.size));clear hb8 HAL HNB7 HQA7 HB7;go_wp2_with fail;go_loopg [19] (ns.length + 1) (fun g vv wr => ∃ (t : Nat) (wz : World), wz = wr ∧ vv = .int .i64 (t : Nat) ∧ t + g = ns.length + 1 ∧ t ≤ ns.length ∧ RwQ wx.heap.size w3.heap.size wr (.slice aa ns.length acap) ns.length 6 3 (lnN ns) ∧ Mdz wx.heap.size w3.heap.size w8 wr)
       case atStart => exact ⟨0, _, rfl, rfl, by omega, ξM _, HQA8, Mdz.refl _ _ _⟩
       case round =>
        obtain ⟨t, wz, rfl, rfl, hg1, ht1, hq1, hm1⟩ := hrel;have HQ1 := κ hq1;have HM1 := κ hm1;clear hq1 hm1;by_cases hlt : t < ns.length
        · obtain ⟨fu1, rfl⟩ : ∃ fu1, gk = fu1 + 1 := ⟨gk - 1, by omega⟩;have hti : (t : Int) < (ns.length : Int) := by omega
          have hlb := HLN.out t;go_wp2_with fail;go_loopg [20] (lnN ns t + 1) (fun g vv wr => ∃ (j : Nat) (wz : World), wz = wr ∧ vv = .int .i64 (j : Nat) ∧ j + g = lnN ns t + 1 ∧ j ≤ lnN ns t ∧ RwQ wx.heap.size w3.heap.size wr (.slice aa ns.length acap) ns.length 6 3 (lnN ns) ∧ Mdz wx.heap.size w3.heap.size w8 wr)
          case atStart => exact ⟨0, _, rfl, rfl, by omega, ξM _, HQ1, HM1⟩
          case round =>
           obtain ⟨j, wz, rfl, rfl, hg2, ht2, hq2, hm2⟩ := hrel;have HQ2 := κ hq2;have HM2 := κ hm2;clear hq2 hm2;by_cases hlj : j < lnN ns t
           · obtain ⟨fu2, rfl⟩ : ∃ fu2, gk = fu2 + 1 := ⟨gk - 1, by omega⟩;have hji : (j : Int) < (lnN ns t : Int) := by omega
             obtain ⟨g, off, cp, b, o, kc, hv, hc, h1, h2, hf, ⟨x0, hx0⟩, hs⟩ := HQ2.kid hlt hlj;simp only [ξR] at hv;obtain ⟨rfl, -, rfl⟩ := hv;have c2 := hc _ rfl;have HS := κ (hs (.int .i64 (-1)));have HM3 := κ (HM2.set (p := ⟨b, o + j, none⟩) h1 h2 (.int .i64 (-1)));clear hc hs h1 h2;go_wp2_with fail;go_roundg fu2
             case measure => omega
             case rel => exact ⟨j + 1, _, rfl, rfl, by omega, by omega, HS, HM3⟩
           · obtain rfl : j = lnN ns t := by omega
             obtain ⟨g, off, cp, ka, kc, hv, hc⟩ := HQ2.head hlt;obtain ⟨g', off', cp', hv', h1, h2, hf, ⟨x0, hx0⟩, hs⟩ := HQ2.txt hlt;rw [hv] at hv';simp only [ξR, ξO, Addr.mk.injEq, and_true, true_and] at hv';obtain ⟨⟨rfl, rfl⟩, rfl⟩ := hv';simp only [ξR] at hv;obtain ⟨rfl, -, rfl⟩ := hv;have c2 := hc _ rfl;have HS := κ (hs (str [122]));have HM3 := κ (HM2.set (p := ⟨g, off + t * 6 + 1, none⟩) h1 h2 (str [122]));clear hc hs h1 h2;go_wp2_with fail;go_roundg fu1
             case measure => omega
             case rel => exact ⟨t + 1, _, rfl, rfl, by omega, by omega, HS, HM3⟩
        · obtain rfl : t = ns.length := by omega
          have HNB9 := κ (HNB8.keep (w' := wz) fun k h1 h2 => HM1.keep k h1 h2);have HB9 : RowKit.Hid (Below w.heap.size w wz) := HB8.trans (HM1.below.mono HBX.size);have HP4 := κ (HP2 wz (HG.below HB9) (HT.below HB9));go_wp2_with fail;refine HP4.mono ?_;intro e w9 hpost;obtain ⟨cv, ci, cln, ccl, rfl, hnc, hb9⟩ := hpost.own;rw [HNS.out] at hnc;have HAL := κ (tq w9 _ _ ns (HNB9.below hb9).nds hnc.nds hnl HNK);have HB10 := κ (HB9.trans (hb9.mono HB9.size));clear hpost hnc hb9 HP4 HNB9;go_wp2_with fail;refine HAL.mono ?_;rintro e w10 ⟨rfl, hb10⟩;have HB11 := κ (HB10.trans (hb10.mono HB10.size));have HAV := κ (FR w10 (HG.below HB11));clear hb10 HAL;go_wp2_with fail;refine HAV.mono ?_;rintro e w11 ⟨rfl, hb11⟩;have HB12 := κ (HB11.trans (hb11.mono HB11.size));clear hb11 HAV;go_wp2_with fail;go_ret;exact ⟨rfl, HB12⟩
end Go.Proofs.YtbchkldhnjahaaaGreatDoor
namespace Go.Proofs.YtbchkldhnjahaaaGreatDoor
open Go Go.ChangeShapes Go.WideShapes Go.ChangeAt Go.RowKit Kiln
theorem Jo : laidOutB Tryz.prog = true := by kernel_rfl
theorem yc (H : Type) (enc : TypeId × Value → H) (W : World) (base : Nat) (args : Array Value) (ds gs : List (DataW H)) (before : List MemPlace)
 (hval : ∀ (j : Nat) t v, Tryz.f4.params[j]? = some t → args[j]? = some v → Value.okWide Tryz.prog W .any base t v)
 (hW : DataW.Whole enc Tryz.prog Tryz.f4.params.toList Rows.treeOwnSpec.vars false W args.toList ds gs before) (hk : Rows.uptoSmall H (ds ++ gs) = true) (hg : Gl W) :
 Calls Tryz.prog 4 args W fun e W' => ∃ v, e = .returned v ∧ Rows.treeOwnSpec.post enc Tryz.prog Tryz.f4 false true false false W args v W' := by
 have hW' := hW;have hlt : ∀ x ∈ before, x.block < W.heap.size := fun x hx => hW'.lt x hx;obtain ⟨p, q, hA0, hV, rfl, hfz, hnd⟩ := hW;have hA : DataW.TrodAll enc Tryz.prog W 0 (fun _ => true) true Tryz.f4.params.toList args.toList ds p := hA0;rw [Tryz.params4] at hA hval;obtain ⟨v0, d0, rfl, rfl, h0⟩ := trodAll_one hA;obtain ⟨rfl, rfl⟩ := trodVars_none hV;have hsl := okWide_slice Tryz.underlying22 (hval 0 22 v0 rfl rfl);obtain ⟨l, htk, hsz, hlen⟩ := u6 h0 hsl;have hb : Rows.uptoBulk d0 ≤ 1048576 := by
  have h := of_decide_eq_true hk;simp only [List.append_nil, Rows.uptoBulkAll] at h;omega
 clear hA0 hval;simp only [List.append_nil] at hW' hlt;refine (Ct l v0 W hg htk (fun u hu => NM (ξG (hsz u hu) hb)) (by omega)).mono fun e W' ⟨he, hbe⟩ => ?_;subst he;exact ⟨_, rfl, _, _, _, [], p, [], hW', trodAll_mk1 (shut_bool Tryz.underlying4 true), trodAll_mk1 (Below.trod Jo (by kernel_rfl) (of_decide_eq_true (by kernel_rfl)) h0 hbe hlt), rfl, hbe.frame _, fun h => by cases h⟩
theorem Ns (os : Os) {H : Type} (enc : TypeId × Value → H) : ∃ places, DataW.whole enc Tryz.prog ((World.doorLaid Tryz.prog 100 os).forCall (fun _ _ => 0) ⟨#[], #[.slice none 0 0], []⟩).memory Tryz.f4.params.toList Rows.treeOwnSpec.vars false #[Value.slice none 0 0].toList 8 = some ([.nil], [], places) :=
 ⟨[], by kernel_rfl⟩
theorem Nr (os : Os) (started : os.Started) (H : Type) (enc : TypeId × Value → H) (F : Stop.Interp) :
 ReturnsInHanded {} Tryz.checked os 4 .any ((Rows.OpenSpec.upto Rows.treeOwnSpec).preRow enc Tryz.prog Tryz.f4 Rows.treeOwnUptoRow.domain false Rows.treeOwnUptoRow.laid) (((Rows.OpenSpec.upto Rows.treeOwnSpec).at F).post enc Tryz.prog Tryz.f4 false true false false) := by
 obtain ⟨places, hx⟩ := Ns os enc;refine returnsInHanded_of_row (C := Tryz.checked) (s := Rows.OpenSpec.upto Rows.treeOwnSpec) Ni started (by kernel_rfl) Tryz.func4
  (witness_row_atRef (enc := enc) (C := Tryz.checked) false (World.doorLaid Tryz.prog 100 os) #[.slice none 0 0] rfl (by kernel_rfl) (by kernel_rfl) (by kernel_rfl)
   (OpenSpec.preRow_of_cond 8 hx (by kernel_rfl) (fun k hk => by cases hk; kernel_rfl) (by kernel_rfl) (H9 os _))) ?_
 intro W base args ds gs before hval hW _ hcond _ hL hsh _;exact yc H enc W base args ds gs before hval hW (hcond _ rfl) (MW hL hsh)
theorem kN : Rows.TreeOwnUptoSaid :=
 OpenClaim.holds_of_cond 4 Tryz.f4 rfl rfl rfl rfl rfl rfl rfl ⟨rfl, rfl, rfl, rfl, rfl⟩ rfl rfl rfl rfl rfl (by kernel_rfl) Tryz.func4 (by kernel_rfl)
  (of_decide_eq_true (by kernel_rfl)) (by unfold Func.isWrapper; first | (rw [ψi (by decide +kernel)]; kernel_rfl) | (rw [ψh (by decide +kernel)]; exact ⟨rfl, rfl⟩))
  (fun os started H enc _ F => by rw [OpenClaim.pre_eq_preRow]; exact Nr os started H enc F)
theorem Nv (f : FuncId) (fn : Func) (hf : Tryz.pinned.checked.prog.funcNamed "kiln/kilnlaw05.TreeOwn" = some f) (hfn : Tryz.pinned.checked.prog.funcs[f]? = some fn) :
 true = Tryz.pinned.checked.prog.looks [] ∧ ∀ (j : Nat) t, fn.params[j]? = some t → Tryz.pinned.checked.prog.wantsStandIn t = false := by
 obtain rfl : f = 4 := Option.some.inj ((show Tryz.prog.funcNamed "kiln/kilnlaw05.TreeOwn" = some 4 by kernel_rfl).symm.trans hf) |>.symm;obtain rfl : fn = Tryz.f4 := (Option.some.inj (Tryz.func4.symm.trans hfn)).symm;refine ⟨by kernel_rfl, fun j t ht => ?_⟩;rw [Tryz.params4] at ht;obtain rfl : t = 22 := by simpa using Array.mem_of_getElem? ht
 exact (show Tryz.prog.wantsStandIn 22 = false by kernel_rfl)
theorem treeOwnUpto_card : Rows.TreeOwnUptoCardSaid :=
 Claim7.holds_tied_plain_at .later [] _ _ _ _ kN (fun _ h => by cases h) (by kernel_rfl) (fun _ h => by cases h) treeOwnUpto_row_tie rfl ⟨rfl, rfl⟩ (by kernel_rfl) rfl Nv (by kernel_rfl)
#print axioms treeOwnUpto_card
end Go.Proofs.YtbchkldhnjahaaaGreatDoor
