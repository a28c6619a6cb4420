/- strings.Builder at the seat: what its calls return (from the shelf's contracts, under the laying of strings.Join's closure). Conditions: those of each theorem. -/
import Derived.Test.YtbchkldhnjahaaaGreatDoorLexWp
import Derived.Test.YtbchkldhnjahaaaGreatDoorLexEsc
import Derived.Shelf.Strings.Builder1
namespace Go.Proofs.YtbchkldhnjahaaaGreatDoor
open Go.RowKit Kiln
open Go.Proofs

def bd_ren : Go.Shelf.Ren := ⟨fun | 167 => 91 | n => Tryz.lays156_ren.f n, Tryz.lays156_ren.t, Tryz.lays156_ren.g⟩

theorem lays167b : Go.Proofs.Lays.n167 Tryz.prog bd_ren := {
  mixed := Tryz.lays156.mixed
  f167 := Tryz.func91.trans (congrArg some (by kernel_rfl))
  f240 := Tryz.func130.trans (congrArg some (by kernel_rfl))
  f276 := Tryz.lays156.f276.trans (congrArg some (by kernel_rfl))
  t0 := Tryz.lays156.t0
  a0 := Tryz.lays156.a0
  z0 := Tryz.lays156.z0
  v0 := Tryz.lays156.v0
  t4 := Tryz.lays156.t4
  a4 := Tryz.lays156.a4
  z4 := Tryz.lays156.z4
  v4 := Tryz.lays156.v4
  t5 := Tryz.Builder_Extra_156.t5
  a5 := Tryz.Builder_Extra_156.a5
  z5 := Tryz.Builder_Extra_156.z5
  v5 := Tryz.Builder_Extra_156.v5
  t9 := Tryz.lays156.t9
  a9 := Tryz.lays156.a9
  z9 := Tryz.lays156.z9
  v9 := Tryz.lays156.v9
  t20 := Tryz.lays156.t20
  a20 := Tryz.lays156.a20
  z20 := Tryz.lays156.z20
  v20 := Tryz.lays156.v20
  t37 := Tryz.lays156.t37
  a37 := Tryz.lays156.a37
  z37 := Tryz.lays156.z37
  v37 := Tryz.lays156.v37
  t70 := Tryz.lays156.t70
  a70 := Tryz.lays156.a70
  z70 := Tryz.lays156.z70
  v70 := Tryz.lays156.v70
  t72 := Tryz.lays156.t72
  a72 := Tryz.lays156.a72
  z72 := Tryz.lays156.z72
  v72 := Tryz.lays156.v72
  t75 := Tryz.lays156.t75
  a75 := Tryz.lays156.a75
  z75 := Tryz.lays156.z75
  v75 := Tryz.lays156.v75
  t164 := Tryz.lays156.t164
  a164 := Tryz.lays156.a164
  z164 := Tryz.lays156.z164
  v164 := Tryz.lays156.v164 }

theorem extra167b : Builder.Extra Tryz.prog bd_ren := {
  sizeBuilder := by kernel_rfl
  liesBuilder := by kernel_rfl
  t5 := Tryz.Builder_Extra_156.t5
  a5 := Tryz.Builder_Extra_156.a5
  z5 := Tryz.Builder_Extra_156.z5
  v5 := Tryz.Builder_Extra_156.v5
  infoByte := by kernel_rfl
  cellsByte := by kernel_rfl
  sizeByte := by kernel_rfl
  neB5 := by decide }

/-- a builder that holds these bytes, its memory from block B on -/
def Bd (B b : Nat) (l : Bytes) (w : World) : Prop := Lib.IsBuilder 131 5 B b (Lib.byteCells l) w

theorem Bd.new (w : World) : Bd w.heap.size w.heap.size [] (w.alloc (.cells #[.pointer none, .slice none 0 0] 131)) := Lib.fresh_isBuilder _ _ w

theorem bd_alloc {B b : Nat} {l : Bytes} {w : World} (h : Bd B b l w) (o : Obj) : Bd B b l (w.alloc o) := by
  rcases h with ⟨hB, v, hb, hown, hne⟩ | ⟨hB, v, hb, hown, hne⟩
  · exact .inl ⟨hB, v, (Below.heap_alloc w o b (Array.getElem?_eq_some_iff.1 hb).1).trans hb, hown.alloc o, hne⟩
  · exact .inr ⟨hB, v, (Below.heap_alloc w o b (Array.getElem?_eq_some_iff.1 hb).1).trans hb, hown.alloc o, hne⟩

theorem bd_byte (B b : Nat) (l : Bytes) (c : UInt8) (v : Int) (w : World) (hv : v = c.toNat) (h : Bd B b l w) (hlen : l.length + 1 ≤ 140737488355328) (hBw : B ≤ w.heap.size) :
    Calls Tryz.prog 91 #[.pointer (some ⟨b, 0, none⟩), .int .u8 v] w fun e w' => e = .returned .nilIface ∧ Bd B b (l ++ [c]) w' ∧ Below B w w' := by
  subst hv
  refine (Any.Builder_WriteByte lays167b extra167b B b (Lib.byteCells l) c.toNat w h (by rw [Lib.byteCells_length]; exact hlen) hBw).mono ?_
  rintro e w' ⟨he, hb, hw⟩
  refine ⟨he, ?_, hw⟩
  unfold Bd
  rw [Lib.byteCells_append]
  exact Or.inr hb

theorem bd_str (B b : Nat) (l : Bytes) (s : ByteArray) (w : World) (h : Bd B b l w) (hlen : l.length + s.size ≤ 140737488355328) (hBw : B ≤ w.heap.size) :
    Calls Tryz.prog 92 #[.pointer (some ⟨b, 0, none⟩), .string s] w fun e w' => e = .returned (.tuple #[.int .i64 s.size, .nilIface]) ∧ Bd B b (l ++ s.data.toList) w' ∧ Below B w w' := by
  refine (Any.Builder_WriteString (ρ := Tryz.lays156_ren) { Tryz.lays156 with } Tryz.Builder_Extra_156 B b (Lib.byteCells l) s w h (by rw [Lib.byteCells_length]; exact hlen) hBw).mono ?_
  rintro e w' ⟨he, hb, hw⟩
  refine ⟨he, ?_, hw⟩
  unfold Bd
  rw [Lib.byteCells_append]
  exact Or.inr hb


theorem bd_string (B b : Nat) (l : Bytes) (w : World) (h : Bd B b l w) (hBw : B ≤ w.heap.size) :
    Calls Tryz.prog 93 #[.pointer (some ⟨b, 0, none⟩)] w fun e w' => e = .returned (str l) ∧ Below B w w' :=
  Tryz.Builder_String_any B b l w h hBw

theorem conv3 (W : World) (a b c : UInt8) (va vb vc : Int) (ha : va = a.toNat) (hb : vb = b.toNat) (hc : vc = c.toNat) :
    (convert 129 9 (.slice (some ⟨W.heap.size, 0, none⟩) 3 3)).run Tryz.prog (W.alloc (.cells #[.int .u8 va, .int .u8 vb, .int .u8 vc] 5)) = .ok (str [a, b, c]) (W.alloc (.cells #[.int .u8 va, .int .u8 vb, .int .u8 vc] 5)) := by
  subst ha; subst hb; subst hc
  refine run_convert_bytes_back _ _ _ 5 ⟨W.heap.size, 0, none⟩ 3 [a, b, c] (by kernel_rfl) (by kernel_rfl) (by kernel_rfl) ?_
  intro j hj
  have : j = 0 ∨ j = 1 ∨ j = 2 := by simp at hj; omega
  rcases this with rfl | rfl | rfl <;> (show World.cell? _ ⟨_, _, none⟩ = _; rw [World.cell?_alloc_new]; rfl)

theorem esc_digits (x : UInt8) : (48 + (x.toNat : Int) / 100 = (48 + x / 100 : UInt8).toNat) ∧ (48 + (x.toNat : Int) / 10 % 10 = (48 + x / 10 % 10 : UInt8).toNat) ∧ (48 + (x.toNat : Int) % 10 = (48 + x % 10 : UInt8).toNat) := by
  have hx := x.toNat_lt
  have h1 : (48 + x / 100 : UInt8).toNat = (48 + x.toNat / 100) % 256 := rfl
  have h2 : (48 + x / 10 % 10 : UInt8).toNat = (48 + x.toNat / 10 % 10) % 256 := rfl
  have h3 : (48 + x % 10 : UInt8).toNat = (48 + x.toNat % 10) % 256 := rfl
  omega

set_option maxRecDepth 100000 in
set_option maxHeartbeats 2000000 in
theorem quote_any (s : ByteArray) (w : World) (hz : s.size ≤ 17592186044416) :
    Calls Tryz.prog 52 #[.string s] w fun e w' => e = .returned (str (quoteP s.data.toList)) ∧ Below w.heap.size w w' := by
  go_enter Tryz.func52, Tryz.ntmps52
  go_wp2_with fail
  have HB0 := Lib.hid ((Below.refl _ w).alloc (Nat.le_refl _) (.cells #[.pointer none, .slice none 0 0] 131))
  refine (bd_byte w.heap.size w.heap.size [] 34 34 _ rfl (Bd.new w) (by simp) (by simp)).mono ?_
  rintro e w1 ⟨rfl, hbd, hb1⟩
  have HB1 := Lib.hid (HB0.out.trans hb1)
  have HBD := Lib.hid hbd
  clear hb1 hbd
  go_wp2_with fail
  go_loopw [9] (fun j wr => ∃ k : Nat, j = .int .i64 k ∧ k ≤ s.size ∧ Bd w.heap.size w.heap.size (34 :: (s.data.toList.take k).flatMap quoteB) wr ∧ Below w.heap.size w wr) (fun j _ => s.size - (intOf j).toNat)
  case atStart => exact ⟨0, rfl, Nat.zero_le _, HBD.out, HB1.out⟩
  case round =>
    clear HBD HB1 HB0
    obtain ⟨k, rfl, hk, hbd, hbe⟩ := hrel
    have HBD := Lib.hid hbd
    have HB := Lib.hid hbe
    have hwl := hbe.size
    have hq := quote_len (s.data.toList.take k)
    rw [List.length_take] at hq
    clear hbd hbe
    obtain ⟨acc, hacc⟩ : ∃ acc, 34 :: (s.data.toList.take k).flatMap quoteB = acc := ⟨_, rfl⟩
    have hal : acc.length ≤ 4 * s.size + 1 := by rw [← hacc]; simp only [List.length_cons]; omega
    rw [hacc] at HBD
    by_cases hlt : k < s.size
    · have hki : (k : Int) < (s.size : Int) := by omega
      obtain ⟨x, hx⟩ : ∃ x : UInt8, s[k]'hlt = x := ⟨_, rfl⟩
      have HN : RowKit.Hid (34 :: (s.data.toList.take (k + 1)).flatMap quoteB = acc ++ quoteB x) := by
        show _ = _
        have hlt' : k < s.data.toList.length := by simpa [← Lib.size_eq] using hlt
        rw [List.take_succ_eq_append_getElem hlt', List.flatMap_append, ← List.cons_append, hacc]
        simp only [List.flatMap_cons, List.flatMap_nil, List.append_nil]
        rw [← hx]; rfl
      clear hacc hq
      have hx256 := x.toNat_lt
      by_cases h34 : x.toNat = 34 ∨ x.toNat = 92
      · have HQ : RowKit.Hid (quoteB x = [92, x]) := by
          show _ = _
          rcases h34 with h | h <;> (rw [u8_of h]; rfl)
        have hstep : ∀ {P : Prop}, (((x.toNat : Int) == 34) = true → P) → (((x.toNat : Int) == 34) = false → ((x.toNat : Int) == 92) = true → P) → P := fun f g => by
          by_cases h : x.toNat = 34
          · exact f (by rw [beq_iff_eq]; omega)
          · exact g (by rw [beq_eq_false_iff_ne]; omega) (by rw [beq_iff_eq]; omega)
        clear h34
        refine hstep (fun b1 => ?_) (fun b1 b2 => ?_)
        all_goals clear hstep
        all_goals go_wp2_with fail
        all_goals refine (bd_byte w.heap.size w.heap.size acc 92 92 _ rfl HBD.out (by omega) hwl).mono ?_
        all_goals rintro e w2 ⟨rfl, hbd2, hb2⟩
        all_goals have HBD2 := Lib.hid hbd2
        all_goals have HB2 := Lib.hid (HB.out.trans hb2)
        all_goals clear hbd2 hb2
        all_goals go_wp2_with fail
        all_goals refine (bd_byte w.heap.size w.heap.size (acc ++ [92]) x _ _ rfl HBD2.out (by simp; omega) HB2.out.size).mono ?_
        all_goals rintro e w3 ⟨rfl, hbd3, hb3⟩
        all_goals have HBD3 := Lib.hid hbd3
        all_goals have HB3 := Lib.hid (HB2.out.trans hb3)
        all_goals clear hbd3 hb3
        all_goals go_wp2_with fail
        all_goals go_roundw
        case rel => exact ⟨k + 1, by go_num, by omega, by rw [HN.out, HQ.out]; simpa using HBD3.out, HB3.out⟩
        case measure => simp [intOf]; omega
        case rel => exact ⟨k + 1, by go_num, by omega, by rw [HN.out, HQ.out]; simpa using HBD3.out, HB3.out⟩
        case measure => simp [intOf]; omega
      · have b34 : ((x.toNat : Int) == 34) = false := by rw [beq_eq_false_iff_ne]; omega
        have b92 : ((x.toNat : Int) == 92) = false := by rw [beq_eq_false_iff_ne]; omega
        have e34 : (x == 34 || x == 92) = false := by
          rw [Bool.or_eq_false_iff, beq_eq_false_iff_ne, beq_eq_false_iff_ne]
          exact ⟨by rintro rfl; exact h34 (.inl rfl), by rintro rfl; exact h34 (.inr rfl)⟩
        by_cases hpr : x.toNat < 32 ∨ 126 < x.toNat
        · have HQ : RowKit.Hid (quoteB x = [92, 48 + x / 100, 48 + x / 10 % 10, 48 + x % 10]) := by
            show _ = _
            unfold quoteB
            rw [if_neg (by rw [e34]; exact Bool.false_ne_true), if_pos (by simpa using hpr)]
          have hstep : ∀ {P : Prop}, (decide ((x.toNat : Int) < 32) = true → P) → (decide ((x.toNat : Int) < 32) = false → decide ((x.toNat : Int) > 126) = true → P) → P := fun f g => by
            by_cases h : x.toNat < 32
            · exact f (by simp; omega)
            · exact g (by simp; omega) (by simp; omega)
          clear hpr e34 h34
          have hcv := conv3 wr (48 + x / 100) (48 + x / 10 % 10) (48 + x % 10) _ _ _ (esc_digits x).1 (esc_digits x).2.1 (esc_digits x).2.2
          have hal2 := (Below.refl w.heap.size wr).alloc hwl (.cells #[.int .u8 (48 + (x.toNat : Int) / 100), .int .u8 (48 + (x.toNat : Int) / 10 % 10), .int .u8 (48 + (x.toNat : Int) % 10)] 5)
          have HBA := Lib.hid (HB.out.trans hal2)
          have HBDA : RowKit.Hid (Bd w.heap.size w.heap.size acc (wr.alloc (.cells #[.int .u8 (48 + (x.toNat : Int) / 100), .int .u8 (48 + (x.toNat : Int) / 10 % 10), .int .u8 (48 + (x.toNat : Int) % 10)] 5))) := bd_alloc HBD.out _
          clear hal2
          refine hstep (fun b1 => ?_) (fun b1 b2 => ?_)
          all_goals clear hstep
          all_goals go_wp2_with fail
          all_goals refine (bd_str w.heap.size w.heap.size acc _ _ HBDA.out (by simp [ByteArray.size]; omega) HBA.out.size).mono ?_
          all_goals rintro e w3 ⟨rfl, hbd3, hb3⟩
          all_goals have HBD3 := Lib.hid hbd3
          all_goals have HB3 := Lib.hid (HBA.out.trans hb3)
          all_goals clear hbd3 hb3
          all_goals go_wp2_with fail
          all_goals go_roundw
          case rel => exact ⟨k + 1, by go_num, by omega, by rw [HN.out, HQ.out]; exact HBD3.out, HB3.out⟩
          case measure => simp [intOf]; omega
          case rel => exact ⟨k + 1, by go_num, by omega, by rw [HN.out, HQ.out]; exact HBD3.out, HB3.out⟩
          case measure => simp [intOf]; omega
        · have HQ : RowKit.Hid (quoteB x = [x]) := by
            show _ = _
            unfold quoteB
            rw [if_neg (by rw [e34]; exact Bool.false_ne_true), if_neg (by simpa using hpr)]
          have b1 : decide ((x.toNat : Int) < 32) = false := by simp; omega
          have b2 : decide ((x.toNat : Int) > 126) = false := by simp; omega
          clear hpr e34 h34
          go_wp2_with fail
          refine (bd_byte w.heap.size w.heap.size acc x _ _ rfl HBD.out (by omega) hwl).mono ?_
          rintro e w3 ⟨rfl, hbd3, hb3⟩
          have HBD3 := Lib.hid hbd3
          have HB3 := Lib.hid (HB.out.trans hb3)
          clear hbd3 hb3
          go_wp2_with fail
          go_roundw
          case rel => exact ⟨k + 1, by go_num, by omega, by rw [HN.out, HQ.out]; exact HBD3.out, HB3.out⟩
          case measure => simp [intOf]; omega
    · have hki : decide ((k : Int) < (s.size : Int)) = false := by simp; omega
      have hks : k = s.size := by omega
      go_wp2_with fail
      refine (bd_byte w.heap.size w.heap.size acc 34 34 _ rfl HBD.out (by omega) hwl).mono ?_
      rintro e w2 ⟨rfl, hbd2, hb2⟩
      have HBD2 := Lib.hid hbd2
      have HB2 := Lib.hid (HB.out.trans hb2)
      clear hbd2 hb2
      go_wp2_with fail
      refine (bd_string w.heap.size w.heap.size _ _ HBD2.out HB2.out.size).mono ?_
      rintro e w3 ⟨rfl, hb3⟩
      have HB3 := Lib.hid (HB2.out.trans hb3)
      clear hb3
      have HE : RowKit.Hid (acc ++ [34] = quoteP s.data.toList) := by
        show _ = _
        rw [← hacc, hks, List.take_of_length_le (Nat.le_of_eq (by rw [← Lib.size_eq]))]; rfl
      clear hacc
      go_wp2_with fail
      go_ret
      exact ⟨by rw [HE.out]; rfl, HB3.out⟩

end Go.Proofs.YtbchkldhnjahaaaGreatDoor
