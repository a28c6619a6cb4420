/- Behind a backslash: strconv.ParseUint, the scanner's closure based, its escape. -/
import Derived.Test.YtbchkldhnjahaaaGreatDoorLexNum
namespace Go.Proofs.YtbchkldhnjahaaaGreatDoor
open Go.RowKit Kiln
open Go.Proofs

/-- what the walks read of the library's variables -/
structure Gl (w : World) : Prop where
  mx : ∃ m, w.cell? ⟨0, 0, none⟩ = some (.int .i64 m)
  syn : ∃ ev, w.cell? ⟨1, 0, none⟩ = some ev ∧ (ev = .nilIface ∨ ∃ te pe, ev = .iface te pe)

theorem Gl.below {w w' : World} (h : Gl w) (hb : Below w.heap.size w w') : Gl w' := by
  obtain ⟨⟨m, h1⟩, ev, h2, h3⟩ := h
  exact ⟨⟨m, cell_later hb h1⟩, ev, cell_later hb h2, h3⟩

/-- a string as a value -/
abbrev str (l : Bytes) : Value := .string ⟨l.toArray⟩

/-- a slice of strings reads so -/
def Strs (w : World) (v : Value) (l : List Bytes) : Prop :=
  ∃ a cap, v = .slice a l.length cap ∧ l.length ≤ cap ∧ (l ≠ [] → ∃ b off, a = some ⟨b, off, none⟩ ∧ ∀ (i : Nat) x, l[i]? = some x → w.cell? ⟨b, off + i, none⟩ = some (str x))

theorem Strs.nil (w : World) : Strs w (.slice none 0 0) [] := ⟨none, 0, rfl, Nat.le_refl _, fun h => absurd rfl h⟩

theorem cell_al {w : World} {p : Addr} {v : Value} (h : w.cell? p = some v) (o : Obj) : (w.alloc o).cell? p = some v :=
  cell_later ((Below.refl _ w).alloc (Nat.le_refl _) o) h

def noTok : Value := .agg #[.int .i64 0, .string ⟨#[]⟩, .slice none 0 0, .int .i64 0, .int .i64 0]

/-- a path in memory of its own, from block B on -/
def StrsF (B : Nat) (w : World) (v : Value) (l : List Bytes) : Prop := Strs w v l ∧ (l ≠ [] → ∃ a n cap, v = .slice (some a) n cap ∧ B ≤ a.block)

/-- what a reader of the program returns, at place i -/
def RdPost (r : Rd) (i : Nat) (w : World) (e : Ending) (w' : World) : Prop :=
  Below w.heap.size w w' ∧ match r with
  | .error c => e = .returned (.tuple #[noTok, .int .i64 0, .int .i64 c])
  | .ok (k, t, pa, n) => ∃ pv, StrsF w.heap.size w' pv pa ∧ e = .returned (.tuple #[.agg #[.int .i64 k, str t, pv, .int .i64 0, .int .i64 0], .int .i64 (i + n : Nat), .int .i64 0])

/-- what ParseUint returns: a number, or an error that is not nil -/
def PubPost (base : Nat) (s : ByteArray) (w : World) (e : Ending) (w' : World) : Prop :=
  Below w.heap.size w w' ∧ match numVal base 0 s.data.toList with
  | some v => e = .returned (.tuple #[.int .u64 v, .nilIface])
  | none => ∃ t x, e = .returned (.tuple #[.int .u64 0, .iface t x])

theorem pub_bad {base : Nat} {s : ByteArray} {w w' : World} (h : numVal base 0 s.data.toList = none) (hb : Below w.heap.size w w') (t : TypeId) (x : Value) :
    PubPost base s w (.returned (.tuple #[.int .u64 0, .iface t x])) w' := by
  refine ⟨hb, ?_⟩; rw [h]; exact ⟨t, x, rfl⟩
theorem pub_good {base v : Nat} {s : ByteArray} {w w' : World} (h : numVal base 0 s.data.toList = some v) (hb : Below w.heap.size w w') :
    PubPost base s w (.returned (.tuple #[.int .u64 v, .nilIface])) w' := by
  refine ⟨hb, ?_⟩; rw [h]

set_option maxRecDepth 100000 in
set_option maxHeartbeats 1000000 in
theorem parseUint_pub (base : Nat) (s : ByteArray) (hs : s.size ≤ 4) (w : World) (hg : Gl w)
    (hin : Calls Tryz.prog 190 #[.string s, .int .i64 base, .int .i64 16] w (PuPost base s w)) :
    Calls Tryz.prog 155 #[.string s, .int .i64 base, .int .i64 16] w (PubPost base s w) := by
  obtain ⟨_, ev, h2, h3⟩ := hg
  have H3 := Lib.hid h3; clear h3
  cases hv : numVal base 0 s.data.toList with
  | some v =>
    have hin' : Calls Tryz.prog 190 #[.string s, .int .i64 base, .int .i64 16] w (fun e w' => e = .returned (.tuple #[.int .u64 v, .nilIface]) ∧ Below w.heap.size w w') :=
      hin.mono fun e w' h => by obtain ⟨hb, h⟩ := h; rw [hv] at h; exact ⟨h, hb⟩
    have HI := Lib.hid hin'
    have HV := Lib.hid hv
    clear hin hin' hv
    go_enter Tryz.func155, Tryz.ntmps155
    go_wp2_with (go_at_call 190; refine (HI.out).mono ?_; rintro e w' ⟨rfl, hb⟩)
    go_ret2
    exact pub_good HV.out (by assumption)
  | none =>
    have hin' : Calls Tryz.prog 190 #[.string s, .int .i64 base, .int .i64 16] w (fun e w' => e = .returned (.tuple #[.int .u64 0, .iface 199 (.int .i64 2)]) ∧ Below w.heap.size w w') :=
      hin.mono fun e w' h => by obtain ⟨hb, h⟩ := h; rw [hv] at h; exact ⟨h, hb⟩
    have HI := Lib.hid hin'
    have HV := Lib.hid hv
    clear hin hin' hv
    go_enter Tryz.func155, Tryz.ntmps155
    go_wp2_with (go_at_call 190; refine (HI.out).mono ?_; rintro e w1 ⟨rfl, hb⟩)
    have hb' : Below w.heap.size w w1 := by assumption
    refine (Tryz.strconv_toError_syntax _ _ _ _ ev _ (by omega) (cell_later hb' h2) H3.out).mono ?_
    rintro e w2 ⟨N, rfl, _, _, hb2⟩
    have HB2 := hb'.trans (hb2.mono hb'.size)
    go_wp2_with fail
    go_ret2
    exact pub_bad HV.out HB2 _ _

theorem numVal_dig : ∀ {l : Bytes} {base n v : Nat}, numVal base n l = some v → ∀ b ∈ l, digVal b < base
  | [], _, _, _, _, b, hb => by cases hb
  | c :: l, base, n, v, h, b, hb => by
    simp only [numVal] at h
    split at h
    · rename_i hc
      rcases List.mem_cons.1 hb with rfl | hb
      · exact hc
      · exact numVal_dig h b hb
    · cases h

theorem num_of_signs {s : ByteArray} {base : Nat} (hb : base ≤ 16) (h : ∃ b ∈ s.data.toList, b ∈ (⟨#[43, 45, 95]⟩ : ByteArray).data.toList) : numVal base 0 s.data.toList = none := by
  obtain ⟨b, h1, h2⟩ := h
  cases hv : numVal base 0 s.data.toList with
  | none => rfl
  | some v =>
    have h3 := numVal_dig hv b h1
    have h4 : digVal b = 255 := by
      simp only [List.mem_cons, List.not_mem_nil, or_false] at h2
      rcases h2 with rfl | rfl | rfl <;> decide
    omega

def basedOf (r : Option Nat) : Int := match r with | none => -1 | some v => if 255 < v then -1 else (v : Int)

theorem based_val {base n i : Nat} {s : ByteArray} (hi : i + n ≤ s.size) {r : Option Nat} (h : numVal base 0 (s.extract i (i + n)).data.toList = r) :
    basedP base n (s.data.toList.drop i) = basedOf r := by
  rw [Lib.extract_data, show i + n - i = n from by omega] at h
  unfold basedP
  rw [if_neg (by rw [List.length_drop, ← Lib.size_eq]; omega), h]; rfl

set_option maxRecDepth 100000 in
set_option maxHeartbeats 1000000 in
theorem based_any (base n : Nat) (hbn : base = 10 ∧ n = 3 ∨ base = 16 ∧ n = 4) (s : ByteArray) (bx b i : Nat) (w : World) (hg : Gl w)
    (hx : w.cell? ⟨bx, 0, none⟩ = some (.pointer (some ⟨b, 0, none⟩))) (hs : w.cell? ⟨b, 0, none⟩ = some (.string s)) (hz : s.size ≤ 1048576) (hi : i ≤ s.size) :
    Calls Tryz.prog 153 #[.int .i64 i, .int .i64 n, .int .i64 base, .pointer (some ⟨bx, 0, none⟩)] w fun e w' => e = .returned (.int .i64 (basedP base n (s.data.toList.drop i))) ∧ Below w.heap.size w w' := by
  have hn4 : 1 ≤ n ∧ n ≤ 4 := by omega
  have hb16 : base ≤ 16 := by omega
  have HBN := Lib.hid hbn; clear hbn
  have HG := Lib.hid hg; clear hg
  by_cases hshort : s.size < i + n
  · have HR : RowKit.Hid (basedP base n (s.data.toList.drop i) = -1) := by
      show _ = _
      unfold basedP; rw [if_pos (by rw [List.length_drop, ← Lib.size_eq]; omega)]
    go_enter Tryz.func153, Tryz.ntmps153
    go_wp2_with fail
    go_ret
    exact ⟨by rw [HR.out]; rfl, Below.refl _ _⟩
  · obtain ⟨P, hP⟩ : ∃ P, s.extract i (i + n) = P := ⟨_, rfl⟩
    have hPz : P.size = n := by rw [← hP, ByteArray.size_extract]; omega
    have hin : ∀ w, Calls Tryz.prog 190 #[.string P, .int .i64 base, .int .i64 16] w (PuPost base P w) := by
      intro w
      rcases HBN.out with ⟨rfl, rfl⟩ | ⟨rfl, rfl⟩
      · exact parseUint_10 P (by omega) (by omega) w
      · exact parseUint_16 P (by omega) (by omega) w
    have hval : ∀ r, numVal base 0 P.data.toList = r → basedP base n (s.data.toList.drop i) = basedOf r := fun r h => based_val (by omega) (by rw [hP]; exact h)
    have HV := Lib.hid hval; clear hval
    have HI := Lib.hid hin; clear hin
    have HCA := Lib.hid (fun w => containsAny_short P ⟨#[43, 45, 95]⟩ (by omega) rfl (by decide) w)
    have HPz := Lib.hid hPz; clear hPz
    go_enter Tryz.func153, Tryz.ntmps153
    go_wp2_with fail
    refine (HCA.out _).mono ?_
    rintro e w1 ⟨r, rfl, hr, hb1⟩
    have HR := Lib.hid hr; clear hr
    have hx1 := cell_later hb1 hx
    have hs1 := cell_later hb1 hs
    cases r
    · go_wp2_with fail
      refine (parseUint_pub base P (by have := HPz.out; omega) w1 (HG.out.below hb1) (HI.out w1)).mono ?_
      rintro e w2 ⟨hb2, he⟩
      have HB := Lib.hid (hb1.trans (hb2.mono hb1.size))
      cases hv : numVal base 0 P.data.toList with
      | none =>
        rw [hv] at he
        have HQ := Lib.hid (HV.out none hv)
        obtain ⟨t, x, rfl⟩ := he
        clear hv
        go_wp2_with fail
        go_ret
        exact ⟨by rw [HQ.out]; rfl, HB.out⟩
      | some v =>
        rw [hv] at he
        have HQ := Lib.hid (HV.out (some v) hv)
        subst he
        clear hv
        by_cases hv255 : 255 < v
        · go_wp2_with fail
          go_ret
          exact ⟨by rw [HQ.out]; simp only [basedOf, hv255, if_true]; rfl, HB.out⟩
        · go_wp2_with fail
          go_ret
          exact ⟨by rw [HQ.out]; simp only [basedOf, hv255, if_false]; rfl, HB.out⟩
    · have HQ := Lib.hid (HV.out none (num_of_signs hb16 (HR.out rfl)))
      go_wp2_with fail
      go_ret
      exact ⟨by rw [HQ.out]; rfl, hb1⟩

def EscPost (s : ByteArray) (i : Nat) (w : World) (e : Ending) (w' : World) : Prop :=
  e = .returned (.tuple #[.int .i64 (escP (s.data.toList.drop i)).1, .int .i64 ((escP (s.data.toList.drop i)).2 : Nat)]) ∧ Below w.heap.size w w'

theorem esc_end {s : ByteArray} {i : Nat} {w w' : World} {a b : Int} {v : Int} {n : Nat} (h : escP (s.data.toList.drop i) = (v, n)) (ha : a = v) (hb : b = n) (hw : Below w.heap.size w w') :
    EscPost s i w (.returned (.tuple #[.int .i64 a, .int .i64 b])) w' := by
  refine ⟨?_, hw⟩
  rw [h, ha, hb]

theorem u8_of {x : UInt8} {n : Nat} (h : x.toNat = n) : x = n.toUInt8 := by subst h; simp
/- escP, case by case -/
theorem escP_name {x : UInt8} {l : Bytes} (h : 0 ≤ Lib.indexByte escL x) : escP (x :: l) = (7 + Lib.indexByte escL x, 1) := by
  simp [escP, atB, h]
theorem escP_self {x : UInt8} {l : Bytes} (h : ¬ 0 ≤ Lib.indexByte escL x) (h2 : x.toNat = 34 ∨ x.toNat = 92) : escP (x :: l) = ((x.toNat : Int), 1) := by
  have : (x == 34 || x == 92) = true := by rcases h2 with h2 | h2 <;> rw [u8_of h2] <;> rfl
  simp only [escP, atB, List.getD_cons_zero, h, if_false, this, if_true, reduceCtorEq]
theorem escP_rest {x : UInt8} {l : Bytes} (h : ¬ 0 ≤ Lib.indexByte escL x) (h1 : ¬ x.toNat = 34) (h2 : ¬ x.toNat = 92) : escP (x :: l) = (
    if x == 94 then (if decide (64 ≤ (atB (x :: l) 1).toNat) && decide ((atB (x :: l) 1).toNat ≤ 95) then (((atB (x :: l) 1).toNat : Int) - 64, 2) else ((-1 : Int), 0))
    else if x == 117 then (if 0 ≤ basedP 16 4 l then (basedP 16 4 l, 5) else (-1, 0))
    else if digitB x then (if 0 ≤ basedP 10 3 (x :: l) then (basedP 10 3 (x :: l), 3) else (-1, 0))
    else if decide (0 < cntB blankB (x :: l)) && atB (x :: l) (cntB blankB (x :: l)) == 92 then (-1, cntB blankB (x :: l) + 1) else (-1, 0) : Int × Nat) := by
  have a1 : (x == 34) = false := by rw [beq_eq_false_iff_ne]; rintro rfl; exact h1 rfl
  have a2 : (x == 92) = false := by rw [beq_eq_false_iff_ne]; rintro rfl; exact h2 rfl
  have e1 : (x == 34 || x == 92) = false := by rw [a1, a2]; rfl
  simp only [escP, atB, List.getD_cons_zero, h, if_false, e1, reduceCtorEq, Bool.false_eq_true, List.drop_succ_cons, List.drop_zero]

theorem atB_drop (s : ByteArray) (i k : Nat) (h : i + k < s.size) : atB (s.data.toList.drop i) k = s[i + k]'h := by
  unfold atB
  rw [List.getD_eq_getElem?_getD, List.getElem?_drop, Lib.data_getElem? s (i + k) h]; rfl
theorem atB_none (s : ByteArray) (i k : Nat) (h : ¬ i + k < s.size) : atB (s.data.toList.drop i) k = 0 := by
  unfold atB
  rw [List.getD_eq_getElem?_getD, List.getElem?_eq_none (by rw [List.length_drop, ← Lib.size_eq]; omega)]; rfl

theorem enters_blank (args : Array Value) (w : World) : (callFunc 23 args).run Tryz.prog w = .ok (.enter 23 args) w := enters_of Tryz.func23 (by kernel_rfl) rfl args w

set_option maxRecDepth 100000 in
set_option maxHeartbeats 2000000 in
theorem escape_any (s : ByteArray) (b i : Nat) (w : World) (hg : Gl w) (hs : w.cell? ⟨b, 0, none⟩ = some (.string s)) (hz : s.size ≤ 1048576) (hi : i ≤ s.size) :
    Calls Tryz.prog 120 #[.pointer (some ⟨b, 0, none⟩), .int .i64 i] w (EscPost s i w) := by
  have HG := Lib.hid hg; clear hg
  have hs1 := cell_al hs
  by_cases hlt : i < s.size
  · obtain ⟨x, hx⟩ : ∃ x : UInt8, s[i]'hlt = x := ⟨_, rfl⟩
    have hd := cell_u8 s i hlt
    rw [hx] at hd
    have HD := Lib.hid hd; clear hd
    have hx256 := x.toNat_lt
    by_cases hk : 0 ≤ Lib.indexByte [97, 98, 116, 110, 118, 102, 114] x
    · have hk2 := indexByte_lt [97, 98, 116, 110, 118, 102, 114] x
      simp only [List.length_cons, List.length_nil] at hk2
      go_enter Tryz.func120, Tryz.ntmps120
      go_wp2_with (first | (go_at_call 78; refine (Tryz.strings_IndexByte _ _ _).mono ?_; rintro e w' ⟨rfl, rfl⟩) | (go_at_call 42; refine (digit_any _ _).mono ?_; rintro e w' ⟨rfl, rfl⟩))
      go_ret2
      exact esc_end (by rw [HD.out]; exact escP_name hk) rfl rfl ((Below.refl _ w).alloc (Nat.le_refl _) _)
    · by_cases h34 : x.toNat = 34
      · have HE : RowKit.Hid (escP (s.data.toList.drop i) = ((x.toNat : Int), 1)) := by show _ = _; rw [HD.out]; exact escP_self hk (.inl h34)
        go_enter Tryz.func120, Tryz.ntmps120
        go_wp2_with (first | (go_at_call 78; refine (Tryz.strings_IndexByte _ _ _).mono ?_; rintro e w' ⟨rfl, rfl⟩) | (go_at_call 42; refine (digit_any _ _).mono ?_; rintro e w' ⟨rfl, rfl⟩))
        go_ret2
        exact esc_end HE.out (by omega) rfl ((Below.refl _ w).alloc (Nat.le_refl _) _)
      · by_cases h92 : x.toNat = 92
        · have HE : RowKit.Hid (escP (s.data.toList.drop i) = ((x.toNat : Int), 1)) := by show _ = _; rw [HD.out]; exact escP_self hk (.inr h92)
          go_enter Tryz.func120, Tryz.ntmps120
          go_wp2_with (first | (go_at_call 78; refine (Tryz.strings_IndexByte _ _ _).mono ?_; rintro e w' ⟨rfl, rfl⟩) | (go_at_call 42; refine (digit_any _ _).mono ?_; rintro e w' ⟨rfl, rfl⟩))
          go_ret2
          exact esc_end HE.out (by omega) rfl ((Below.refl _ w).alloc (Nat.le_refl _) _)
        · have b34 : ((x.toNat : Int) == 34) = false := by rw [beq_eq_false_iff_ne]; omega
          have b92 : ((x.toNat : Int) == 92) = false := by rw [beq_eq_false_iff_ne]; omega
          have HE := Lib.hid (escP_rest (l := s.data.toList.drop (i + 1)) hk h34 h92)
          rw [← HD.out] at HE
          by_cases h94 : x.toNat = 94
          · have c94 : (x == 94) = true := by rw [u8_of h94]; rfl
            rw [c94, if_pos rfl] at HE
            by_cases hl2 : i + 1 < s.size
            · obtain ⟨y, hy⟩ : ∃ y : UInt8, s[i + 1]'hl2 = y := ⟨_, rfl⟩
              have hat : atB (s.data.toList.drop i) 1 = y := by rw [atB_drop s i 1 hl2, hy]
              rw [hat] at HE
              clear hat
              by_cases hy2 : 64 ≤ y.toNat ∧ y.toNat ≤ 95
              · rw [show (decide (64 ≤ y.toNat) && decide (y.toNat ≤ 95)) = true from by simp [hy2], if_pos rfl] at HE
                obtain ⟨hy3, hy4⟩ := hy2
                go_enter Tryz.func120, Tryz.ntmps120
                go_wp2_with (first | (go_at_call 78; refine (Tryz.strings_IndexByte _ _ _).mono ?_; rintro e w' ⟨rfl, rfl⟩) | (go_at_call 42; refine (digit_any _ _).mono ?_; rintro e w' ⟨rfl, rfl⟩))
                go_ret2
                exact esc_end HE.out (by omega) rfl ((Below.refl _ w).alloc (Nat.le_refl _) _)
              · rw [show (decide (64 ≤ y.toNat) && decide (y.toNat ≤ 95)) = false from by simp; omega, if_neg (by simp)] at HE
                rcases (show y.toNat < 64 ∨ 95 < y.toNat from by omega) with hy3 | hy3
                all_goals
                  go_enter Tryz.func120, Tryz.ntmps120
                  go_wp2_with (first | (go_at_call 78; refine (Tryz.strings_IndexByte _ _ _).mono ?_; rintro e w' ⟨rfl, rfl⟩) | (go_at_call 42; refine (digit_any _ _).mono ?_; rintro e w' ⟨rfl, rfl⟩))
                  go_ret2
                  exact esc_end HE.out rfl rfl ((Below.refl _ w).alloc (Nat.le_refl _) _)
            · have hat : atB (s.data.toList.drop i) 1 = 0 := by rw [atB_none s i 1 hl2]
              rw [hat] at HE
              go_enter Tryz.func120, Tryz.ntmps120
              go_wp2_with (first | (go_at_call 78; refine (Tryz.strings_IndexByte _ _ _).mono ?_; rintro e w' ⟨rfl, rfl⟩) | (go_at_call 42; refine (digit_any _ _).mono ?_; rintro e w' ⟨rfl, rfl⟩))
              go_ret2
              exact esc_end HE.out rfl rfl ((Below.refl _ w).alloc (Nat.le_refl _) _)
          · have c94 : (x == 94) = false := by rw [beq_eq_false_iff_ne]; rintro rfl; exact h94 rfl
            rw [c94, if_neg (by simp)] at HE
            have b94 : ((x.toNat : Int) == 94) = false := by rw [beq_eq_false_iff_ne]; omega
            by_cases h117 : x.toNat = 117
            · have c117 : (x == 117) = true := by rw [u8_of h117]; rfl
              rw [c117, if_pos rfl] at HE
              obtain ⟨V, hV⟩ : ∃ V, basedP 16 4 (s.data.toList.drop (i + 1)) = V := ⟨_, rfl⟩
              rw [hV] at HE
              have hbc : ∀ W, w.heap.size < W.heap.size → W.cell? ⟨w.heap.size, 0, none⟩ = some (.pointer (some ⟨b, 0, none⟩)) → W.cell? ⟨b, 0, none⟩ = some (.string s) → Below w.heap.size w W →
                  Calls Tryz.prog 153 #[.int .i64 (i + 1 : Nat), .int .i64 (4 : Nat), .int .i64 (16 : Nat), .pointer (some ⟨w.heap.size, 0, none⟩)] W fun e w' => e = .returned (.int .i64 V) ∧ Below W.heap.size W w' := by
                intro W _ h1 h2 h3
                rw [← hV]
                exact based_any 16 4 (.inr ⟨rfl, rfl⟩) s w.heap.size b (i + 1) W (HG.out.below h3) h1 h2 hz (by omega)
              have HBC := Lib.hid hbc; clear hbc hV
              by_cases hV0 : 0 ≤ V
              · rw [if_pos hV0] at HE
                go_enter Tryz.func120, Tryz.ntmps120
                go_wp2_with (first | (go_at_call 78; refine (Tryz.strings_IndexByte _ _ _).mono ?_; rintro e w' ⟨rfl, rfl⟩) | (go_at_call 42; refine (digit_any _ _).mono ?_; rintro e w' ⟨rfl, rfl⟩))
                refine (HBC.out _ (by simp) (by simp) (hs1 _) ((Below.refl _ w).alloc (Nat.le_refl _) _)).mono ?_
                rintro e w2 ⟨rfl, hb2⟩
                go_wp2_with fail
                go_ret2
                exact esc_end HE.out rfl rfl (((Below.refl _ w).alloc (Nat.le_refl _) _).trans (hb2.mono (by simp)))
              · rw [if_neg hV0] at HE
                go_enter Tryz.func120, Tryz.ntmps120
                go_wp2_with (first | (go_at_call 78; refine (Tryz.strings_IndexByte _ _ _).mono ?_; rintro e w' ⟨rfl, rfl⟩) | (go_at_call 42; refine (digit_any _ _).mono ?_; rintro e w' ⟨rfl, rfl⟩))
                refine (HBC.out _ (by simp) (by simp) (hs1 _) ((Below.refl _ w).alloc (Nat.le_refl _) _)).mono ?_
                rintro e w2 ⟨rfl, hb2⟩
                go_wp2_with fail
                go_ret2
                exact esc_end HE.out rfl rfl (((Below.refl _ w).alloc (Nat.le_refl _) _).trans (hb2.mono (by simp)))
            · have c117 : (x == 117) = false := by rw [beq_eq_false_iff_ne]; rintro rfl; exact h117 rfl
              rw [c117, if_neg (by simp)] at HE
              have b117 : ((x.toNat : Int) == 117) = false := by rw [beq_eq_false_iff_ne]; omega
              cases hdg : digitI x.toNat
              · rw [show digitB x = false from hdg, if_neg (by simp)] at HE
                have hrc := cntB_le blankB (s.data.toList.drop i)
                rw [List.length_drop, ← Lib.size_eq] at hrc
                have hrun : ∀ W, W.cell? ⟨b, 0, none⟩ = some (.string s) → Calls Tryz.prog 74 #[.pointer (some ⟨b, 0, none⟩), .int .i64 i, .func (.func 23) #[] #[]] W fun e w' => e = .returned (.int .i64 (i + cntB blankB (s.data.toList.drop i) : Nat)) ∧ W = w' :=
                  fun W h => run_any 23 blankB enters_blank (fun c w => blank_any _ w) s b i W h (by unfold maxLen; omega)
                have hat : ∀ h : i + cntB blankB (s.data.toList.drop i) < s.size, atB (s.data.toList.drop i) (cntB blankB (s.data.toList.drop i)) = s[i + cntB blankB (s.data.toList.drop i)]'h := fun h => atB_drop s i _ h
                have han : ¬ i + cntB blankB (s.data.toList.drop i) < s.size → atB (s.data.toList.drop i) (cntB blankB (s.data.toList.drop i)) = 0 := fun h => atB_none s i _ h
                generalize cntB blankB (s.data.toList.drop i) = k at *
                have HRN := Lib.hid hrun; clear hrun
                have HAT := Lib.hid hat; clear hat
                have HAN := Lib.hid han; clear han
                by_cases hk0 : 0 < k
                · by_cases hke : i + k < s.size
                  · obtain ⟨y, hy⟩ : ∃ y : UInt8, s[i + k]'hke = y := ⟨_, rfl⟩
                    rw [HAT.out hke, hy, decide_eq_true hk0, Bool.true_and] at HE
                    by_cases hy2 : y.toNat = 92
                    · rw [show (y == 92) = true from by rw [u8_of hy2]; rfl, if_pos rfl] at HE
                      go_enter Tryz.func120, Tryz.ntmps120
                      go_wp2_with (first | (go_at_call 78; refine (Tryz.strings_IndexByte _ _ _).mono ?_; rintro e w' ⟨rfl, rfl⟩) | (go_at_call 42; refine (digit_any _ _).mono ?_; rintro e w' ⟨rfl, rfl⟩))
                      refine (HRN.out _ (hs1 _)).mono ?_
                      rintro e w2 ⟨rfl, rfl⟩
                      go_wp2_with fail
                      go_ret2
                      exact esc_end HE.out rfl (by omega) ((Below.refl _ w).alloc (Nat.le_refl _) _)
                    · rw [show (y == 92) = false from by rw [beq_eq_false_iff_ne]; rintro rfl; exact hy2 rfl, if_neg (by simp)] at HE
                      go_enter Tryz.func120, Tryz.ntmps120
                      go_wp2_with (first | (go_at_call 78; refine (Tryz.strings_IndexByte _ _ _).mono ?_; rintro e w' ⟨rfl, rfl⟩) | (go_at_call 42; refine (digit_any _ _).mono ?_; rintro e w' ⟨rfl, rfl⟩))
                      refine (HRN.out _ (hs1 _)).mono ?_
                      rintro e w2 ⟨rfl, rfl⟩
                      go_wp2_with fail
                      go_ret2
                      exact esc_end HE.out rfl rfl ((Below.refl _ w).alloc (Nat.le_refl _) _)
                  · rw [HAN.out hke, decide_eq_true hk0, Bool.true_and, show ((0 : UInt8) == 92) = false from rfl, if_neg (by simp)] at HE
                    go_enter Tryz.func120, Tryz.ntmps120
                    go_wp2_with (first | (go_at_call 78; refine (Tryz.strings_IndexByte _ _ _).mono ?_; rintro e w' ⟨rfl, rfl⟩) | (go_at_call 42; refine (digit_any _ _).mono ?_; rintro e w' ⟨rfl, rfl⟩))
                    refine (HRN.out _ (hs1 _)).mono ?_
                    rintro e w2 ⟨rfl, rfl⟩
                    go_wp2_with fail
                    go_ret2
                    exact esc_end HE.out rfl rfl ((Below.refl _ w).alloc (Nat.le_refl _) _)
                · rw [decide_eq_false hk0, Bool.false_and, if_neg (by simp)] at HE
                  go_enter Tryz.func120, Tryz.ntmps120
                  go_wp2_with (first | (go_at_call 78; refine (Tryz.strings_IndexByte _ _ _).mono ?_; rintro e w' ⟨rfl, rfl⟩) | (go_at_call 42; refine (digit_any _ _).mono ?_; rintro e w' ⟨rfl, rfl⟩))
                  refine (HRN.out _ (hs1 _)).mono ?_
                  rintro e w2 ⟨rfl, rfl⟩
                  go_wp2_with fail
                  go_ret2
                  exact esc_end HE.out rfl rfl ((Below.refl _ w).alloc (Nat.le_refl _) _)
              · rw [show digitB x = true from hdg, if_pos rfl] at HE
                obtain ⟨V, hV⟩ : ∃ V, basedP 10 3 (s.data.toList.drop i) = V := ⟨_, rfl⟩
                rw [hV] at HE
                have hbc : ∀ W, W.cell? ⟨w.heap.size, 0, none⟩ = some (.pointer (some ⟨b, 0, none⟩)) → W.cell? ⟨b, 0, none⟩ = some (.string s) → Below w.heap.size w W →
                    Calls Tryz.prog 153 #[.int .i64 i, .int .i64 (3 : Nat), .int .i64 (10 : Nat), .pointer (some ⟨w.heap.size, 0, none⟩)] W fun e w' => e = .returned (.int .i64 V) ∧ Below W.heap.size W w' := by
                  intro W h1 h2 h3
                  rw [← hV]
                  exact based_any 10 3 (.inl ⟨rfl, rfl⟩) s w.heap.size b i W (HG.out.below h3) h1 h2 hz (by omega)
                have HBC := Lib.hid hbc; clear hbc hV
                by_cases hV0 : 0 ≤ V
                · rw [if_pos hV0] at HE
                  go_enter Tryz.func120, Tryz.ntmps120
                  go_wp2_with (first | (go_at_call 78; refine (Tryz.strings_IndexByte _ _ _).mono ?_; rintro e w' ⟨rfl, rfl⟩) | (go_at_call 42; refine (digit_any _ _).mono ?_; rintro e w' ⟨rfl, rfl⟩))
                  refine (HBC.out _ (by simp) (hs1 _) ((Below.refl _ w).alloc (Nat.le_refl _) _)).mono ?_
                  rintro e w2 ⟨rfl, hb2⟩
                  go_wp2_with fail
                  go_ret2
                  exact esc_end HE.out rfl rfl (((Below.refl _ w).alloc (Nat.le_refl _) _).trans (hb2.mono (by simp)))
                · rw [if_neg hV0] at HE
                  go_enter Tryz.func120, Tryz.ntmps120
                  go_wp2_with (first | (go_at_call 78; refine (Tryz.strings_IndexByte _ _ _).mono ?_; rintro e w' ⟨rfl, rfl⟩) | (go_at_call 42; refine (digit_any _ _).mono ?_; rintro e w' ⟨rfl, rfl⟩))
                  refine (HBC.out _ (by simp) (hs1 _) ((Below.refl _ w).alloc (Nat.le_refl _) _)).mono ?_
                  rintro e w2 ⟨rfl, hb2⟩
                  go_wp2_with fail
                  go_ret2
                  exact esc_end HE.out rfl rfl (((Below.refl _ w).alloc (Nat.le_refl _) _).trans (hb2.mono (by simp)))
  · have HE : RowKit.Hid (escP (s.data.toList.drop i) = (-1, 0)) := by show _ = _; rw [List.drop_of_length_le (by rw [← Lib.size_eq]; omega)]; rfl
    go_enter Tryz.func120, Tryz.ntmps120
    go_wp2_with (first | (go_at_call 78; refine (Tryz.strings_IndexByte _ _ _).mono ?_; rintro e w' ⟨rfl, rfl⟩) | (go_at_call 42; refine (digit_any _ _).mono ?_; rintro e w' ⟨rfl, rfl⟩))
    go_ret2
    exact esc_end HE.out rfl rfl ((Below.refl _ w).alloc (Nat.le_refl _) _)

end Go.Proofs.YtbchkldhnjahaaaGreatDoor
