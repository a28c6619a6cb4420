/- Part of the proof. Conditions: those of each theorem. -/
import Derived.Test.YtbchkldhnjahaaaGreatDoorRows
import Derived.Test.YtbchkldhnjahaaaGreatDoorShelf
import Derived.WalkKit
import Derived.WalkSpells
import Derived.WalkLawsBesides
import Derived.BigQuiet
import Derived.Deep.QuietTactic
import Derived.Lib.Hide
import Derived.Lib.IndexBytes
import Derived.Lib.OthersKept
import Derived.Lib.TrimU
import Derived.Lib.DecodeN
import Derived.Laws.Runes
import Derived.Laws.RangeString
import Derived.Deep.LoopGhost
import Derived.Lib.IndexAny
import Derived.Lib.ConvBytes
import Derived.Test.YtbchkldhnjahaaaGreatDoorPoa
import Derived.Test.YtbchkldhnjahaaaGreatDoorPob
set_option maxRecDepth 100000
set_option maxHeartbeats 40000000
namespace Go.Proofs.YtbchkldhnjahaaaGreatDoor
open Go.RowKit Kiln
open Go.Proofs
theorem IL {P : Program} {f : FuncId} {args : Array Value} {w : World} {n : Nat} {v : Value}
 (h : Calls P f args (w.drewN n) fun e x => e = .returned v ∧ w.drewN n = x) : Calls P f args (w.drewN n) fun e x => e = .returned v ∧ ∃ m, x = w.drewN m :=
 h.mono fun _ _ hh => ⟨hh.1, n, hh.2.symm⟩
theorem Ei {P : Program} {f : FuncId} {args : Array Value} {w : World} {a n : Nat} {v : Value}
 (h : Calls P f args (w.drewN (a + n)) fun e x => e = .returned v ∧ w.drewN (a + n) = x) : Calls P f args (w.drewN (a + n)) fun e x => e = .returned v ∧ ∃ m, x = w.drewN (a + m) :=
 h.mono fun _ _ hh => ⟨hh.1, n, hh.2.symm⟩
theorem Jg {P : Program} {f : FuncId} {args : Array Value} {w : World} {a n : Nat} {v : Value}
 (h : Calls P f args (w.drewN (a + n)) fun e x => e = .returned v ∧ x = w.drewN (a + n)) : Calls P f args (w.drewN (a + n)) fun e x => e = .returned v ∧ ∃ m, x = w.drewN (a + m) :=
 h.mono fun _ _ hh => ⟨hh.1, n, hh.2⟩
theorem vK {k : IntKind} {a b : Int} (h : a = b) : Ending.returned (.int k a) = .returned (.int k b) := by rw [h]
theorem kG {a b : Bool} (h : a = b) : Ending.returned (.bool a) = .returned (.bool b) := by rw [h]
theorem yX (c : Int) (w : World) : Calls Tryz.prog 23 #[.int .u8 c] w fun e w' => e = .returned (.bool (BG c)) ∧ w = w' := by
 go_enter Tryz.func23, Tryz.ntmps23;go_wp2
 all_goals (go_ret; exact ⟨by simp_all [BG], rfl⟩)
theorem dR (c : Int) (w : World) : Calls Tryz.prog 42 #[.int .u8 c] w fun e w' => e = .returned (.bool (pR c)) ∧ w = w' := by
 go_enter Tryz.func42, Tryz.ntmps42;go_wp2
 all_goals (go_ret; exact ⟨by (try simp_all [pR]) <;> omega, rfl⟩)
theorem mD (c : Int) (w : World) : Calls Tryz.prog 40 #[.int .u8 c] w fun e w' => e = .returned (.bool (lJ c)) ∧ w = w' := by
 go_enter Tryz.func40, Tryz.ntmps40;go_wp2
 all_goals (go_ret; exact ⟨by (try simp_all [lJ]) <;> omega, rfl⟩)
theorem mF (c : Int) (w : World) : Calls Tryz.prog 75 #[.int .u8 c] w fun e w' => e = .returned (.bool (Dx c)) ∧ w = w' := by
 go_enter Tryz.func75, Tryz.ntmps75;go_wp2_with (first | (go_at_call 40; refine (mD _ _).mono ?_; rintro e w' ⟨rfl, rfl⟩) | (go_at_call 42; refine (dR _ _).mono ?_; rintro e w' ⟨rfl, rfl⟩));all_goals (go_ret; exact ⟨by simp_all [Dx], rfl⟩)
theorem J8 (c : Int) (w : World) : Calls Tryz.prog 77 #[.int .u8 c] w fun e w' => e = .returned (.bool (MV c)) ∧ w = w' := by
 go_enter Tryz.func77, Tryz.ntmps77;go_wp2_with (first | (go_at_call 42; refine (dR _ _).mono ?_; rintro e w' ⟨rfl, rfl⟩));all_goals (go_ret; exact ⟨by (try simp_all [MV]) <;> omega, rfl⟩)
theorem mG (c : UInt8) (w : World) : Calls Tryz.prog 44 #[.int .u8 c.toNat] w fun e w' => e = .returned (.bool (dV c)) ∧ w = w' := by
 go_enter Tryz.func44, Tryz.ntmps44;go_wp2_with (first | (go_at_call 78; refine (Tryz.strings_IndexByte _ _ _).mono ?_; rintro e w' ⟨rfl, rfl⟩));all_goals (go_ret; exact ⟨kG (dx K9 c).symm, rfl⟩)
theorem nA (s : ByteArray) (k : Nat) (h : k < s.size) : s.data.toList.drop k = s[k] :: s.data.toList.drop (k + 1) := by
 obtain ⟨hlt, he⟩ := ξz.1 (Lib.data_getElem? s k h);rw [ξp hlt, he]
theorem lu (F : Nat) (p : UInt8 → Bool) (eg : ∀ (args : Array Value) (w : World), (callFunc F args).run Tryz.prog w = .ok (.enter F args) w) (hF : ∀ (c : UInt8) (w : World), Calls Tryz.prog F #[.int .u8 c.toNat] w fun e w' => e = .returned (.bool (p c)) ∧ w = w')
 (s : ByteArray) (b i : Nat) (w : World) (hs : w.cell? ⟨b, 0, none⟩ = some (.string s)) (hz : s.size ≤ maxLen) :
 Calls Tryz.prog 74 #[.pointer (some ⟨b, 0, none⟩), .int .i64 i, .func (.func F) #[] #[]] w fun e w' => e = .returned (.int .i64 (i + aT p (s.data.toList.drop i) : Nat)) ∧ w = w' := by
 unfold maxLen at hz;have HF := κ hF; clear hF;go_enter Tryz.func74, Tryz.ntmps74;go_wp2
 go_loop [1] (fun j => ∃ k : Nat, j = .int .i64 k ∧ i + aT p (s.data.toList.drop i) = k + aT p (s.data.toList.drop k)) (fun j => s.size - (intOf j).toNat)
 case atStart => exact ⟨i, rfl, rfl⟩
 case round =>
  obtain ⟨k, rfl, hk⟩ := hrel;have Hk := κ hk; clear hk;by_cases hlt : k < s.size
  · have hd := nA s k hlt;have Hd := κ hd; clear hd;go_wp2_with (first | ((with_reducible refine (HF.out _ _).mono ?_); rintro e w' ⟨rfl, rfl⟩))
    · go_round
      case rel => exact ⟨k + 1, by go_num, by rw [Hk.out, Hd.out]; simp only [aT]; rw [ψi (by assumption)]; omega⟩
      case measure => simp [intOf]; omega
    · go_ret;have h0 : aT p (s.data.toList.drop k) = 0 := by rw [Hd.out]; simp only [aT]; rw [ψh (by simp_all)]
      exact ⟨vK (by have := Hk.out; omega), rfl⟩
  · go_wp2
    go_ret;have h0 : aT p (s.data.toList.drop k) = 0 := by rw [List.drop_of_length_le (by rw [← ξn]; omega)]; rfl
    exact ⟨vK (by have := Hk.out; omega), rfl⟩
theorem iU (s p : ByteArray) (b i : Nat) (w : World) (hs : w.cell? ⟨b, 0, none⟩ = some (.string s)) (_hz : s.size ≤ maxLen) (hi : i ≤ s.size) :
 Calls Tryz.prog 24 #[.pointer (some ⟨b, 0, none⟩), .int .i64 i, .string p] w fun e w' => e = .returned (.bool (p.data.toList.isPrefixOf (s.data.toList.drop i))) ∧ w = w' := by
 unfold maxLen at _hz;go_enter Tryz.func24, Tryz.ntmps24;go_wp2_with (first | (go_at_call 39; refine (Tryz.strings_HasPrefix _ _ _).mono ?_; rintro e w' ⟨rfl, rfl⟩));go_ret;exact ⟨kG (by rw [List.take_of_length_le (by rw [ξ3, ← ξn]; omega)]; rfl), rfl⟩
theorem wI {l : List UInt8} {x : UInt8} (h : ∀ b ∈ l, b.toNat < 128) (hx : 128 ≤ x.toNat) : Lib.indexByte l x = -1 := by
 have h1 : l.contains x = false := by
  rw [← ξi, List.contains_iff_mem]; intro hm; have := h x hm; omega
 have h2 := Lib.indexByte_ge l x;rw [dx] at h1;simp at h1; omega
theorem oM {s : ByteArray} (h : ∀ b ∈ s.data.toList, b.toNat < 128) (i : Nat) (hi : i < s.size) : (s[i]'hi).toNat < 128 :=
 h _ (ξB (Lib.data_getElem? s i hi))
theorem Sd {p : Prop} (h : p := by
 have hne : ((y.toNat : Int) != (x.toNat : Int)) = true := by rw [ψa]; omega
 have hin : ∀ a b : Nat, Lib.indexByte ((s.data.toList.drop a).take b) x = -1 := fun a b => wI (fun c hb => HA c (List.mem_of_mem_drop (List.mem_of_mem_take hb))) hxl;clear hRl;go_wp2_with fail;refine wp_loop_rounds 1 ?_;rw [rounds_succ];go_wp2_with fail;go_step3
 go_wp2_with fail;go_quiet (fail);go_wp2_with fail;go_quiet ((go_at_call 78; exact Jg (Tryz.strings_IndexByte _ _ _)));go_wp2_with fail;simp only [Exit.noGoto_ret, Exit.inBlock, Exit.then];go_ret;exact ⟨rfl, below_drewN (ξf _ _) _⟩
 ) : p := h
theorem wF (s : ByteArray) (h3 : s.size = 3) (hasc : ∀ b ∈ s.data.toList, b.toNat < 128) (r : Int) (hr : 128 ≤ r) (hr2 : r ≤ 1114111) (hne : (r == 65533) = false) (w : World) :
 Calls Tryz.prog 230 #[.string s, .int .i32 r] w fun e w' => e = .returned (.int .i64 (-1)) ∧ Below w.heap.size w w' := by
 have HA := κ hasc; clear hasc;cases hv : Lib.validRune r
 · go_enter Tryz.func230, Tryz.ntmps230;go_wp2_with (go_at_call 266; refine (Tryz.utf8_ValidRune _ _).mono ?_; rintro e w' ⟨rfl, hw⟩; rw [hw, hv]);go_ret;exact ⟨rfl, ξf _ _⟩
 · go_enter Tryz.func230, Tryz.ntmps230;go_wp2_with (go_at_call 266; refine (Tryz.utf8_ValidRune _ _).mono ?_; rintro e w' ⟨rfl, hw⟩; rw [hw, hv]);have hu : Utf8.valid r = true := by
    rw [Go.validRune_eq]; simpa [Go.validRune, Lib.validRune] using hv
   obtain ⟨hR2, hR4, hRl⟩ := encode_facts r hu hr;obtain ⟨R, hR⟩ : ∃ R, Utf8.encode r = R := ⟨_, rfl⟩;rw [hR] at hR2 hR4 hRl;go_step3
   have hc : R.size = 2 ∨ R.size = 3 ∨ R.size = 4 := by omega
   rcases hc with hc | hc | hc
   · obtain ⟨x, hx⟩ : ∃ x, R[1]'(by omega) = x := ⟨_, rfl⟩;obtain ⟨y, hy⟩ : ∃ y, s[1]'(by omega) = y := ⟨_, rfl⟩;have hxl : 128 ≤ x.toNat := by have := hRl (by omega); simp only [hc] at this; rw [← hx]; exact this
     have hyl : y.toNat < 128 := by rw [← hy]; exact oM HA.out 1 _
     exact Sd
   · obtain ⟨x, hx⟩ : ∃ x, R[2]'(by omega) = x := ⟨_, rfl⟩;obtain ⟨y, hy⟩ : ∃ y, s[2]'(by omega) = y := ⟨_, rfl⟩;have hxl : 128 ≤ x.toNat := by have := hRl (by omega); simp only [hc] at this; rw [← hx]; exact this
     have hyl : y.toNat < 128 := by rw [← hy]; exact oM HA.out 2 _
     exact Sd
   · go_wp2_with fail;refine wp_loop_rounds 1 ?_;rw [rounds_succ];go_wp2_with fail;rw [Exit.noGoto_ret];go_ret;exact ⟨rfl, ξf _ _⟩
theorem wG (s : ByteArray) (hasc : ∀ b ∈ s.data.toList, b.toNat < 128) (w : World) :
 Calls Tryz.prog 230 #[.string s, .int .i32 65533] w fun e w' => e = .returned (.int .i64 (-1)) ∧ Below w.heap.size w w' := by
 have HA := κ hasc; clear hasc;go_enter Tryz.func230, Tryz.ntmps230;go_wp2_with fail;go_loopg [] s.size (fun g wx => ∃ i : Nat, i + g = s.size ∧ wx = w.iter s i)
 case atStart => exact ⟨0, by omega, rfl⟩
 case round =>
  obtain ⟨i, hig, rfl⟩ := hrel;cases gk with
  | zero =>
   obtain rfl : i = s.size := by omega
   have hnx := run_next_end (P := Tryz.prog) w s s.size;go_wp2
   go_ret;exact ⟨rfl, (ξf _ w).alloc (ξF _) _⟩
  | succ g =>
   have hi : i < s.size := by omega
   obtain ⟨x, hx⟩ : ∃ x : UInt8, s[i]'hi = x := ⟨_, rfl⟩;have hx128 : x.toNat < 128 := by rw [← hx]; exact oM HA.out i _
   have hnx := fun ty => run_next_ascii (P := Tryz.prog) w s i ty hi (by rw [hx]; exact hx128);rw [hx] at hnx;clear hx;go_wp2
   go_roundg g
   case measure => omega
   case rel => exact ⟨i + 1, by omega, rfl⟩
theorem zZ (n b0 b1 b2 b3 : Nat) (h : 128 ≤ b0) : 128 ≤ (Lib.decodeN n b0 b1 b2 b3).1 := by
 unfold Lib.decodeN;repeat' split
 all_goals (try simp only [])
 all_goals omega
theorem CW (s : ByteArray) (i : Nat) (hi : i < s.size) (h : 128 ≤ (s[i]'hi).toNat) : 128 ≤ (Utf8.decode s i).1 := by
 rw [Lib.decode_at];refine zZ _ _ _ _ _ ?_;have e : s.get! i = s[i]'hi := by
  simp only [ByteArray.get!, ByteArray.getElem_eq_getElem_data];exact getElem!_pos s.data i hi
 rw [e]; exact h
theorem zY (s : ByteArray) (i : Nat) (hi : i < s.size) (h : (s[i]'hi).toNat < 128) : (Utf8.decode s i).1 = (s[i]'hi).toNat := by
 rw [Lib.decode_at];have e : s.get! i = s[i]'hi := by
  simp only [ByteArray.get!, ByteArray.getElem_eq_getElem_data];exact getElem!_pos s.data i hi
 rw [e, Lib.decodeN, ψi h]
theorem wH (c : ByteArray) (h3 : c.size = 3) (hasc : ∀ b ∈ c.data.toList, b.toNat < 128) (R : Nat) (hR : R ≤ 1114111) (w : World) :
 Calls Tryz.prog 230 #[.string c, .int .i32 R] w fun e w' => e = .returned (.int .i64 (if R < 128 then Lib.indexByte c.data.toList R.toUInt8 else -1)) ∧ Below w.heap.size w w' := by
 by_cases h : R < 128
 · rw [ψi h];exact (Tryz.strings_IndexRune_ascii c R w (by omega) (by omega)).mono fun e w' hh => ⟨hh.1, hh.2 ▸ ξf _ _⟩
 · rw [ψh h];by_cases h2 : R = 65533
   · subst h2; exact wG c hasc w
   · exact wF c h3 hasc R (by omega) (by omega) (by rw [ξY]; omega) w
def ME (s c : ByteArray) (w : World) (e : Ending) (w' : World) : Prop :=
 ∃ r : Int, e = .returned (.int .i64 r) ∧ (0 ≤ r → ∃ b ∈ s.data.toList, b ∈ c.data.toList) ∧ Below w.heap.size w w'
theorem tJ (s c : ByteArray) (h8 : s.size ≤ 8) (h3 : c.size = 3) (hasc : ∀ b ∈ c.data.toList, b.toNat < 128) (w : World) :
 Calls Tryz.prog 189 #[.string s, .string c] w (ME s c w) := by
 have HA := κ hasc; clear hasc;have hemp : c.toList.isEmpty = false := by
  rw [Lib.toList_data];cases h : c.data.toList with
  | nil => have := ξn c; rw [h, ξ5] at this; omega
  | cons _ _ => rfl
 have hn1 : ((c.size : Int) == 1) = false := ξY.2 (by omega);have h8z : decide ((8 : Int) < (s.size : Int)) = false := decide_eq_false (by omega);go_enter Tryz.func189, Tryz.ntmps189;go_wp2_with (go_at_call 231; refine (Tryz.strings_shouldUseASCIISet _ _).mono ?_; rintro e w' ⟨rfl, hw⟩; rw [hw, h8z]);go_loopg [9, 10] s.size (fun g _ _ wx => ∃ pos : Nat, wx.heap[w.heap.size]? = some (.stringIter s pos) ∧ Below w.heap.size w wx ∧ s.size ≤ pos + g)
 case atStart => exact ⟨0, World.iter_heap w s 0, (ξf _ w).alloc (ξF _) _, by omega⟩
 case round =>
  obtain ⟨pos, hit, hbw, hfu⟩ := hrel;by_cases hps : pos < s.size
  · obtain ⟨g', rfl⟩ : ∃ g', gk = g' + 1 := ⟨gk - 1, by omega⟩;have hnx : ∀ ty, (Instr.next (.pointer (some ⟨w.heap.size, 0, none⟩)) true ty).run Tryz.prog wr = _ := fun ty => Lib.run_next_any_at wr w.heap.size s pos ty hit hps;have hwd := Lib.width_pos s pos;have hfar := CW s pos hps;obtain ⟨R, hR⟩ : ∃ R, (Utf8.decode s pos).1 = R := ⟨_, rfl⟩;obtain ⟨K, hK⟩ : ∃ K, (Utf8.decode s pos).2 = K := ⟨_, rfl⟩;rw [hR, hK] at hnx;rw [hK] at hwd;rw [hR] at hfar;have hit2 := Lib.iterAt_heap wr w.heap.size s pos (pos + K) hit;have hbw2 := Lib.below_iterAt hbw (k := w.heap.size) (ξF _) s (pos + K);obtain ⟨W, hWd⟩ : ∃ W, wr.iterAt w.heap.size s (pos + K) = W := ⟨_, rfl⟩;rw [hWd] at hnx hit2 hbw2;have hltW : w.heap.size < W.heap.size := (ξd.1 hit2).1;have hle : R ≤ 1114111 := by rw [← hR]; exact Lib.rune_le s pos
    have hgo : 0 ≤ (if R < 128 then Lib.indexByte c.data.toList R.toUInt8 else -1) → ∃ b ∈ s.data.toList, b ∈ c.data.toList := by
     intro h0;by_cases hx : (s[pos]'hps).toNat < 128
     · have e := zY s pos hps hx;rw [hR] at e;rw [e, ψi hx] at h0;have hmem : (s[pos]'hps) ∈ s.data.toList := ξB (Lib.data_getElem? s pos hps);refine ⟨_, hmem, ?_⟩;have h2 := dx c.data.toList (s[pos]'hps);have e2 : (s[pos]'hps).toNat.toUInt8 = s[pos]'hps := by simp
       rw [e2] at h0;rw [← List.contains_iff_mem, h2]; simpa using h0
     · rw [ψh (by have := hfar (by omega); omega)] at h0; omega
    obtain ⟨V, hV⟩ : ∃ V : Int, (if R < 128 then Lib.indexByte c.data.toList R.toUInt8 else -1) = V := ⟨_, rfl⟩;rw [hV] at hgo;have hcall := wH c h3 HA R hle W;rw [hV] at hcall;have HC := κ hcall; clear hcall hfar hV hR hK hit;have HG := κ hgo; clear hgo;by_cases hv : 0 ≤ V
    · go_wp2_with (go_at_call 230; refine (HC).mono ?_; rintro e W' ⟨rfl, hbc⟩);go_ret;exact ⟨_, rfl, fun _ => HG hv, hbw2.trans (hbc.mono hbw2.size)⟩
    · go_wp2_with (go_at_call 230; refine (HC).mono ?_; rintro e W' ⟨rfl, hbc⟩);go_roundg g'
      case measure => omega
      case rel => exact ⟨pos + K, (hbc.block _ hltW).trans hit2, (hbw2.trans (hbc.mono hbw2.size)), by omega⟩
  · have hnx : ∀ ty, (Instr.next (.pointer (some ⟨w.heap.size, 0, none⟩)) true ty).run Tryz.prog wr = _ := fun ty => Lib.run_next_end_at wr w.heap.size s pos ty hit hps;go_wp2
    go_ret;exact ⟨_, rfl, fun h => absurd h (by decide), hbw⟩
def MF (s c : ByteArray) (w : World) (e : Ending) (w' : World) : Prop :=
 ∃ r : Bool, e = .returned (.bool r) ∧ (r = true → ∃ b ∈ s.data.toList, b ∈ c.data.toList) ∧ Below w.heap.size w w'
theorem oK (s c : ByteArray) (h8 : s.size ≤ 8) (h3 : c.size = 3) (hasc : ∀ b ∈ c.data.toList, b.toNat < 128) (w : World) :
 Calls Tryz.prog 154 #[.string s, .string c] w (MF s c w) := by
 have HC := κ (tJ s c h8 h3 hasc w);clear h3 hasc h8;go_enter Tryz.func154, Tryz.ntmps154;go_wp2_with (go_at_call 189; refine (HC).mono ?_; rintro e W' ⟨r, rfl, hr, hb⟩; have HR := κ hr; clear hr);go_ret;exact ⟨_, rfl, fun h => HR.out (by simpa using h), hb⟩
theorem vh (s : ByteArray) (w : World) : ∃ C W, (convert 9 129 (.string s)).run Tryz.prog w = .ok (.slice (some ⟨w.heap.size, 0, none⟩) s.size C) W ∧
 (∀ j (hj : j < s.size), W.cell? ⟨w.heap.size, j, none⟩ = some (.int .u8 (s[j]'hj).toNat)) ∧ Below w.heap.size w W := by
 refine ⟨_, _, Lib.run_convert_string_bytes w _ _ 5 s (u := .string) (by kernel_rfl) (by kernel_rfl) (by kernel_rfl), ?_, ?_⟩
 · intro j hj;rw [Lib.bytesWorld_cell w _ s j hj, ξr, Lib.data_getElem? s j hj]; rfl
 · refine ⟨?_, ?_, ?_, by rw [Lib.bytesWorld_size]; omega, fun k hk => Lib.bytesWorld_at_old w _ s k hk⟩;all_goals (unfold Lib.bytesWorld World.freeze; rw [ψh (by decide)]; rfl)
def vB (base : Nat) (s : ByteArray) (w : World) (e : Ending) (w' : World) : Prop :=
 Below w.heap.size w w' ∧ match eX base 0 s.data.toList with
 | some v => e = .returned (.tuple #[.int .u64 v, .nilIface])
 | none => e = .returned (.tuple #[.int .u64 0, .iface 199 (.int .i64 2)])
theorem AV : ∀ x : UInt8, bits .or .u8 x.toNat 32 = ((x ||| 32).toNat : Int) := by
 have h : ∀ n : Fin 256, bits .or .u8 (UInt8.ofNat n.val).toNat 32 = ((UInt8.ofNat n.val ||| 32).toNat : Int) := by decide +kernel
 intro x;have := h ⟨x.toNat, x.toNat_lt⟩;simpa using this
theorem yP : ∀ x : UInt8, (48 ≤ x.toNat ∧ x.toNat ≤ 57 ∧ iy x = x.toNat - 48) ∨
 ((x.toNat < 48 ∨ 57 < x.toNat) ∧ 97 ≤ (x ||| 32).toNat ∧ (x ||| 32).toNat ≤ 122 ∧ iy x = (x ||| 32).toNat - 87 ∧ x.toNat ≠ 95) ∨
 ((x.toNat < 48 ∨ 57 < x.toNat) ∧ ((x ||| 32).toNat < 97 ∨ 122 < (x ||| 32).toNat) ∧ iy x = 255) := by
 have h : ∀ n : Fin 256, (48 ≤ (UInt8.ofNat n.val).toNat ∧ (UInt8.ofNat n.val).toNat ≤ 57 ∧ iy (UInt8.ofNat n.val) = (UInt8.ofNat n.val).toNat - 48) ∨
  (((UInt8.ofNat n.val).toNat < 48 ∨ 57 < (UInt8.ofNat n.val).toNat) ∧ 97 ≤ (UInt8.ofNat n.val ||| 32).toNat ∧ (UInt8.ofNat n.val ||| 32).toNat ≤ 122 ∧ iy (UInt8.ofNat n.val) = (UInt8.ofNat n.val ||| 32).toNat - 87 ∧ (UInt8.ofNat n.val).toNat ≠ 95) ∨
  (((UInt8.ofNat n.val).toNat < 48 ∨ 57 < (UInt8.ofNat n.val).toNat) ∧ ((UInt8.ofNat n.val ||| 32).toNat < 97 ∨ 122 < (UInt8.ofNat n.val ||| 32).toNat) ∧ iy (UInt8.ofNat n.val) = 255) := by decide +kernel
 intro x;have := h ⟨x.toNat, x.toNat_lt⟩;simpa using this
def ql (base : Nat) (s : ByteArray) (k n : Nat) : Prop := eX base 0 s.data.toList = eX base n (s.data.toList.drop k) ∧ n + 1 ≤ 16 ^ k
theorem uI (base : Nat) (s : ByteArray) : ql base s 0 0 := ⟨rfl, by simp⟩
theorem ql.small {base : Nat} {s : ByteArray} {k n : Nat} (h : ql base s k n) (hk : k ≤ 3) : n ≤ 4095 := by
 have h1 : 16 ^ k ≤ 16 ^ 3 := Nat.pow_le_pow_right (by omega) hk;have := h.2;simp at h1; omega
theorem ql.step {base : Nat} {s : ByteArray} {k n : Nat} {x : UInt8} (h : ql base s k n) (hb : base ≤ 16) (hk : k < s.size) (hx : s[k]'hk = x) (hd : iy x < base) : ql base s (k + 1) (n * base + iy x) := by
 refine ⟨?_, ?_⟩
 · rw [h.1, nA s k hk, hx, eX, ψi hd]
 · have h1 := h.2;have h2 : n * base ≤ n * 16 := Nat.mul_le_mul_left _ hb;rw [Nat.pow_succ]; omega
theorem ql.bad {base : Nat} {s : ByteArray} {k n : Nat} {x : UInt8} (h : ql base s k n) (hk : k < s.size) (hx : s[k]'hk = x) (hd : ¬ iy x < base) : eX base 0 s.data.toList = none := by
 rw [h.1, nA s k hk, hx, eX, ψh hd]
theorem ql.last {base : Nat} {s : ByteArray} {k n : Nat} (h : ql base s k n) (hk : ¬ k < s.size) : eX base 0 s.data.toList = some n := by
 rw [h.1, List.drop_of_length_le (by rw [← ξn]; omega)]; rfl
theorem Ek {base : Nat} {s : ByteArray} {w w' : World} (h : eX base 0 s.data.toList = none) (hb : Below w.heap.size w w') :
 vB base s w (.returned (.tuple #[.int .u64 0, .iface 199 (.int .i64 2)])) w' := by
 refine ⟨hb, ?_⟩; rw [h]
theorem Ej {base v : Nat} {s : ByteArray} {w w' : World} (h : eX base 0 s.data.toList = some v) (hb : Below w.heap.size w w') :
 vB base s w (.returned (.tuple #[.int .u64 v, .nilIface])) w' := by
 refine ⟨hb, ?_⟩; rw [h]
theorem fT {k : IntKind} {a b : Int} (h : a = b) : Value.int k a = .int k b := by rw [h]
theorem xW (s : ByteArray) (h0 : 0 < s.size) (h4 : s.size ≤ 4) (w : World) :
    Calls Tryz.prog 190 #[.string s, .int .i64 10, .int .i64 16] w (vB 10 s w) := by
  have hemp : s.toList.isEmpty = false := by
    rw [Lib.toList_data]
    cases h : s.data.toList with
    | nil => have := ξn s; rw [h, ξ5] at this; omega
    | cons _ _ => rfl
  obtain ⟨C, W, hconv, hcell, hbel⟩ := vh s w
  have HC := κ hcell; clear hcell
  go_enter Tryz.func190, Tryz.ntmps190
  go_wp2_with fail
  obtain ⟨cut, hcut⟩ : ∃ c : Int, c = 1844674407370955162 := ⟨_, rfl⟩
  rw [← hcut]
  have hcut2 : 5000 ≤ cut := by omega
  clear hcut
  go_loop [12, 13, 101] (fun u v i => u = .bool false ∧ ∃ k n : Nat, i = .int .i64 k ∧ v = .int .u64 n ∧ k ≤ s.size ∧ ql 10 s k n) (fun _ _ i => s.size - (intOf i).toNat)
  case atStart => exact ⟨rfl, 0, 0, rfl, rfl, ξM _, uI _ s⟩
  case round =>
    obtain ⟨rfl, k, n, rfl, rfl, hk, hat⟩ := hrel
    have HAt := κ hat
    by_cases hlt : k < s.size
    · obtain ⟨x, hx⟩ : ∃ x : UInt8, s[k]'hlt = x := ⟨_, rfl⟩
      have hc := HC.out k hlt
      rw [hx] at hc
      have hn := hat.small (by omega)
      clear hat
      have hq := AV x
      have Hx := κ hx; clear hx
      generalize hqq : (x ||| 32).toNat = q at hq
      have Hd := κ (yP x)
      rw [hqq] at Hd
      have hx256 := x.toNat_lt
      have hq256 := (x ||| 32).toNat_lt
      rw [hqq] at hq256
      clear hqq
      rcases Hd.out with ⟨h1, h2, hd⟩ | ⟨h1, h2, h3, hd, h95⟩ | ⟨h1, h2, hd⟩
      · clear hq
        have HD := κ hd; clear hd Hd
        by_cases hlow : x.toNat - 48 < 10
        · go_wp2_with (go_at_call 234; refine (Tryz.internal_strconv_lower _ _).mono ?_; rintro e w' ⟨rfl, rfl⟩)
          go_round
          case rel => exact ⟨rfl, k + 1, n * 10 + iy x, by go_num, fT (by have := HD.out; omega), by omega, HAt.out.step (by omega) hlt Hx.out (by have := HD.out; omega)⟩
          case measure => simp [intOf]; omega
        · exfalso; omega
      · have HD := κ hd; clear hd Hd
        rcases h1 with h1 | h1
        all_goals
          by_cases hlow : q - 87 < 10
          · first
              | (exfalso; omega)
              | (go_wp2_with (go_at_call 234; refine (Tryz.internal_strconv_lower _ _).mono ?_; rintro e w' ⟨rfl, rfl⟩)
                 go_round
                 case rel => exact ⟨rfl, k + 1, n * 10 + iy x, by go_num, fT (by have := HD.out; omega), by omega, HAt.out.step (by omega) hlt Hx.out (by have := HD.out; omega)⟩
                 case measure => simp [intOf]; omega)
          · have HB := κ (HAt.out.bad hlt Hx.out (by have := HD.out; omega))
            go_wp2_with (go_at_call 234; refine (Tryz.internal_strconv_lower _ _).mono ?_; rintro e w' ⟨rfl, rfl⟩)
            go_ret2
            exact Ek HB.out hbel
      · have HB := κ (HAt.out.bad hlt Hx.out (by omega))
        clear hd Hd
        rcases h1 with h1 | h1 <;> rcases h2 with h2 | h2
        all_goals
          go_wp2_with (go_at_call 234; refine (Tryz.internal_strconv_lower _ _).mono ?_; rintro e w' ⟨rfl, rfl⟩)
          all_goals
            go_ret2
            exact Ek HB.out hbel
    · have HG := κ (hat.last hlt); clear hat
      go_wp2_with fail
      go_ret2
      exact Ej HG.out hbel
theorem xV (s : ByteArray) (h0 : 0 < s.size) (h4 : s.size ≤ 4) (w : World) :
    Calls Tryz.prog 190 #[.string s, .int .i64 16, .int .i64 16] w (vB 16 s w) := by
  have hemp : s.toList.isEmpty = false := by
    rw [Lib.toList_data]
    cases h : s.data.toList with
    | nil => have := ξn s; rw [h, ξ5] at this; omega
    | cons _ _ => rfl
  obtain ⟨C, W, hconv, hcell, hbel⟩ := vh s w
  have HC := κ hcell; clear hcell
  go_enter Tryz.func190, Tryz.ntmps190
  go_wp2_with fail
  obtain ⟨cut, hcut⟩ : ∃ c : Int, c = 1152921504606846976 := ⟨_, rfl⟩
  rw [← hcut]
  have hcut2 : 5000 ≤ cut := by omega
  clear hcut
  go_loop [12, 13, 101] (fun u v i => u = .bool false ∧ ∃ k n : Nat, i = .int .i64 k ∧ v = .int .u64 n ∧ k ≤ s.size ∧ ql 16 s k n) (fun _ _ i => s.size - (intOf i).toNat)
  case atStart => exact ⟨rfl, 0, 0, rfl, rfl, ξM _, uI _ s⟩
  case round =>
    obtain ⟨rfl, k, n, rfl, rfl, hk, hat⟩ := hrel
    have HAt := κ hat
    by_cases hlt : k < s.size
    · obtain ⟨x, hx⟩ : ∃ x : UInt8, s[k]'hlt = x := ⟨_, rfl⟩
      have hc := HC.out k hlt
      rw [hx] at hc
      have hn := hat.small (by omega)
      clear hat
      have hq := AV x
      have Hx := κ hx; clear hx
      generalize hqq : (x ||| 32).toNat = q at hq
      have Hd := κ (yP x)
      rw [hqq] at Hd
      have hx256 := x.toNat_lt
      have hq256 := (x ||| 32).toNat_lt
      rw [hqq] at hq256
      clear hqq
      rcases Hd.out with ⟨h1, h2, hd⟩ | ⟨h1, h2, h3, hd, h95⟩ | ⟨h1, h2, hd⟩
      · clear hq
        have HD := κ hd; clear hd Hd
        by_cases hlow : x.toNat - 48 < 16
        · go_wp2_with (go_at_call 234; refine (Tryz.internal_strconv_lower _ _).mono ?_; rintro e w' ⟨rfl, rfl⟩)
          go_round
          case rel => exact ⟨rfl, k + 1, n * 16 + iy x, by go_num, fT (by have := HD.out; omega), by omega, HAt.out.step (by omega) hlt Hx.out (by have := HD.out; omega)⟩
          case measure => simp [intOf]; omega
        · exfalso; omega
      · have HD := κ hd; clear hd Hd
        rcases h1 with h1 | h1
        all_goals
          by_cases hlow : q - 87 < 16
          · first
              | (exfalso; omega)
              | (go_wp2_with (go_at_call 234; refine (Tryz.internal_strconv_lower _ _).mono ?_; rintro e w' ⟨rfl, rfl⟩)
                 go_round
                 case rel => exact ⟨rfl, k + 1, n * 16 + iy x, by go_num, fT (by have := HD.out; omega), by omega, HAt.out.step (by omega) hlt Hx.out (by have := HD.out; omega)⟩
                 case measure => simp [intOf]; omega)
          · have HB := κ (HAt.out.bad hlt Hx.out (by have := HD.out; omega))
            go_wp2_with (go_at_call 234; refine (Tryz.internal_strconv_lower _ _).mono ?_; rintro e w' ⟨rfl, rfl⟩)
            go_ret2
            exact Ek HB.out hbel
      · have HB := κ (HAt.out.bad hlt Hx.out (by omega))
        clear hd Hd
        rcases h1 with h1 | h1 <;> rcases h2 with h2 | h2
        all_goals
          go_wp2_with (go_at_call 234; refine (Tryz.internal_strconv_lower _ _).mono ?_; rintro e w' ⟨rfl, rfl⟩)
          all_goals
            go_ret2
            exact Ek HB.out hbel
    · have HG := κ (hat.last hlt); clear hat
      go_wp2_with fail
      go_ret2
      exact Ej HG.out hbel
structure Gl (w : World) : Prop where
 mx : ∃ m, w.cell? ⟨0, 0, none⟩ = some (.int .i64 m)
 syn : ∃ ev, w.cell? ⟨1, 0, none⟩ = some ev ∧ (ev = .nilIface ∨ ∃ te pe, ev = .iface te pe)
theorem Gl.below {w w' : World} (h : Gl w) (hb : Below w.heap.size w w') : Gl w' := by
 obtain ⟨⟨m, h1⟩, ev, h2, h3⟩ := h;exact ⟨⟨m, cell_later hb h1⟩, ev, cell_later hb h2, h3⟩
abbrev str (l : Bytes) : Value := .string ⟨l.toArray⟩
def Strs (w : World) (v : Value) (l : List Bytes) : Prop :=
 ∃ a cap, v = .slice a l.length cap ∧ l.length ≤ cap ∧ (l ≠ [] → ∃ b off, a = some ⟨b, off, none⟩ ∧ ∀ (i : Nat) x, l[i]? = some x → w.cell? ⟨b, off + i, none⟩ = some (str x))
theorem Strs.nil (w : World) : Strs w (.slice none 0 0) [] := ⟨none, 0, rfl, ξF _, fun h => absurd rfl h⟩
theorem ay {w : World} {p : Addr} {v : Value} (h : w.cell? p = some v) (o : Obj) : (w.alloc o).cell? p = some v :=
 cell_later ((ξf _ w).alloc (ξF _) o) h
def MR : Value := .agg #[.int .i64 0, .string ⟨#[]⟩, .slice none 0 0, .int .i64 0, .int .i64 0]
def oQ (B : Nat) (w : World) (v : Value) (l : List Bytes) : Prop := Strs w v l ∧ (l ≠ [] → ∃ a n cap, v = .slice (some a) n cap ∧ B ≤ a.block)
def j5 (r : Rd) (i : Nat) (w : World) (e : Ending) (w' : World) : Prop :=
 Below w.heap.size w w' ∧ match r with
 | .error c => e = .returned (.tuple #[MR, .int .i64 0, .int .i64 c])
 | .ok (k, t, pa, n) => ∃ pv, oQ w.heap.size w' pv pa ∧ e = .returned (.tuple #[.agg #[.int .i64 k, str t, pv, .int .i64 0, .int .i64 0], .int .i64 (i + n : Nat), .int .i64 0])
def Ae (base : Nat) (s : ByteArray) (w : World) (e : Ending) (w' : World) : Prop :=
 Below w.heap.size w w' ∧ match eX base 0 s.data.toList with
 | some v => e = .returned (.tuple #[.int .u64 v, .nilIface])
 | none => ∃ t x, e = .returned (.tuple #[.int .u64 0, .iface t x])
theorem JF {base : Nat} {s : ByteArray} {w w' : World} (h : eX base 0 s.data.toList = none) (hb : Below w.heap.size w w') (t : TypeId) (x : Value) :
 Ae base s w (.returned (.tuple #[.int .u64 0, .iface t x])) w' := by
 refine ⟨hb, ?_⟩; rw [h]; exact ⟨t, x, rfl⟩
theorem GY {base v : Nat} {s : ByteArray} {w w' : World} (h : eX base 0 s.data.toList = some v) (hb : Below w.heap.size w w') :
 Ae base s w (.returned (.tuple #[.int .u64 v, .nilIface])) w' := by
 refine ⟨hb, ?_⟩; rw [h]
theorem vZ (base : Nat) (s : ByteArray) (hs : s.size ≤ 4) (w : World) (hg : Gl w)
 (hin : Calls Tryz.prog 190 #[.string s, .int .i64 base, .int .i64 16] w (vB base s w)) :
 Calls Tryz.prog 155 #[.string s, .int .i64 base, .int .i64 16] w (Ae base s w) := by
 obtain ⟨_, ev, h2, h3⟩ := hg;have H3 := κ h3; clear h3;cases hv : eX base 0 s.data.toList with
 | some v =>
  have hin' : Calls Tryz.prog 190 #[.string s, .int .i64 base, .int .i64 16] w (fun e w' => e = .returned (.tuple #[.int .u64 v, .nilIface]) ∧ Below w.heap.size w w') :=
   hin.mono fun e w' h => by obtain ⟨hb, h⟩ := h; rw [hv] at h; exact ⟨h, hb⟩
  have HI := κ hin';have HV := κ hv;clear hin hin' hv;go_enter Tryz.func155, Tryz.ntmps155;go_wp2_with (go_at_call 190; refine (HI).mono ?_; rintro e w' ⟨rfl, hb⟩);go_ret2
  exact GY HV (by assumption)
 | none =>
  have hin' : Calls Tryz.prog 190 #[.string s, .int .i64 base, .int .i64 16] w (fun e w' => e = .returned (.tuple #[.int .u64 0, .iface 199 (.int .i64 2)]) ∧ Below w.heap.size w w') :=
   hin.mono fun e w' h => by obtain ⟨hb, h⟩ := h; rw [hv] at h; exact ⟨h, hb⟩
  have HI := κ hin';have HV := κ hv;clear hin hin' hv;go_enter Tryz.func155, Tryz.ntmps155;go_wp2_with (go_at_call 190; refine (HI).mono ?_; rintro e w1 ⟨rfl, hb⟩);have hb' : Below w.heap.size w w1 := by assumption
  refine (Tryz.strconv_toError_syntax _ _ _ _ ev _ (by omega) (cell_later hb' h2) H3).mono ?_;rintro e w2 ⟨N, rfl, _, _, hb2⟩;have HB2 := hb'.trans (hb2.mono hb'.size);go_wp2_with fail;go_ret2
  exact JF HV HB2 _ _
theorem uG : ∀ {l : Bytes} {base n v : Nat}, eX base n l = some v → ∀ b ∈ l, iy b < base
 | [], _, _, _, _, b, hb => by cases hb
 | c :: l, base, n, v, h, b, hb => by
  simp only [eX] at h;split at h
  · rename_i hc;rcases List.mem_cons.1 hb with rfl | hb
    · exact hc
    · exact uG h b hb
  · cases h
theorem yg {s : ByteArray} {base : Nat} (hb : base ≤ 16) (h : ∃ b ∈ s.data.toList, b ∈ (⟨#[43, 45, 95]⟩ : ByteArray).data.toList) : eX base 0 s.data.toList = none := by
 obtain ⟨b, h1, h2⟩ := h;cases hv : eX base 0 s.data.toList with
 | none => rfl
 | some v =>
  have h3 := uG hv b h1;have h4 : iy b = 255 := by
   simp only [List.mem_cons, List.not_mem_nil, or_false] at h2;rcases h2 with rfl | rfl | rfl <;> decide
  omega
def wT (r : Option Nat) : Int := match r with | none => -1 | some v => if 255 < v then -1 else (v : Int)
theorem FJ {base n i : Nat} {s : ByteArray} (hi : i + n ≤ s.size) {r : Option Nat} (h : eX base 0 (s.extract i (i + n)).data.toList = r) :
 cB base n (s.data.toList.drop i) = wT r := by
 rw [Lib.extract_data, show i + n - i = n from by omega] at h;unfold cB;rw [ψh (by rw [ξ3, ← ξn]; omega), h]; rfl
theorem yY (base n : Nat) (hbn : base = 10 ∧ n = 3 ∨ base = 16 ∧ n = 4) (s : ByteArray) (bx b i : Nat) (w : World) (hg : Gl w)
 (hx : w.cell? ⟨bx, 0, none⟩ = some (.pointer (some ⟨b, 0, none⟩))) (hs : w.cell? ⟨b, 0, none⟩ = some (.string s)) (hz : s.size ≤ 1048576) (hi : i ≤ s.size) :
 Calls Tryz.prog 153 #[.int .i64 i, .int .i64 n, .int .i64 base, .pointer (some ⟨bx, 0, none⟩)] w fun e w' => e = .returned (.int .i64 (cB base n (s.data.toList.drop i))) ∧ Below w.heap.size w w' := by
 have hn4 : 1 ≤ n ∧ n ≤ 4 := by omega
 have hb16 : base ≤ 16 := by omega
 have HBN := κ hbn; clear hbn;have HG := κ hg; clear hg;by_cases hshort : s.size < i + n
 · have HR : RowKit.Hid (cB base n (s.data.toList.drop i) = -1) := by
    show _ = _;unfold cB; rw [ψi (by rw [ξ3, ← ξn]; omega)]
   go_enter Tryz.func153, Tryz.ntmps153;go_wp2_with fail;go_ret;exact ⟨by rw [HR.out]; rfl, ξf _ _⟩
 · obtain ⟨P, hP⟩ : ∃ P, s.extract i (i + n) = P := ⟨_, rfl⟩;have hPz : P.size = n := by rw [← hP, ByteArray.size_extract]; omega
   have hin : ∀ w, Calls Tryz.prog 190 #[.string P, .int .i64 base, .int .i64 16] w (vB base P w) := by
    intro w;rcases HBN with ⟨rfl, rfl⟩ | ⟨rfl, rfl⟩
    · exact xW P (by omega) (by omega) w
    · exact xV P (by omega) (by omega) w
   have hval : ∀ r, eX base 0 P.data.toList = r → cB base n (s.data.toList.drop i) = wT r := fun r h => FJ (by omega) (by rw [hP]; exact h);have HV := κ hval; clear hval;have HI := κ hin; clear hin;have HCA := κ (fun w => oK P ⟨#[43, 45, 95]⟩ (by omega) rfl (by decide) w);have HPz := κ hPz; clear hPz;go_enter Tryz.func153, Tryz.ntmps153;go_wp2_with fail;refine (HCA _).mono ?_;rintro e w1 ⟨r, rfl, hr, hb1⟩;have HR := κ hr; clear hr;have hx1 := cell_later hb1 hx;have hs1 := cell_later hb1 hs;cases r
   · go_wp2_with fail;refine (vZ base P (by have := HPz.out; omega) w1 (HG.below hb1) (HI w1)).mono ?_;rintro e w2 ⟨hb2, he⟩;have HB := κ (hb1.trans (hb2.mono hb1.size));cases hv : eX base 0 P.data.toList with
     | none =>
      rw [hv] at he;have HQ := κ (HV none hv);obtain ⟨t, x, rfl⟩ := he;clear hv;go_wp2_with fail;go_ret;exact ⟨by rw [HQ.out]; rfl, HB.out⟩
     | some v =>
      rw [hv] at he;have HQ := κ (HV (some v) hv);subst he;clear hv;by_cases hv255 : 255 < v
      · go_wp2_with fail;go_ret;exact ⟨by rw [HQ.out]; simp only [wT, hv255, if_true]; rfl, HB.out⟩
      · go_wp2_with fail;go_ret;exact ⟨by rw [HQ.out]; simp only [wT, hv255, if_false]; rfl, HB.out⟩
   · have HQ := κ (HV none (yg hb16 (HR rfl)));go_wp2_with fail;go_ret;exact ⟨by rw [HQ.out]; rfl, hb1⟩
def Af (s : ByteArray) (i : Nat) (w : World) (e : Ending) (w' : World) : Prop :=
 e = .returned (.tuple #[.int .i64 (iF (s.data.toList.drop i)).1, .int .i64 ((iF (s.data.toList.drop i)).2 : Nat)]) ∧ Below w.heap.size w w'
theorem lQ {s : ByteArray} {i : Nat} {w w' : World} {a b : Int} {v : Int} {n : Nat} (h : iF (s.data.toList.drop i) = (v, n)) (ha : a = v) (hb : b = n) (hw : Below w.heap.size w w') :
 Af s i w (.returned (.tuple #[.int .i64 a, .int .i64 b])) w' := by
 refine ⟨?_, hw⟩;rw [h, ha, hb]
theorem kV {x : UInt8} {n : Nat} (h : x.toNat = n) : x = n.toUInt8 := by subst h; simp
theorem Fc {x : UInt8} {l : Bytes} (h : 0 ≤ Lib.indexByte Fe x) : iF (x :: l) = (7 + Lib.indexByte Fe x, 1) := by
 simp [iF, atB, h]
theorem yM {x : UInt8} {l : Bytes} (h : ¬ 0 ≤ Lib.indexByte Fe x) (h2 : x.toNat = 34 ∨ x.toNat = 92) : iF (x :: l) = ((x.toNat : Int), 1) := by
 have : (x == 34 || x == 92) = true := by rcases h2 with h2 | h2 <;> rw [kV h2] <;> rfl
 simp only [iF, atB, List.getD_cons_zero, h, if_false, this, if_true, reduceCtorEq]
theorem Fb {x : UInt8} {l : Bytes} (h : ¬ 0 ≤ Lib.indexByte Fe x) (h1 : ¬ x.toNat = 34) (h2 : ¬ x.toNat = 92) : iF (x :: l) = (
 if x == 94 then (if decide (64 ≤ (atB (x :: l) 1).toNat) && decide ((atB (x :: l) 1).toNat ≤ 95) then (((atB (x :: l) 1).toNat : Int) - 64, 2) else ((-1 : Int), 0))
 else if x == 117 then (if 0 ≤ cB 16 4 l then (cB 16 4 l, 5) else (-1, 0))
 else if aM x then (if 0 ≤ cB 10 3 (x :: l) then (cB 10 3 (x :: l), 3) else (-1, 0))
 else if decide (0 < aT cg (x :: l)) && atB (x :: l) (aT cg (x :: l)) == 92 then (-1, aT cg (x :: l) + 1) else (-1, 0) : Int × Nat) := by
 have a1 : (x == 34) = false := by rw [ξY]; rintro rfl; exact h1 rfl
 have a2 : (x == 92) = false := by rw [ξY]; rintro rfl; exact h2 rfl
 have e1 : (x == 34 || x == 92) = false := by rw [a1, a2]; rfl
 simp only [iF, atB, List.getD_cons_zero, h, if_false, e1, reduceCtorEq, ξh, List.drop_succ_cons, List.drop_zero]
theorem fG (s : ByteArray) (i k : Nat) (h : i + k < s.size) : atB (s.data.toList.drop i) k = s[i + k]'h := by
 unfold atB;rw [ξr, List.getElem?_drop, Lib.data_getElem? s (i + k) h]; rfl
theorem fF (s : ByteArray) (i k : Nat) (h : ¬ i + k < s.size) : atB (s.data.toList.drop i) k = 0 := by
 unfold atB;rw [ξr, ξx (by rw [ξ3, ← ξn]; omega)]; rfl
theorem yO (args : Array Value) (w : World) : (callFunc 23 args).run Tryz.prog w = .ok (.enter 23 args) w := enters_of Tryz.func23 (by kernel_rfl) rfl args w
theorem Ro {p : Prop} (h : p := by
 go_enter Tryz.func120, Tryz.ntmps120;go_wp2_with (first | (go_at_call 78; refine (Tryz.strings_IndexByte _ _ _).mono ?_; rintro e w' ⟨rfl, rfl⟩) | (go_at_call 42; refine (dR _ _).mono ?_; rintro e w' ⟨rfl, rfl⟩));refine (HRN _ (hs1 _)).mono ?_;rintro e w2 ⟨rfl, rfl⟩;go_wp2_with fail;go_ret2
 exact lQ HE rfl rfl ((ξf _ w).alloc (ξF _) _)
 ) : p := h
theorem Rn {p : Prop} (h : p := by
 go_enter Tryz.func120, Tryz.ntmps120;go_wp2_with (first | (go_at_call 78; refine (Tryz.strings_IndexByte _ _ _).mono ?_; rintro e w' ⟨rfl, rfl⟩) | (go_at_call 42; refine (dR _ _).mono ?_; rintro e w' ⟨rfl, rfl⟩));go_ret2
 exact lQ HE (by omega) rfl ((ξf _ w).alloc (ξF _) _)
 ) : p := h
theorem Sc {p : Prop} (h : p := by
 go_enter Tryz.func120, Tryz.ntmps120;go_wp2_with (first | (go_at_call 78; refine (Tryz.strings_IndexByte _ _ _).mono ?_; rintro e w' ⟨rfl, rfl⟩) | (go_at_call 42; refine (dR _ _).mono ?_; rintro e w' ⟨rfl, rfl⟩));refine (HBC.out _ (by simp) (by simp) (hs1 _) ((ξf _ w).alloc (ξF _) _)).mono ?_;rintro e w2 ⟨rfl, hb2⟩;go_wp2_with fail;go_ret2
 exact lQ HE.out rfl rfl (((ξf _ w).alloc (ξF _) _).trans (hb2.mono (by simp)))
 ) : p := h
theorem Sb {p : Prop} (h : p := by
 go_enter Tryz.func120, Tryz.ntmps120;go_wp2_with (first | (go_at_call 78; refine (Tryz.strings_IndexByte _ _ _).mono ?_; rintro e w' ⟨rfl, rfl⟩) | (go_at_call 42; refine (dR _ _).mono ?_; rintro e w' ⟨rfl, rfl⟩));refine (HBC.out _ (by simp) (hs1 _) ((ξf _ w).alloc (ξF _) _)).mono ?_;rintro e w2 ⟨rfl, hb2⟩;go_wp2_with fail;go_ret2
 exact lQ HE.out rfl rfl (((ξf _ w).alloc (ξF _) _).trans (hb2.mono (by simp)))
 ) : p := h
theorem R9 {p : Prop} (h : p := by
 go_enter Tryz.func120, Tryz.ntmps120;go_wp2_with (first | (go_at_call 78; refine (Tryz.strings_IndexByte _ _ _).mono ?_; rintro e w' ⟨rfl, rfl⟩) | (go_at_call 42; refine (dR _ _).mono ?_; rintro e w' ⟨rfl, rfl⟩));go_ret2
 exact lQ HE rfl rfl ((ξf _ w).alloc (ξF _) _)
 ) : p := h
theorem CU (s : ByteArray) (b i : Nat) (w : World) (hg : Gl w) (hs : w.cell? ⟨b, 0, none⟩ = some (.string s)) (hz : s.size ≤ 1048576) (hi : i ≤ s.size) :
 Calls Tryz.prog 120 #[.pointer (some ⟨b, 0, none⟩), .int .i64 i] w (Af s i w) := by
 have HG := κ hg; clear hg;have hs1 := ay hs;by_cases hlt : i < s.size
 · obtain ⟨x, hx⟩ : ∃ x : UInt8, s[i]'hlt = x := ⟨_, rfl⟩;have hd := nA s i hlt;rw [hx] at hd;have HD := κ hd; clear hd;have hx256 := x.toNat_lt;by_cases hk : 0 ≤ Lib.indexByte [97, 98, 116, 110, 118, 102, 114] x
   · have hk2 := pQ [97, 98, 116, 110, 118, 102, 114] x;simp only [ξ2, ξ5] at hk2;go_enter Tryz.func120, Tryz.ntmps120;go_wp2_with (first | (go_at_call 78; refine (Tryz.strings_IndexByte _ _ _).mono ?_; rintro e w' ⟨rfl, rfl⟩) | (go_at_call 42; refine (dR _ _).mono ?_; rintro e w' ⟨rfl, rfl⟩));go_ret2
     exact lQ (by rw [HD.out]; exact Fc hk) rfl rfl ((ξf _ w).alloc (ξF _) _)
   · by_cases h34 : x.toNat = 34
     · have HE : RowKit.Hid (iF (s.data.toList.drop i) = ((x.toNat : Int), 1)) := by show _ = _; rw [HD.out]; exact yM hk (.inl h34)
       exact Rn
     · by_cases h92 : x.toNat = 92
       · have HE : RowKit.Hid (iF (s.data.toList.drop i) = ((x.toNat : Int), 1)) := by show _ = _; rw [HD.out]; exact yM hk (.inr h92)
         exact Rn
       · have b34 : ((x.toNat : Int) == 34) = false := by rw [ξY]; omega
         have b92 : ((x.toNat : Int) == 92) = false := by rw [ξY]; omega
         have HE := κ (Fb (l := s.data.toList.drop (i + 1)) hk h34 h92);rw [← HD.out] at HE;by_cases h94 : x.toNat = 94
         · have c94 : (x == 94) = true := by rw [kV h94]; rfl
           rw [c94, ψi rfl] at HE;by_cases hl2 : i + 1 < s.size
           · obtain ⟨y, hy⟩ : ∃ y : UInt8, s[i + 1]'hl2 = y := ⟨_, rfl⟩;have hat : atB (s.data.toList.drop i) 1 = y := by rw [fG s i 1 hl2, hy]
             rw [hat] at HE;clear hat;by_cases hy2 : 64 ≤ y.toNat ∧ y.toNat ≤ 95
             · rw [show (decide (64 ≤ y.toNat) && decide (y.toNat ≤ 95)) = true from by simp [hy2], ψi rfl] at HE;obtain ⟨hy3, hy4⟩ := hy2;exact Rn
             · rw [show (decide (64 ≤ y.toNat) && decide (y.toNat ≤ 95)) = false from by simp; omega, ψh (by simp)] at HE;rcases (show y.toNat < 64 ∨ 95 < y.toNat from by omega) with hy3 | hy3;all_goals
                go_enter Tryz.func120, Tryz.ntmps120;go_wp2_with (first | (go_at_call 78; refine (Tryz.strings_IndexByte _ _ _).mono ?_; rintro e w' ⟨rfl, rfl⟩) | (go_at_call 42; refine (dR _ _).mono ?_; rintro e w' ⟨rfl, rfl⟩));go_ret2
                exact lQ HE rfl rfl ((ξf _ w).alloc (ξF _) _)
           · have hat : atB (s.data.toList.drop i) 1 = 0 := by rw [fF s i 1 hl2]
             rw [hat] at HE;exact R9
         · have c94 : (x == 94) = false := by rw [ξY]; rintro rfl; exact h94 rfl
           rw [c94, ψh (by simp)] at HE;have b94 : ((x.toNat : Int) == 94) = false := by rw [ξY]; omega
           by_cases h117 : x.toNat = 117
           · have c117 : (x == 117) = true := by rw [kV h117]; rfl
             rw [c117, ψi rfl] at HE;obtain ⟨V, hV⟩ : ∃ V, cB 16 4 (s.data.toList.drop (i + 1)) = V := ⟨_, rfl⟩;rw [hV] at HE;have hbc : ∀ W, w.heap.size < W.heap.size → W.cell? ⟨w.heap.size, 0, none⟩ = some (.pointer (some ⟨b, 0, none⟩)) → W.cell? ⟨b, 0, none⟩ = some (.string s) → Below w.heap.size w W →
              Calls Tryz.prog 153 #[.int .i64 (i + 1 : Nat), .int .i64 (4 : Nat), .int .i64 (16 : Nat), .pointer (some ⟨w.heap.size, 0, none⟩)] W fun e w' => e = .returned (.int .i64 V) ∧ Below W.heap.size W w' := by
              intro W _ h1 h2 h3;rw [← hV];exact yY 16 4 (.inr ⟨rfl, rfl⟩) s w.heap.size b (i + 1) W (HG.below h3) h1 h2 hz (by omega)
             have HBC := κ hbc; clear hbc hV;by_cases hV0 : 0 ≤ V
             · rw [ψi hV0] at HE;exact Sc
             · rw [ψh hV0] at HE;exact Sc
           · have c117 : (x == 117) = false := by rw [ξY]; rintro rfl; exact h117 rfl
             rw [c117, ψh (by simp)] at HE;have b117 : ((x.toNat : Int) == 117) = false := by rw [ξY]; omega
             cases hdg : pR x.toNat
             · rw [show aM x = false from hdg, ψh (by simp)] at HE;have hrc := gF cg (s.data.toList.drop i);rw [ξ3, ← ξn] at hrc;have hrun : ∀ W, W.cell? ⟨b, 0, none⟩ = some (.string s) → Calls Tryz.prog 74 #[.pointer (some ⟨b, 0, none⟩), .int .i64 i, .func (.func 23) #[] #[]] W fun e w' => e = .returned (.int .i64 (i + aT cg (s.data.toList.drop i) : Nat)) ∧ W = w' :=
                fun W h => lu 23 cg yO (fun c w => yX _ w) s b i W h (by unfold maxLen; omega)
               have hat : ∀ h : i + aT cg (s.data.toList.drop i) < s.size, atB (s.data.toList.drop i) (aT cg (s.data.toList.drop i)) = s[i + aT cg (s.data.toList.drop i)]'h := fun h => fG s i _ h;have han : ¬ i + aT cg (s.data.toList.drop i) < s.size → atB (s.data.toList.drop i) (aT cg (s.data.toList.drop i)) = 0 := fun h => fF s i _ h;generalize aT cg (s.data.toList.drop i) = k at *;have HRN := κ hrun; clear hrun;have HAT := κ hat; clear hat;have HAN := κ han; clear han;by_cases hk0 : 0 < k
               · by_cases hke : i + k < s.size
                 · obtain ⟨y, hy⟩ : ∃ y : UInt8, s[i + k]'hke = y := ⟨_, rfl⟩;rw [HAT.out hke, hy, decide_eq_true hk0, Bool.true_and] at HE;by_cases hy2 : y.toNat = 92
                   · rw [show (y == 92) = true from by rw [kV hy2]; rfl, ψi rfl] at HE;go_enter Tryz.func120, Tryz.ntmps120;go_wp2_with (first | (go_at_call 78; refine (Tryz.strings_IndexByte _ _ _).mono ?_; rintro e w' ⟨rfl, rfl⟩) | (go_at_call 42; refine (dR _ _).mono ?_; rintro e w' ⟨rfl, rfl⟩));refine (HRN _ (hs1 _)).mono ?_;rintro e w2 ⟨rfl, rfl⟩;go_wp2_with fail;go_ret2
                     exact lQ HE rfl (by omega) ((ξf _ w).alloc (ξF _) _)
                   · rw [show (y == 92) = false from by rw [ξY]; rintro rfl; exact hy2 rfl, ψh (by simp)] at HE;exact Ro
                 · rw [HAN.out hke, decide_eq_true hk0, Bool.true_and, show ((0 : UInt8) == 92) = false from rfl, ψh (by simp)] at HE;exact Ro
               · rw [decide_eq_false hk0, Bool.false_and, ψh (by simp)] at HE;exact Ro
             · rw [show aM x = true from hdg, ψi rfl] at HE;obtain ⟨V, hV⟩ : ∃ V, cB 10 3 (s.data.toList.drop i) = V := ⟨_, rfl⟩;rw [hV] at HE;have hbc : ∀ W, W.cell? ⟨w.heap.size, 0, none⟩ = some (.pointer (some ⟨b, 0, none⟩)) → W.cell? ⟨b, 0, none⟩ = some (.string s) → Below w.heap.size w W →
                Calls Tryz.prog 153 #[.int .i64 i, .int .i64 (3 : Nat), .int .i64 (10 : Nat), .pointer (some ⟨w.heap.size, 0, none⟩)] W fun e w' => e = .returned (.int .i64 V) ∧ Below W.heap.size W w' := by
                intro W h1 h2 h3;rw [← hV];exact yY 10 3 (.inl ⟨rfl, rfl⟩) s w.heap.size b i W (HG.below h3) h1 h2 hz (by omega)
               have HBC := κ hbc; clear hbc hV;by_cases hV0 : 0 ≤ V
               · rw [ψi hV0] at HE;exact Sb
               · rw [ψh hV0] at HE;exact Sb
 · have HE : RowKit.Hid (iF (s.data.toList.drop i) = (-1, 0)) := by show _ = _; rw [List.drop_of_length_le (by rw [← ξn]; omega)]; rfl
   exact R9
theorem gX : ∀ (f g : Nat) (l acc : Bytes) (n : Nat), l.length < f → l.length < g → bS f l acc n = bS g l acc n
 | 0, _, _, _, _, h, _ => by omega
 | _, 0, _, _, _, _, h => by omega
 | f + 1, g + 1, [], _, _, _, _ => rfl
 | f + 1, g + 1, c :: l, acc, n, hf, hg => by
  simp only [ξ2] at hf hg;simp only [bS];have h1 := gX f g l (acc ++ [c]) (n + 1) (by omega) (by omega);have h2 := fun a => gX f g (l.drop (iF l).2) a (n + 1 + (iF l).2) (by rw [ξ3]; omega) (by rw [ξ3]; omega);rw [h1, h2]
def bU (l acc : Bytes) (n : Nat) : Option (Bytes × Nat) := bS (l.length + 1) l acc n
theorem zD (acc : Bytes) (n : Nat) : bU [] acc n = none := rfl
theorem zF {c : UInt8} (l acc : Bytes) (n : Nat) (h : c.toNat = 34) : bU (c :: l) acc n = some (acc, n + 1) := by
 rw [kV h]; rfl
theorem rF {c : UInt8} (l acc : Bytes) (n : Nat) (h : c.toNat < 32 ∨ 126 < c.toNat) : bU (c :: l) acc n = none := by
 have h1 : (c == 34) = false := by rw [ξY]; rintro rfl; revert h; decide
 have h2 : (decide (c.toNat < 32) || decide (126 < c.toNat)) = true := by simpa using h
 simp only [bU, bS, h1, h2, ξh, if_false, if_true]
theorem vP {c : UInt8} (l acc : Bytes) (n : Nat) (h34 : ¬ c.toNat = 34) (h1 : ¬ c.toNat < 32) (h2 : ¬ 126 < c.toNat) (h92 : ¬ c.toNat = 92) : bU (c :: l) acc n = bU l (acc ++ [c]) (n + 1) := by
 have e1 : (c == 34) = false := by rw [ξY]; rintro rfl; exact h34 rfl
 have e2 : (decide (c.toNat < 32) || decide (126 < c.toNat)) = false := by simp [h1, h2]
 have e3 : (c != 92) = true := by rw [ψa]; rintro rfl; exact h92 rfl
 simp only [bU, bS, e1, e2, e3, ξh, if_false, if_true, ξ2]
theorem zE {c : UInt8} (l acc : Bytes) (n : Nat) (h92 : c.toNat = 92) {v : Int} {k : Nat} (hx : iF l = (v, k)) (hk : ¬ k = 0) :
 bU (c :: l) acc n = bU (l.drop k) (if 0 ≤ v then acc ++ [v.toNat.toUInt8] else acc) (n + 1 + k) := by
 have e1 : (c == 34) = false := by rw [kV h92]; rfl
 have e2 : (decide (c.toNat < 32) || decide (126 < c.toNat)) = false := by rw [h92]; rfl
 have e3 : (c != 92) = false := by rw [kV h92]; rfl
 simp only [bU, bS, e1, e2, e3, ξh, if_false, hx, hk, ξ2];exact gX _ _ _ _ _ (by rw [ξ3]; omega) (by omega)
theorem xH {c : UInt8} (l acc : Bytes) (n : Nat) (h92 : c.toNat = 92) {v : Int} (hx : iF l = (v, 0)) : bU (c :: l) acc n = none := by
 have e1 : (c == 34) = false := by rw [kV h92]; rfl
 have e2 : (decide (c.toNat < 32) || decide (126 < c.toNat)) = false := by rw [h92]; rfl
 have e3 : (c != 92) = false := by rw [kV h92]; rfl
 simp only [bU, bS, e1, e2, e3, ξh, if_false, if_true, hx]
theorem zX (l : Bytes) : -1 ≤ (iF l).1 ∧ (iF l).1 ≤ 255 ∧ (iF l).2 ≤ l.length + 5 := by
 have hb : ∀ base n m, -1 ≤ cB base n m ∧ cB base n m ≤ 255 := by
  intro base n m;unfold cB;split
  · omega
  · split
    · omega
    · split <;> omega
 have h1 := Lib.indexByte_ge Fe (atB l 0);have h2 := pQ Fe (atB l 0);have h3 := gF cg l;have h4 := (atB l 0).toNat_lt;have h5 := (atB l 1).toNat_lt;have h6 := hb 16 4 (l.drop 1);have h7 := hb 10 3 l;simp only [Fe, ξ2, ξ5] at h2;simp only [iF, ξg, ψc];repeat' split
 all_goals (simp only [Fe] at *; refine ⟨?_, ?_, ?_⟩ <;> omega)
def wP (l : Bytes) : List Value := l.map fun b => Value.int .u8 b.toNat
theorem Tryz.infoU8 : (Tryz.prog.info? 5).map (fun i => (i.zero, i.size, i.bytes)) = some (some (.int .u8 0), 1, 1) := by kernel_rfl
theorem z7 {W : World} {B n : Nat} {v : Value} {l : Bytes} (h : W.ownsRow B 5 1 v n (wP l)) : (convert 129 9 v).run Tryz.prog W = .ok (str l) W := by
 have hl : n = l.length := by have := h.1; simp [wP] at this; omega
 subst hl;rcases h.2 with ⟨rfl, h0⟩ | ⟨g, cap, cur, rfl, _, hg, hn, _, _, htk⟩
 · obtain rfl : l = [] := ξq h0;exact run_convert_bytes_string W _ _ 5 none 0 0 (by kernel_rfl) (by kernel_rfl) (by kernel_rfl)
 · refine run_convert_bytes_back W _ _ 5 _ cap l (by kernel_rfl) (by kernel_rfl) (by kernel_rfl) ?_;intro j hj;have hc := h.cells (g := g) rfl j (.int .u8 (l[j].toNat : Int)) (by simp [wP, hj]);exact hc
def ze (r : Option (Bytes × Nat)) (base : Nat) (w : World) (e : Ending) (w' : World) : Prop :=
 Below w.heap.size w w' ∧ match r with
 | none => e = .returned (.tuple #[.string ⟨#[]⟩, .int .i64 0, .int .i64 42])
 | some (t, n) => e = .returned (.tuple #[str t, .int .i64 (base + n : Nat), .int .i64 0])
theorem AA {r : Option (Bytes × Nat)} {base : Nat} {w w' : World} (h : r = none) (hb : Below w.heap.size w w') : ze r base w (.returned (.tuple #[.string ⟨#[]⟩, .int .i64 0, .int .i64 42])) w' := by
 subst h; exact ⟨hb, rfl⟩
theorem Jh {r : Option (Bytes × Nat)} {base : Nat} {w w' : World} {t : Bytes} {n : Nat} {v : Int} (h : r = some (t, n)) (hv : v = (base + n : Nat)) (hb : Below w.heap.size w w') : ze r base w (.returned (.tuple #[str t, .int .i64 v, .int .i64 0])) w' := by
 subst h; subst hv; exact ⟨hb, rfl⟩
def QAt (s : ByteArray) (r : Option (Bytes × Nat)) (base i : Nat) (acc : Bytes) : Prop := base ≤ i ∧ r = bU (s.data.toList.drop i) acc (i - base) ∧ acc.length ≤ i
theorem IZ (n : Int) : ∀ u ∈ [Value.int .u8 n], u.oneCell' = true := by intro u hu; simp at hu; subst hu; rfl
theorem Db (l : Bytes) (x : UInt8) : wP l ++ [Value.int .u8 x.toNat] = wP (l ++ [x]) := by simp [wP]
theorem xY {w1 : World} {B : Nat} {v : Value} {acc : Bytes} {x : UInt8} (h : w1.ownsRow B 5 1 v (acc.length + 1) (wP acc ++ [Value.int .u8 x.toNat])) :
 w1.ownsRow B 5 1 v (acc ++ [x]).length (wP (acc ++ [x])) := by
 rw [← Db, ξ1]; exact h
theorem oC {w w' : World} {B n size : Nat} {e : TypeId} {v : Value} {xs : List Value} (h : w.ownsRow B e size v n xs) (hb : Below w.heap.size w w') : w'.ownsRow B e size v n xs := by
 refine ⟨h.1, ?_⟩;rcases h.2 with hn | ⟨g, cap, cur, rfl, hbg, hg, rest⟩
 · exact .inl hn
 · exact .inr ⟨g, cap, cur, rfl, hbg, (hb.block g (ξd.1 hg).1).trans hg, rest⟩
theorem vp {w wr w1 : World} {o : Obj} {n size : Nat} {e : TypeId} {v : Value} {xs : List Value} (hb : Below w.heap.size w wr) (ho : wr.ownsRow w.heap.size e size v n xs) (hg : (wr.alloc o).grownBy w1 v.ownBlock) : Below w.heap.size w w1 :=
 (hb.alloc hb.size o).grown hg (by have := hb.size; simp; omega) (fun k hk => (ho.lt k hk).1)
theorem Lf {s : ByteArray} {r : Option (Bytes × Nat)} {base i : Nat} {acc : Bytes} {x : UInt8} (h1 : base ≤ i) (h2 : acc.length ≤ i) (h : r = bU (s.data.toList.drop (i + 1)) (acc ++ [x]) (i - base + 1)) : QAt s r base (i + 1) (acc ++ [x]) := by
 refine ⟨by omega, ?_, by simp; omega⟩;rw [h, show i + 1 - base = i - base + 1 from by omega]
theorem MO {s : ByteArray} {r : Option (Bytes × Nat)} {base i k : Nat} {acc : Bytes} {x : UInt8} (h1 : base ≤ i) (h2 : acc.length ≤ i) (h : r = bU ((s.data.toList.drop (i + 1)).drop k) (acc ++ [x]) (i - base + 1 + k)) : QAt s r base (i + (1 + k)) (acc ++ [x]) := by
 refine ⟨by omega, ?_, by simp; omega⟩;rw [h, List.drop_drop, show i + (1 + k) - base = i - base + 1 + k from by omega, show i + 1 + k = i + (1 + k) from by omega]
theorem Lg {s : ByteArray} {r : Option (Bytes × Nat)} {base i k : Nat} {acc : Bytes} (h1 : base ≤ i) (h2 : acc.length ≤ i) (h : r = bU ((s.data.toList.drop (i + 1)).drop k) acc (i - base + 1 + k)) : QAt s r base (i + (1 + k)) acc := by
 refine ⟨by omega, ?_, by omega⟩;rw [h, List.drop_drop, show i + (1 + k) - base = i - base + 1 + k from by omega, show i + 1 + k = i + (1 + k) from by omega]
theorem uq (s : ByteArray) (b i0 base : Nat) (w : World) (hg : Gl w) (hs : w.cell? ⟨b, 0, none⟩ = some (.string s)) (hz : s.size ≤ 1048576) (hi : i0 ≤ s.size) (hbase : base ≤ i0) :
 Calls Tryz.prog 80 #[.pointer (some ⟨b, 0, none⟩), .int .i64 i0] w (ze (bU (s.data.toList.drop i0) [] (i0 - base)) base w) := by
 obtain ⟨u0, hu, hu0, hu1, hu2⟩ := info_parts Tryz.infoU8;have HG := κ hg; clear hg;obtain ⟨r, hr⟩ : ∃ r, bU (s.data.toList.drop i0) [] (i0 - base) = r := ⟨_, rfl⟩;rw [hr];have hq0 : QAt s r base i0 [] := ⟨hbase, hr.symm, ξM _⟩;clear hr hbase;have HQ0 := κ hq0; clear hq0;go_enter Tryz.func80, Tryz.ntmps80;go_wp2_with fail;go_loopw [1, 7] (fun iv v wr => ∃ (i : Nat) (acc : Bytes), iv = .int .i64 i ∧ i ≤ 1048600 ∧ wr.ownsRow w.heap.size 5 1 v acc.length (wP acc) ∧ Below w.heap.size w wr ∧ QAt s r base i acc)
  (fun iv _ _ => s.size - (intOf iv).toNat)
 case atStart => exact ⟨i0, [], rfl, by omega, ξX _ _ _ _, ξf _ _, HQ0⟩
 case round =>
  obtain ⟨i, acc, rfl, hib, hown, hbw, hqa⟩ := hrel;have hsr := cell_later hbw hs;have HO := κ hown;have HB := κ hbw;by_cases hlt : i < s.size
  · obtain ⟨x, hx⟩ : ∃ x : UInt8, s[i]'hlt = x := ⟨_, rfl⟩;have hd := nA s i hlt;rw [hx] at hd;have hx256 := x.toNat_lt;obtain ⟨hq1, hq2, hq3⟩ := hqa;rw [hd] at hq2;clear hd;have HQ := κ hq2; clear hq2;by_cases h34 : x.toNat = 34
    · have HE := κ (HQ.trans (zF _ _ _ h34));have hcv := z7 hown;clear hown;go_wp2_with fail;go_ret3
      exact Jh HE (by omega) HB
    · have b34 : ((x.toNat : Int) == 34) = false := by rw [ξY]; omega
      by_cases hlo : x.toNat < 32
      · have HE := κ (HQ.trans (rF _ _ _ (.inl hlo)));clear hown;go_wp2_with fail;go_ret3
        exact AA HE HB
      · by_cases hhi : 126 < x.toNat
        · have HE := κ (HQ.trans (rF _ _ _ (.inr hhi)));clear hown;go_wp2_with fail;go_ret3
          exact AA HE HB
        · by_cases h92 : x.toNat = 92
          · have b92 : ((x.toNat : Int) != 92) = false := by rw [bne_eq_false_iff_eq]; omega
            have hbd := zX (s.data.toList.drop (i + 1));rw [ξ3, ← ξn] at hbd;have hcall := fun W h1 h2 => CU s b (i + 1) W h1 h2 hz (by omega);unfold Af at hcall;generalize hE : iF (s.data.toList.drop (i + 1)) = E at *;obtain ⟨v, k⟩ := E;obtain ⟨hv1, hv2, hk2⟩ := hbd;have HEE := κ hE; clear hE;have HC := κ (hcall wr (HG.below hbw) hsr); clear hcall;simp only [] at HC hv1 hv2 hk2;by_cases hk : k = 0
            · subst hk;have HE := κ (HQ.trans (xH _ _ _ h92 HEE));clear hown;go_wp2_with fail;refine (HC).mono ?_;rintro e w2 ⟨rfl, hb2⟩;go_wp2_with fail;go_ret3
              exact AA HE (HB.trans (hb2.mono HB.size))
            · have HE := κ (HQ.trans (zE _ _ _ h92 HEE hk));have bk : ((k : Int) == 0) = false := by rw [ξY]; omega
              by_cases hv : 0 ≤ v
              · rw [ψi hv] at HE;obtain ⟨c, hc⟩ : ∃ c : UInt8, v = c.toNat := ⟨v.toNat.toUInt8, by simp; omega⟩;subst hc;have hc256 := c.toNat_lt;rw [show ((c.toNat : Int)).toNat.toUInt8 = c from by simp] at HE;go_wp2_with fail;refine (HC).mono ?_;rintro e w2 ⟨rfl, hb2⟩;have HO2 := κ (oC HO hb2);have HB2 := κ (HB.trans (hb2.mono HB.size));clear hown;go_wp2_with (first | (at_builtin; refine wpList_append_own _ rfl _ _ 129 rfl w.heap.size 5 u0 (.int .u8 0) 1 1 Tryz.underlying129 hu hu0 hu1 hu2 rfl (by decide) _ _ _ rfl (HO2.alloc _) ⟨w2.heap.size, 0, none⟩ 1 1 [.int .u8 c.toNat] rfl rfl (cell_one_new _ _ _) (IZ _) ?e3 ?e4 ?e5 ?_))
                case e3 => unfold maxLen; omega
                case e4 => omega
                case e5 => have := HB2.size; simp; omega
                intro v' w1 hown1 hgr _;have HO1 := κ hown1;have HB1 := κ (vp HB2 HO2 hgr);have hs1 := cell_later HB1 hs;clear hown1 hgr hbw hb2;go_wp2_with fail;go_roundw
                case rel => exact ⟨i + (1 + k), acc ++ [c], by go_num, by omega, xY HO1, HB1, MO hq1 hq3 HE⟩
                case measure => simp [intOf]; omega
              · rw [ψh hv] at HE;go_wp2_with fail;refine (HC).mono ?_;rintro e w2 ⟨rfl, hb2⟩;have HO2 := κ (oC HO hb2);have HB2 := κ (HB.trans (hb2.mono HB.size));clear hown hbw hb2;go_wp2_with fail;go_roundw
                case rel => exact ⟨i + (1 + k), acc, by go_num, by omega, HO2, HB2, Lg hq1 hq3 HE⟩
                case measure => simp [intOf]; omega
          · have b92 : ((x.toNat : Int) != 92) = true := by rw [ψa]; omega
            have HE := κ (HQ.trans (vP _ _ _ h34 hlo hhi h92));go_wp2_with (first | (at_builtin; refine wpList_append_own _ rfl _ _ 129 rfl w.heap.size 5 u0 (.int .u8 0) 1 1 Tryz.underlying129 hu hu0 hu1 hu2 rfl (by decide) _ _ _ rfl (HO.alloc _) ⟨wr.heap.size, 0, none⟩ 1 1 [.int .u8 x.toNat] rfl rfl (cell_one_new _ _ _) (IZ _) ?c3 ?c4 ?c5 ?_))
            case c3 => unfold maxLen; omega
            case c4 => omega
            case c5 => have := HB.size; simp; omega
            intro v' w1 hown1 hgr _;have HO1 := κ hown1;have HB1 := κ (vp HB HO hgr);clear hown1 hgr hown hbw;go_wp2_with fail;go_roundw
            case rel => exact ⟨i + 1, acc ++ [x], by go_num, by omega, xY HO1, HB1, Lf hq1 hq3 HE⟩
            case measure => simp [intOf]; omega
  · have HE := κ (show r = none by
     rw [hqa.2.1, List.drop_of_length_le (by rw [← ξn]; omega)]; exact zD _ _)
    clear hown hqa;go_wp2_with fail;go_ret3
    exact AA HE HB
theorem GL {s : ByteArray} (he : ¬ s.toList = []) (hc : ¬ 0 ≤ Lib.indexByte s.data.toList 32) :
 (!s.toList.isEmpty && !decide (0 ≤ Lib.indexByte s.data.toList 32) && Lib.contains fq (32 :: s.data.toList ++ [32])) = j6 s.data.toList := by
 rw [Lib.toList_data] at *;have h1 : s.data.toList.contains 32 = false := by rw [dx]; simpa using hc
 have h2 : s.data.toList.isEmpty = false := by simpa using he
 rw [xE he h1, h2]; simp [hc]
theorem jE (s : ByteArray) (m : Int) (w : World) (hm : w.cell? ⟨0, 0, none⟩ = some (.int .i64 m)) (hz : s.size ≤ 140737488351232) :
 Calls Tryz.prog 76 #[.string s] w fun e w' => e = .returned (.bool (j6 s.data.toList)) ∧ w = w' := by
 by_cases he : s.toList = []
 · go_enter Tryz.func76, Tryz.ntmps76;go_wp2_with fail;go_ret;exact ⟨kG (by rw [← Lib.toList_data, he]; decide), rfl⟩
 · by_cases hc : 0 ≤ Lib.indexByte s.data.toList 32
   · go_enter Tryz.func76, Tryz.ntmps76;go_wp2_with fail;refine (Tryz.strings_Contains_one s 32 _).mono ?_;rintro e w' ⟨rfl, rfl⟩;go_wp2_with fail;go_ret;exact ⟨kG (Eh hc).symm, rfl⟩
   · go_enter Tryz.func76, Tryz.ntmps76;go_wp2_with fail;refine (Tryz.strings_Contains_one s 32 _).mono ?_;rintro e w' ⟨rfl, rfl⟩;go_wp2_with fail;refine (Tryz.strings_Contains _ _ m _ ?_ hm).mono ?_
     · decide
     rintro e w' ⟨rfl, rfl⟩;go_wp2_with fail;go_ret;exact ⟨kG (GL he (Int.not_le.2 hc)), rfl⟩
theorem nV (args : Array Value) (w : World) : (callFunc 75 args).run Tryz.prog w = .ok (.enter 75 args) w := enters_of Tryz.func75 (by kernel_rfl) rfl args w
theorem kL (args : Array Value) (w : World) : (callFunc 44 args).run Tryz.prog w = .ok (.enter 44 args) w := enters_of Tryz.func44 (by kernel_rfl) rfl args w
theorem yN (args : Array Value) (w : World) : (callFunc 42 args).run Tryz.prog w = .ok (.enter 42 args) w := enters_of Tryz.func42 (by kernel_rfl) rfl args w
theorem CV (args : Array Value) (w : World) : (callFunc 77 args).run Tryz.prog w = .ok (.enter 77 args) w := enters_of Tryz.func77 (by kernel_rfl) rfl args w
theorem o8 {r : Rd} {i c : Nat} {w w' : World} {v : Int} (h : r = .error c) (hv : v = c) (hb : Below w.heap.size w w') :
 j5 r i w (.returned (.tuple #[.agg #[.int .i64 0, .string ⟨#[]⟩, .slice none 0 0, .int .i64 0, .int .i64 0], .int .i64 0, .int .i64 v])) w' := by
 subst h; subst hv; exact ⟨hb, rfl⟩
theorem vN {r : Rd} {i k n : Nat} {t : Bytes} {w w' : World} {kv nv : Int} {sv : ByteArray} (h : r = .ok (k, t, [], n)) (hk : kv = k) (hs : sv.data.toList = t) (hn : nv = (i + n : Nat)) (hb : Below w.heap.size w w') :
 j5 r i w (.returned (.tuple #[.agg #[.int .i64 kv, .string sv, .slice none 0 0, .int .i64 0, .int .i64 0], .int .i64 nv, .int .i64 0])) w' := by
 subst h; subst hk; subst hs; subst hn;refine ⟨hb, .slice none 0 0, ⟨Strs.nil _, fun h => absurd rfl h⟩, ?_⟩;rw [str, Lib.mk_data]
theorem Gv (s : ByteArray) (i : Nat) : lg (s.data.toList.drop i) = match bU (s.data.toList.drop (i + 1)) [] 1 with
 | none => .error 42
 | some (t, n) => if 65536 < t.length then .error 2 else .ok (6, t, [], n) := by
 unfold lg bU;rw [List.drop_drop, gX _ ((s.data.toList.drop (i + 1)).length + 1) _ _ _ (by simp only [ξ3]; omega) (by omega)];cases bS ((s.data.toList.drop (i + 1)).length + 1) (s.data.toList.drop (i + 1)) [] 1 <;> rfl
theorem Ij (s : ByteArray) (i : Nat) : jw (s.data.toList.drop i) = match bU (s.data.toList.drop (i + 2)) [] 2 with
 | none => .error 42
 | some (t, n) => if t.length = 1 then .ok (7, t, [], n) else .error 42 := by
 unfold jw bU;rw [List.drop_drop, gX _ ((s.data.toList.drop (i + 2)).length + 1) _ _ _ (by simp only [ξ3]; omega) (by omega)];cases bS ((s.data.toList.drop (i + 2)).length + 1) (s.data.toList.drop (i + 2)) [] 2 <;> rfl
theorem ck {w w2 : World} (h : Below w.heap.size w w2) (v0 v1 v2 v3 v4 : Value) :
 Below w.heap.size w (((((w2.setCell ⟨w.heap.size, 0, none⟩ v0).setCell ⟨w.heap.size, 1, none⟩ v1).setCell ⟨w.heap.size, 2, none⟩ v2).setCell ⟨w.heap.size, 3, none⟩ v3).setCell ⟨w.heap.size, 4, none⟩ v4) :=
 ((((h.setCell (ξF _) _).setCell (ξF _) _).setCell (ξF _) _).setCell (ξF _) _).setCell (ξF _) _
theorem nL {w w2 : World} {c0 c1 c2 c3 c4 : Value} {T : TypeId} (hb : Below (w.alloc (.cells #[c0, c1, c2, c3, c4] T)).heap.size (w.alloc (.cells #[c0, c1, c2, c3, c4] T)) w2) :
 (w2.cell? ⟨w.heap.size, 0, none⟩ = some c0 ∧ w2.cell? ⟨w.heap.size, 1, none⟩ = some c1 ∧ w2.cell? ⟨w.heap.size, 2, none⟩ = some c2 ∧ w2.cell? ⟨w.heap.size, 3, none⟩ = some c3 ∧ w2.cell? ⟨w.heap.size, 4, none⟩ = some c4) ∧
 ∀ j, w2.frozen? ⟨w.heap.size, j, none⟩ = false := by
 have hc : ∀ j, w2.cell? ⟨w.heap.size, j, none⟩ = #[c0, c1, c2, c3, c4][j]? := fun j => by
  rw [hb.cell (p := ⟨w.heap.size, j, none⟩) (by simp), World.cell?_alloc_new]
 refine ⟨⟨by rw [hc]; rfl, by rw [hc]; rfl, by rw [hc]; rfl, by rw [hc]; rfl, by rw [hc]; rfl⟩, fun j => ?_⟩;rw [hb.frozen (p := ⟨w.heap.size, j, none⟩) (by simp)];simp
theorem rD {s : ByteArray} {b i0 base : Nat} {w : World} (hq : bU (s.data.toList.drop i0) [] (i0 - base) = none) (h : Calls Tryz.prog 80 #[.pointer (some ⟨b, 0, none⟩), .int .i64 i0] w (ze (bU (s.data.toList.drop i0) [] (i0 - base)) base w)) :
 Calls Tryz.prog 80 #[.pointer (some ⟨b, 0, none⟩), .int .i64 i0] w fun e w' => e = .returned (.tuple #[.string ⟨#[]⟩, .int .i64 0, .int .i64 42]) ∧ Below w.heap.size w w' :=
 h.mono fun e w' hh => by rw [hq] at hh; exact ⟨hh.2, hh.1⟩
theorem kH {s : ByteArray} {b i0 base n : Nat} {t : Bytes} {w : World} (hq : bU (s.data.toList.drop i0) [] (i0 - base) = some (t, n)) (h : Calls Tryz.prog 80 #[.pointer (some ⟨b, 0, none⟩), .int .i64 i0] w (ze (bU (s.data.toList.drop i0) [] (i0 - base)) base w)) :
 Calls Tryz.prog 80 #[.pointer (some ⟨b, 0, none⟩), .int .i64 i0] w fun e w' => e = .returned (.tuple #[str t, .int .i64 (base + n : Nat), .int .i64 0]) ∧ Below w.heap.size w w' :=
 h.mono fun e w' hh => by rw [hq] at hh; exact ⟨hh.2, hh.1⟩
theorem R8 {p : Prop} (h : p := by
 rintro e w2 ⟨rfl, hb2⟩;obtain ⟨⟨rc0, rc1, rc2, rc3, rc4⟩, rfz⟩ := nL hb2;have HB := κ (((ξf _ w).alloc (ξF _) _).trans (hb2.mono (by simp)));clear hb2;go_wp2_with fail;refine ψb (by simp [results, Tryz.results46, go_sem, rc0, rc1, rc2, rc3, rc4]; exact rfl) rfl ?_;exact o8 HT rfl (ck HB _ _ _ _ _)
 ) : p := h
theorem Gu (s : ByteArray) (b i : Nat) (w : World) (hg : Gl w) (hs : w.cell? ⟨b, 0, none⟩ = some (.string s)) (ha : w.cell? ⟨b, 1, none⟩ = some (.int .i64 i)) (hz : s.size ≤ 1048576) (hi : i < s.size) :
 Calls Tryz.prog 46 #[.pointer (some ⟨b, 0, none⟩)] w (j5 (lg (s.data.toList.drop i)) i w) := by
 have hs1 := ay hs;have ha1 := ay ha;have HG := κ hg; clear hg;have HC := κ (fun w h1 h2 => uq s b (i + 1) i w h1 h2 hz (by omega) (by omega));have hte := Gv s i;cases hq : bU (s.data.toList.drop (i + 1)) [] 1 with
 | none =>
  rw [hq] at hte;have HT := κ hte; clear hte;have HQ := κ (show bU (s.data.toList.drop (i + 1)) [] (i + 1 - i) = none by rw [show i + 1 - i = 1 from by omega]; exact hq);clear hq;go_enter Tryz.func46, Tryz.ntmps46;go_wp2_with fail;refine (rD HQ (HC _ (HG.below ((ξf _ w).alloc (ξF _) _)) (hs1 _))).mono ?_;exact R8
 | some p =>
  obtain ⟨t, n⟩ := p;rw [hq] at hte;have HQ := κ (show bU (s.data.toList.drop (i + 1)) [] (i + 1 - i) = some (t, n) by rw [show i + 1 - i = 1 from by omega]; exact hq);clear hq;by_cases hlen : 65536 < t.length
  · have HT := κ (show lg (s.data.toList.drop i) = .error 2 by rw [hte]; simp [hlen]);clear hte;go_enter Tryz.func46, Tryz.ntmps46;go_wp2_with fail;refine (kH HQ (HC _ (HG.below ((ξf _ w).alloc (ξF _) _)) (hs1 _))).mono ?_;exact R8
  · have HT := κ (show lg (s.data.toList.drop i) = .ok (6, t, [], n) by rw [hte]; simp [hlen]);clear hte;go_enter Tryz.func46, Tryz.ntmps46;go_wp2_with fail;refine (kH HQ (HC _ (HG.below ((ξf _ w).alloc (ξF _) _)) (hs1 _))).mono ?_;rintro e w2 ⟨rfl, hb2⟩;obtain ⟨⟨rc0, rc1, rc2, rc3, rc4⟩, rfz⟩ := nL hb2;have HB := κ (((ξf _ w).alloc (ξF _) _).trans (hb2.mono (by simp)));clear hb2;go_wp2_with fail;refine ψb (by simp [results, Tryz.results46, go_sem, rc0, rc1, rc2, rc3, rc4]; exact rfl) rfl ?_;exact vN HT rfl rfl rfl (ck HB _ _ _ _ _)
theorem R7 {p : Prop} (h : p := by
 rintro e w2 ⟨rfl, hb2⟩;obtain ⟨⟨rc0, rc1, rc2, rc3, rc4⟩, rfz⟩ := nL hb2;have HB := κ (((ξf _ w).alloc (ξF _) _).trans (hb2.mono (by simp)));clear hb2;go_wp2_with fail;refine ψb (by simp [results, Tryz.results79, go_sem, rc0, rc1, rc2, rc3, rc4]; exact rfl) rfl ?_;exact o8 HT rfl (ck HB _ _ _ _ _)
 ) : p := h
theorem Ii (s : ByteArray) (b i : Nat) (w : World) (hg : Gl w) (hs : w.cell? ⟨b, 0, none⟩ = some (.string s)) (ha : w.cell? ⟨b, 1, none⟩ = some (.int .i64 i)) (hz : s.size ≤ 1048576) (hi : i + 2 ≤ s.size) :
 Calls Tryz.prog 79 #[.pointer (some ⟨b, 0, none⟩)] w (j5 (jw (s.data.toList.drop i)) i w) := by
 have hs1 := ay hs;have ha1 := ay ha;have HG := κ hg; clear hg;have HC := κ (fun w h1 h2 => uq s b (i + 2) i w h1 h2 hz (by omega) (by omega));have hte := Ij s i;cases hq : bU (s.data.toList.drop (i + 2)) [] 2 with
 | none =>
  rw [hq] at hte;have HT := κ hte; clear hte;have HQ := κ (show bU (s.data.toList.drop (i + 2)) [] (i + 2 - i) = none by rw [show i + 2 - i = 2 from by omega]; exact hq);clear hq;go_enter Tryz.func79, Tryz.ntmps79;go_wp2_with fail;refine (rD HQ (HC _ (HG.below ((ξf _ w).alloc (ξF _) _)) (hs1 _))).mono ?_;exact R7
 | some p =>
  obtain ⟨t, n⟩ := p;rw [hq] at hte;have HQ := κ (show bU (s.data.toList.drop (i + 2)) [] (i + 2 - i) = some (t, n) by rw [show i + 2 - i = 2 from by omega]; exact hq);clear hq;by_cases hlen : ¬ t.length = 1
  · have HT := κ (show jw (s.data.toList.drop i) = .error 42 by rw [hte]; simp [hlen]);clear hte;have hlb : ((t.length : Int) != 1) = true := by rw [ψa]; omega
    go_enter Tryz.func79, Tryz.ntmps79;go_wp2_with fail;refine (kH HQ (HC _ (HG.below ((ξf _ w).alloc (ξF _) _)) (hs1 _))).mono ?_;exact R7
  · have HT := κ (show jw (s.data.toList.drop i) = .ok (7, t, [], n) by rw [hte]; simp [hlen]);clear hte;have hlb : ((t.length : Int) != 1) = false := by rw [bne_eq_false_iff_eq]; omega
    go_enter Tryz.func79, Tryz.ntmps79;go_wp2_with fail;refine (kH HQ (HC _ (HG.below ((ξf _ w).alloc (ξF _) _)) (hs1 _))).mono ?_;rintro e w2 ⟨rfl, hb2⟩;obtain ⟨⟨rc0, rc1, rc2, rc3, rc4⟩, rfz⟩ := nL hb2;have HB := κ (((ξf _ w).alloc (ξF _) _).trans (hb2.mono (by simp)));clear hb2;go_wp2_with fail;refine ψb (by simp [results, Tryz.results79, go_sem, rc0, rc1, rc2, rc3, rc4]; exact rfl) rfl ?_;exact vN HT rfl rfl rfl (ck HB _ _ _ _ _)
theorem eH (s : ByteArray) (i k n : Nat) (h : k = i + n) : (s.extract i k).data.toList = (s.data.toList.drop i).take n := by
 rw [Lib.extract_data, show k - i = n from by omega]
theorem DI (s : ByteArray) (b i : Nat) (w : World) (_hg : Gl w) (hs : w.cell? ⟨b, 0, none⟩ = some (.string s)) (ha : w.cell? ⟨b, 1, none⟩ = some (.int .i64 i)) (hz : s.size ≤ 1048576) (hi : i < s.size) :
 Calls Tryz.prog 47 #[.pointer (some ⟨b, 0, none⟩)] w (j5 (nE (s.data.toList.drop i)) i w) := by
 have hs1 := ay hs;have ha1 := ay ha;have hbl := ξS w _ hs;have hne1 : ¬ w.heap.size = b := fun e => by simp only [] at hbl; omega
 have hne2 : ¬ b = w.heap.size := fun e => by simp only [] at hbl; omega
 clear hbl;have hc := gF bJ (s.data.toList.drop (i + 1));rw [ξ3, ← ξn] at hc;have HT := κ (show nE (s.data.toList.drop i) = .ok (3, (s.data.toList.drop i).take (1 + aT bJ (s.data.toList.drop (i + 1))), [], 1 + aT bJ (s.data.toList.drop (i + 1))) by
  unfold nE; rw [List.drop_drop])
 go_enter Tryz.func47, Tryz.ntmps47;go_wp2_with fail;refine (lu 75 bJ nV (fun c w => mF _ w) s b (i + 1) _ (hs1 _) (by unfold maxLen; omega)).mono ?_;rintro e w' ⟨rfl, rfl⟩;go_wp2_with fail;go_region;go_wp2
 refine ψb (by simp [results, Tryz.results47, go_sem]; exact rfl) rfl ?_;exact vN HT rfl (eH _ _ _ _ (by omega)) (by omega) (((ξf _ w).alloc (ξF _) _).drew)
theorem R6 {p : Prop} (h : p := by
 have HT := κ (show jU (s.data.toList.drop i) = .error 40 by rw [HOT.out, hrb]; rfl);go_wp2_with fail;refine ψb (by simp [results, Tryz.results48, go_sem]; exact rfl) rfl ?_;exact o8 HT rfl (ck (below_drewN ((ξf _ w).alloc (ξF _) _) _) _ _ _ _ _)
 ) : p := h
theorem EF (s : ByteArray) (b i : Nat) (w : World) (hg : Gl w) (hs : w.cell? ⟨b, 0, none⟩ = some (.string s)) (ha : w.cell? ⟨b, 1, none⟩ = some (.int .i64 i)) (hz : s.size ≤ 1048576) (hi : i < s.size) :
 Calls Tryz.prog 48 #[.pointer (some ⟨b, 0, none⟩)] w (j5 (jU (s.data.toList.drop i)) i w) := by
 have hs1 := ay hs;have ha1 := ay ha;have hbl := ξS w _ hs;have hne1 : ¬ w.heap.size = b := fun e => by simp only [] at hbl; omega
 have hne2 : ¬ b = w.heap.size := fun e => by simp only [] at hbl; omega
 clear hbl;have HG := κ hg; clear hg;obtain ⟨_, m, hm⟩ : ∃ x : Nat, ∃ m : Int, w.cell? ⟨0, 0, none⟩ = some (.int .i64 m) := ⟨0, HG.mx⟩;have hm1 := ay hm;have hm2 : ∀ (o : Obj) (n : Nat), ((w.alloc o).drewN n).cell? ⟨0, 0, none⟩ = some (.int .i64 m) := fun o _ => hm1 o;have hres := fun (t : ByteArray) (ht : t.size ≤ s.size) (W : World) (h : W.cell? ⟨0, 0, none⟩ = some (.int .i64 m)) => jE t m W h (by omega);have HRS := κ hres; clear hres;obtain ⟨P, hP⟩ : ∃ P, [46, 46, 46].isPrefixOf (s.data.toList.drop i) = P := ⟨_, rfl⟩;have hpl : P = true → i + 3 ≤ s.size := by
  intro hp;rw [← hP] at hp;have := (List.isPrefixOf_iff_prefix.1 hp).length_le;rw [ξ3, ← ξn] at this;simp at this; omega
 have hst := fun W h => iU s ⟨#[46, 46, 46]⟩ b i W h (by unfold maxLen; omega) (by omega);simp only [hP] at hst;have HST := κ hst; clear hst;cases P
 · obtain ⟨n, hn⟩ : ∃ n : Nat, n = if [46, 46, 46].isPrefixOf (s.data.toList.drop i) then 3 else 1 := ⟨_, rfl⟩;have hot : jU (s.data.toList.drop i) = if j6 ((s.data.toList.drop i).take n) then .ok (1, (s.data.toList.drop i).take n, [], n) else .error 40 := by
    rw [hn]; rfl
   rw [hP] at hn;simp at hn;subst hn;simp at hpl;have HOT := κ hot; clear hot hP;go_enter Tryz.func48, Tryz.ntmps48;go_wp2_with fail;refine (HST _ (hs1 _)).mono ?_;rintro e w' ⟨rfl, rfl⟩;go_wp2_with fail;go_quiet (fail);go_wp2_with fail;refine (HRS.out (s.extract i (i + 1)) (by rw [ByteArray.size_extract]; omega) _ (hm2 _ _)).mono ?_;rintro e w' ⟨rfl, rfl⟩;rw [eH _ _ _ 1 (by omega)];cases hrb : j6 ((s.data.toList.drop i).take 1)
   · exact R6
   · have HT := κ (show jU (s.data.toList.drop i) = .ok (1, (s.data.toList.drop i).take 1, [], 1) by rw [HOT.out, hrb]; rfl);go_wp2_with fail;go_region;go_wp2
     refine ψb (by simp [results, Tryz.results48, go_sem]; exact rfl) rfl ?_;exact vN HT rfl (eH _ _ _ _ (by omega)) (by omega) (ck (below_drewN ((ξf _ w).alloc (ξF _) _) _) _ _ _ _ _)
 · obtain ⟨n, hn⟩ : ∃ n : Nat, n = if [46, 46, 46].isPrefixOf (s.data.toList.drop i) then 3 else 1 := ⟨_, rfl⟩;have hot : jU (s.data.toList.drop i) = if j6 ((s.data.toList.drop i).take n) then .ok (1, (s.data.toList.drop i).take n, [], n) else .error 40 := by
    rw [hn]; rfl
   rw [hP] at hn;simp at hn;subst hn;simp at hpl;have HOT := κ hot; clear hot hP;go_enter Tryz.func48, Tryz.ntmps48;go_wp2_with fail;refine (HST _ (hs1 _)).mono ?_;rintro e w' ⟨rfl, rfl⟩;go_wp2_with fail;go_quiet (fail);go_wp2_with fail;refine (HRS.out (s.extract i (i + 3)) (by rw [ByteArray.size_extract]; omega) _ (hm2 _ _)).mono ?_;rintro e w' ⟨rfl, rfl⟩;rw [eH _ _ _ 3 (by omega)];cases hrb : j6 ((s.data.toList.drop i).take 3)
   · exact R6
   · have HT := κ (show jU (s.data.toList.drop i) = .ok (1, (s.data.toList.drop i).take 3, [], 3) by rw [HOT.out, hrb]; rfl);go_wp2_with fail;go_region;go_wp2
     refine ψb (by simp [results, Tryz.results48, go_sem]; exact rfl) rfl ?_;exact vN HT rfl (eH _ _ _ _ (by omega)) (by omega) (ck (below_drewN ((ξf _ w).alloc (ξF _) _) _) _ _ _ _ _)
end Go.Proofs.YtbchkldhnjahaaaGreatDoor
