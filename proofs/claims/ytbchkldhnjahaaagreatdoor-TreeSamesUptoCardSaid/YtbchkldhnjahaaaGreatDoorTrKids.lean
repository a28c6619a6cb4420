/- The kids of a node, one behind the other (kids.go): what each question answers. Conditions: those of each theorem. Is a kind in a group (kids.go's member)? Conditions: those of each theorem. The kids of a node, in groups: of, rest, all (kids.go). Conditions: those of each theorem. Has a node the kids that its kind has (kids.go's fits), for some kinds; Check of a list of such nodes. Conditions: those of each theorem. Check of a list in which each node has the kids that its kind has: it says 0. Conditions: those of each theorem. -/
import Derived.Test.YtbchkldhnjahaaaGreatDoorTrBel
import Derived.Test.YtbchkldhnjahaaaGreatDoorTrE
namespace Kiln
/-- a node's kind -/
def kindOf (l : List Nd) (i : Int) : Int := match l[i.toNat]? with
  | some n => n.kind
  | none => 0
/-- is a kind in a group? -/
def memB : Nat → Int → Bool
  | 0, k => (decide (1 ≤ k) && decide (k ≤ 4)) || (decide (10 ≤ k) && decide (k ≤ 26))
  | 1, k => (k == 1) || ((k == 3) || ((k == 4) || ((decide (30 ≤ k) && decide (k ≤ 38)) && !(k == 35))))
  | 2, k => decide (40 ≤ k) && decide (k ≤ 44)
  | 3, k => [51, 52, 54, 58, 60, 63, 64, 66, 67, 68, 69, 71, 73].contains k
  | 4, k => decide (80 ≤ k) && decide (k ≤ 85)
  | 5, k => decide (90 ≤ k) && decide (k ≤ 92)
  | 6, k => decide (94 ≤ k) && decide (k ≤ 100)
  | _, k => (k == 62) || (k == 65)
def nextK (l : List Nd) : List Int → Int
  | [] => 0
  | k :: _ => kindOf l k
def oneP (l : List Nd) (k : Int) : List Int → Bool × List Int
  | [] => (false, [])
  | c :: r => if kindOf l c = k then (true, r) else (false, c :: r)
def ofG (l : List Nd) (g : Nat) : List Int → Bool × List Int
  | [] => (false, [])
  | c :: r => if memB g (kindOf l c) then (true, r) else (false, c :: r)
/-- so many times, then what is left -/
def manyP (f : Int → Bool) : List Int → Nat × List Int
  | [] => (0, [])
  | c :: r => if f c then ((manyP f r).1 + 1, (manyP f r).2) else (0, c :: r)
def restB (l : List Nd) (k : Int) (least : Int) (ks : List Int) : Bool := let x := manyP (fun c => kindOf l c == k) ks; decide (least ≤ x.1) && x.2.isEmpty
def allB (l : List Nd) (g : Nat) (least : Int) (ks : List Int) : Bool := let x := manyP (fun c => memB g (kindOf l c)) ks; decide (least ≤ x.1) && x.2.isEmpty
theorem oneP_sub {l : List Nd} {k : Int} {ks : List Int} {c : Int} (h : c ∈ (oneP l k ks).2) : c ∈ ks := by
  cases ks with
  | nil => simp [oneP] at h
  | cons d r =>
    simp only [oneP] at h
    split at h
    · exact List.mem_cons_of_mem _ h
    · exact h
theorem ofG_sub {l : List Nd} {g : Nat} {ks : List Int} {c : Int} (h : c ∈ (ofG l g ks).2) : c ∈ ks := by
  cases ks with
  | nil => simp [ofG] at h
  | cons d r =>
    simp only [ofG] at h
    split at h
    · exact List.mem_cons_of_mem _ h
    · exact h
end Kiln
namespace Go.Proofs.YtbchkldhnjahaaaGreatDoor
open Go.RowKit Kiln
open Go.Proofs

/-- the next one's kids -/
theorem Ints.tail {w : World} {a : Option Addr} {k : Int} {ks : List Int} {cap : Nat} (h : Ints w (.slice a (ks.length + 1) cap) (k :: ks)) : Ints w (sliced a 1 (ks.length + 1) cap 1) ks := by
  obtain ⟨a', cap', hv, hlc, hcm, hl⟩ := h
  simp only [List.length_cons, Value.slice.injEq, true_and] at hv
  obtain ⟨rfl, rfl⟩ := hv
  obtain ⟨b, off, rfl, hx⟩ := hl (by simp)
  simp only [List.length_cons] at hlc
  unfold sliced
  refine ⟨_, cap - 1, rfl, by omega, by omega, fun hne => ?_⟩
  have hc : cap ≠ 1 := by
    cases ks with
    | nil => exact absurd rfl hne
    | cons c r => simp only [List.length_cons] at hlc; omega
  refine ⟨b, off + 1, by rw [if_neg hc]; simp [Addr.add], fun i x hi => ?_⟩
  have := hx (i + 1) x (by simpa using hi)
  rw [show off + 1 + i = off + (i + 1) by omega]
  exact this

/-- the kids that are left, in memory: w1 is the world ahead of the cursor -/
structure KSt (w1 w : World) (q : Nat) (lv : Value) (ks : List Int) : Prop where
  bel : Below w1.heap.size w1 w
  q1 : w1.heap.size ≤ q
  blk : ∃ iv, w.heap[q]? = some (.cells #[lv, iv] 117 (0, 0)) ∧ Ints w1 iv ks
def KPost (w1 : World) (q : Nat) (lv : Value) (r : Bool × List Int) (e : Ending) (w' : World) : Prop := e = .returned (.bool r.1) ∧ KSt w1 w' q lv r.2

theorem KSt.below {w1 w w' : World} {q : Nat} {lv : Value} {ks : List Int} (h : KSt w1 w q lv ks) (hb : Below w.heap.size w w') : KSt w1 w' q lv ks := by
  obtain ⟨iv, hq, hi⟩ := h.blk
  exact ⟨h.bel.trans (hb.mono h.bel.size), h.q1, iv, (hb.block q (Array.getElem?_eq_some_iff.1 hq).1).trans hq, hi⟩
theorem KSt.drew {w1 w : World} {q : Nat} {lv : Value} {ks : List Int} (h : KSt w1 w q lv ks) : KSt w1 w.drew q lv ks := h.below ⟨rfl, rfl, rfl, Nat.le_refl _, fun _ _ => rfl⟩
theorem KSt.alloc {w1 w : World} {q : Nat} {lv : Value} {ks : List Int} (h : KSt w1 w q lv ks) (o : Obj) : KSt w1 (w.alloc o) q lv ks := h.below ((Below.refl _ w).alloc (Nat.le_refl _) o)
theorem KSt.set {w1 w : World} {q : Nat} {lv : Value} {ks : List Int} (h : KSt w1 w q lv ks) {v : Value} {ks' : List Int} (hi : Ints w1 v ks') : KSt w1 (w.setCell ⟨q, 1, none⟩ v) q lv ks' := by
  obtain ⟨iv, hq, _⟩ := h.blk
  exact ⟨h.bel.setCell h.q1 _, h.q1, v, heap_setCell_same w q 1 _ _ v hq, hi⟩
theorem KSt.reads {w1 w : World} {q : Nat} {lv : Value} {ks : List Int} (h : KSt w1 w q lv ks) :
    ∃ a cap, Ints w1 (.slice a ks.length cap) ks ∧ w.cell? ⟨q, 0, none⟩ = some lv ∧ w.cell? ⟨q, 1, none⟩ = some (.slice a ks.length cap) ∧ ∀ i, w.frozen? ⟨q, i, none⟩ = false := by
  obtain ⟨iv, hq, hi⟩ := h.blk
  obtain ⟨a, cap, rfl, _⟩ := id hi
  exact ⟨a, cap, hi, by simp [World.cell?, hq], by simp [World.cell?, hq], fun i => frozen_of_row w q i _ _ hq⟩

set_option maxRecDepth 100000 in
set_option maxHeartbeats 2000000 in
theorem end_any {w1 w : World} {q : Nat} {lv : Value} {ks : List Int} (hk : KSt w1 w q lv ks) :
    Calls Tryz.prog 66 #[.pointer (some ⟨q, 0, none⟩)] w fun e w' => e = .returned (.bool ks.isEmpty) ∧ KSt w1 w' q lv ks := by
  have HK := Lib.hid hk
  obtain ⟨a, cap, hi, c0, c1, hf⟩ := hk.reads
  cases ks with
  | nil =>
    clear hi hk hf
    go_enter Tryz.func66, Tryz.ntmps66
    go_wp2_with fail
    go_ret
    exact ⟨rfl, HK.out⟩
  | cons k r =>
    have hd0 : (((k :: r).length : Int) == 0) = false := by rw [beq_eq_false_iff_ne]; simp only [List.length_cons]; omega
    clear hi hk hf
    go_enter Tryz.func66, Tryz.ntmps66
    go_wp2_with fail
    go_ret
    exact ⟨rfl, HK.out⟩

set_option maxRecDepth 100000 in
set_option maxHeartbeats 2000000 in
theorem next_any {w1 w : World} {q : Nat} {lv : Value} {l : List Nd} {ks : List Int} (HN : NdT w1 lv l) (hk : KSt w1 w q lv ks) (hr : ∀ k ∈ ks, 0 ≤ k ∧ k < (l.length : Int)) :
    Calls Tryz.prog 150 #[.pointer (some ⟨q, 0, none⟩)] w fun e w' => e = .returned (.int .i64 (nextK l ks)) ∧ KSt w1 w' q lv ks := by
  have HK := Lib.hid hk
  obtain ⟨a, cap, hi, c0, c1, hf⟩ := hk.reads
  cases ks with
  | nil =>
    clear hi hk hf hr
    go_enter Tryz.func150, Tryz.ntmps150
    go_wp2_with fail
    go_ret
    exact ⟨rfl, HK.out⟩
  | cons k r =>
    have hd0 : (((k :: r).length : Int) == 0) = false := by rw [beq_eq_false_iff_ne]; simp only [List.length_cons]; omega
    have hk0 := hr k (by simp)
    obtain ⟨kn, rfl⟩ : ∃ kn : Nat, k = kn := ⟨k.toNat, by omega⟩
    obtain ⟨nd, hnd⟩ : ∃ nd, l[kn]? = some nd := ⟨_, List.getElem?_eq_getElem (by omega)⟩
    have HX := Lib.hid (show nextK l ((kn : Int) :: r) = nd.kind by simp [nextK, kindOf, hnd])
    obtain ⟨bn, offn, capn, pv, kv, rfl, -, -, hc⟩ := HN.one hnd
    have e0 : w.cell? ⟨bn, offn + kn * 6, none⟩ = some (.int .i64 nd.kind) := cell_later hk.bel (hc 0 _ rfl _ rfl)
    obtain ⟨bi, offi, rfl, hcell⟩ := ints_at hi (i := 0) rfl
    have e1 : w.cell? ⟨bi, offi, none⟩ = some (.int .i64 kn) := cell_later hk.bel hcell
    have hlt : (kn : Int) < (l.length : Int) := hk0.2
    have hlk : (0 : Int) < (r.length : Int) + 1 := by omega
    have hlk2 : (0 : Int) < ((r.length + 1 : Nat) : Int) := by omega
    have f0 := hf 0
    have f1 := hf 1
    clear hi hk hf hr hc hcell hnd hk0
    go_enter Tryz.func150, Tryz.ntmps150
    go_wp2_with fail
    go_quiet (fail)
    go_wp2_with fail
    go_ret
    exact ⟨by rw [HX.out]; rfl, HK.out.below ⟨rfl, rfl, rfl, Nat.le_refl _, fun _ _ => rfl⟩⟩

/-- the kids but the first, as the walk takes them -/
theorem tail_run (a : Option Addr) (n cap : Nat) (w : World) : (Instr.sliceAt 39 (.slice a (n + 1) cap) (some (.int .i64 1)) none none).run Tryz.prog w = .ok (sliced a 1 (n + 1) cap 1) w := by
  simp [go_sem, Tryz.underlying39]
  intro h; omega

set_option maxRecDepth 100000 in
set_option maxHeartbeats 2000000 in
theorem one_any {w1 w : World} {q : Nat} {lv : Value} {l : List Nd} {ks : List Int} (k : Int) (HN : NdT w1 lv l) (hk : KSt w1 w q lv ks) (hr : ∀ k ∈ ks, 0 ≤ k ∧ k < (l.length : Int)) (hk0 : k ≠ 0) :
    Calls Tryz.prog 115 #[.pointer (some ⟨q, 0, none⟩), .int .i64 k] w (KPost w1 q lv (oneP l k ks)) := by
  cases ks with
  | nil =>
    have h0 : ((0 : Int) != k) = true := by rw [bne_iff_ne]; exact fun e => hk0 e.symm
    have hnx := Lib.hid (next_any HN hk hr)
    clear hk
    go_enter Tryz.func115, Tryz.ntmps115
    go_wp2_with fail
    refine hnx.out.mono ?_
    rintro e w2 ⟨rfl, hk2⟩
    rw [show nextK l [] = 0 from rfl]
    go_wp2_with fail
    go_ret
    exact ⟨rfl, hk2⟩
  | cons c r =>
    have hnx := Lib.hid (next_any HN hk hr)
    clear hk
    obtain ⟨kd, hkd⟩ : ∃ kd, kindOf l c = kd := ⟨_, rfl⟩
    by_cases he : kd = k
    · have h0 : (kd != k) = false := by rw [he]; simp
      have HP := Lib.hid (show oneP l k (c :: r) = (true, r) by simp [oneP, hkd, he])
      clear he
      go_enter Tryz.func115, Tryz.ntmps115
      go_wp2_with fail
      refine hnx.out.mono ?_
      rintro e w2 ⟨rfl, hk2⟩
      rw [show nextK l (c :: r) = kd from hkd]
      obtain ⟨a, cap, hi, -, c1, hf⟩ := hk2.reads
      have c1' : w2.cell? ⟨q, 1, none⟩ = some (.slice a (r.length + 1) cap) := c1
      have f1 := hf 1
      have hs := tail_run a r.length cap
      have HI := Lib.hid (Ints.tail hi)
      obtain ⟨sa, scap, hsv⟩ : ∃ sa scap, sliced a 1 (r.length + 1) cap 1 = .slice sa r.length scap := ⟨_, _, rfl⟩
      rw [hsv] at hs HI
      have HK := Lib.hid hk2
      clear hsv hi c1 hf hk2
      go_wp2_with fail
      go_ret
      exact ⟨by rw [HP.out]; rfl, by rw [HP.out]; exact HK.out.set HI.out⟩
    · have h0 : (kd != k) = true := by rw [bne_iff_ne]; exact he
      have HP := Lib.hid (show oneP l k (c :: r) = (false, c :: r) by simp [oneP, hkd, he])
      clear he
      go_enter Tryz.func115, Tryz.ntmps115
      go_wp2_with fail
      refine hnx.out.mono ?_
      rintro e w2 ⟨rfl, hk2⟩
      rw [show nextK l (c :: r) = kd from hkd]
      go_wp2_with fail
      go_ret
      exact ⟨by rw [HP.out]; rfl, by rw [HP.out]; exact hk2⟩

end Go.Proofs.YtbchkldhnjahaaaGreatDoor

namespace Go.Proofs.YtbchkldhnjahaaaGreatDoor
open Go.RowKit Kiln
open Go.Proofs

set_option maxRecDepth 100000 in
set_option maxHeartbeats 4000000 in
theorem member0 (k : Int) (w : World) : Calls Tryz.prog 149 #[.int .i64 0, .int .i64 k] w fun e w' => e = .returned (.bool (memB 0 k)) ∧ w' = w := by
  by_cases a1 : 1 ≤ k
  · by_cases a2 : k ≤ 4
    · have HP := Lib.hid (show memB 0 k = true by simp [memB, a1, a2])
      go_enter Tryz.func149, Tryz.ntmps149
      go_wp2_with fail
      go_ret
      exact ⟨by rw [HP.out]; rfl, rfl⟩
    · by_cases a3 : 10 ≤ k
      · by_cases a4 : k ≤ 26
        · have HP := Lib.hid (show memB 0 k = true by simp [memB, a1, a2, a3, a4])
          go_enter Tryz.func149, Tryz.ntmps149
          go_wp2_with fail
          go_ret
          exact ⟨by rw [HP.out]; rfl, rfl⟩
        · have HP := Lib.hid (show memB 0 k = false by simp [memB, a1, a2, a3, a4])
          go_enter Tryz.func149, Tryz.ntmps149
          go_wp2_with fail
          go_ret
          exact ⟨by rw [HP.out]; rfl, rfl⟩
      · have HP := Lib.hid (show memB 0 k = false by simp [memB, a1, a2, a3])
        go_enter Tryz.func149, Tryz.ntmps149
        go_wp2_with fail
        go_ret
        exact ⟨by rw [HP.out]; rfl, rfl⟩
  · by_cases a5 : 10 ≤ k
    · by_cases a6 : k ≤ 26
      · have HP := Lib.hid (show memB 0 k = true by simp [memB, a1, a5, a6])
        go_enter Tryz.func149, Tryz.ntmps149
        go_wp2_with fail
        go_ret
        exact ⟨by rw [HP.out]; rfl, rfl⟩
      · have HP := Lib.hid (show memB 0 k = false by simp [memB, a1, a5, a6])
        go_enter Tryz.func149, Tryz.ntmps149
        go_wp2_with fail
        go_ret
        exact ⟨by rw [HP.out]; rfl, rfl⟩
    · have HP := Lib.hid (show memB 0 k = false by simp [memB, a1, a5])
      go_enter Tryz.func149, Tryz.ntmps149
      go_wp2_with fail
      go_ret
      exact ⟨by rw [HP.out]; rfl, rfl⟩

set_option maxRecDepth 100000 in
set_option maxHeartbeats 4000000 in
theorem member1 (k : Int) (w : World) : Calls Tryz.prog 149 #[.int .i64 1, .int .i64 k] w fun e w' => e = .returned (.bool (memB 1 k)) ∧ w' = w := by
  by_cases a7 : k = 1
  · subst a7
    have HP := Lib.hid (show memB 1 1 = true by rfl)
    go_enter Tryz.func149, Tryz.ntmps149
    go_wp2_with fail
    go_ret
    exact ⟨by rw [HP.out]; rfl, rfl⟩
  · have a7b : (k == 1) = false := by rw [beq_eq_false_iff_ne]; exact a7
    by_cases a8 : k = 3
    · subst a8
      have HP := Lib.hid (show memB 1 3 = true by rfl)
      go_enter Tryz.func149, Tryz.ntmps149
      go_wp2_with fail
      go_ret
      exact ⟨by rw [HP.out]; rfl, rfl⟩
    · have a8b : (k == 3) = false := by rw [beq_eq_false_iff_ne]; exact a8
      by_cases a9 : k = 4
      · subst a9
        have HP := Lib.hid (show memB 1 4 = true by rfl)
        go_enter Tryz.func149, Tryz.ntmps149
        go_wp2_with fail
        go_ret
        exact ⟨by rw [HP.out]; rfl, rfl⟩
      · have a9b : (k == 4) = false := by rw [beq_eq_false_iff_ne]; exact a9
        by_cases a10 : 30 ≤ k
        · by_cases a11 : k ≤ 38
          · by_cases a12 : k = 35
            · subst a12
              have HP := Lib.hid (show memB 1 35 = false by rfl)
              go_enter Tryz.func149, Tryz.ntmps149
              go_wp2_with fail
              go_ret
              exact ⟨by rw [HP.out]; rfl, rfl⟩
            · have a12b : (k != 35) = true := by rw [bne_iff_ne]; exact a12
              have HP := Lib.hid (show memB 1 k = true by simp [memB, a7, a8, a9, a10, a11, a12])
              go_enter Tryz.func149, Tryz.ntmps149
              go_wp2_with fail
              go_ret
              exact ⟨by rw [HP.out]; rfl, rfl⟩
          · have HP := Lib.hid (show memB 1 k = false by simp [memB, a7, a8, a9, a10, a11])
            go_enter Tryz.func149, Tryz.ntmps149
            go_wp2_with fail
            go_ret
            exact ⟨by rw [HP.out]; rfl, rfl⟩
        · have HP := Lib.hid (show memB 1 k = false by simp [memB, a7, a8, a9, a10])
          go_enter Tryz.func149, Tryz.ntmps149
          go_wp2_with fail
          go_ret
          exact ⟨by rw [HP.out]; rfl, rfl⟩

set_option maxRecDepth 100000 in
set_option maxHeartbeats 4000000 in
theorem member2 (k : Int) (w : World) : Calls Tryz.prog 149 #[.int .i64 2, .int .i64 k] w fun e w' => e = .returned (.bool (memB 2 k)) ∧ w' = w := by
  by_cases a13 : 40 ≤ k
  · by_cases a14 : k ≤ 44
    · have HP := Lib.hid (show memB 2 k = true by simp [memB, a13, a14])
      go_enter Tryz.func149, Tryz.ntmps149
      go_wp2_with fail
      go_ret
      exact ⟨by rw [HP.out]; rfl, rfl⟩
    · have HP := Lib.hid (show memB 2 k = false by simp [memB, a13, a14])
      go_enter Tryz.func149, Tryz.ntmps149
      go_wp2_with fail
      go_ret
      exact ⟨by rw [HP.out]; rfl, rfl⟩
  · have HP := Lib.hid (show memB 2 k = false by simp [memB, a13])
    go_enter Tryz.func149, Tryz.ntmps149
    go_wp2_with fail
    go_ret
    exact ⟨by rw [HP.out]; rfl, rfl⟩

set_option maxRecDepth 100000 in
set_option maxHeartbeats 4000000 in
theorem member3 (k : Int) (w : World) : Calls Tryz.prog 149 #[.int .i64 3, .int .i64 k] w fun e w' => e = .returned (.bool (memB 3 k)) ∧ w' = w := by
  by_cases a15 : k = 51
  · subst a15
    have HP := Lib.hid (show memB 3 51 = true by rfl)
    go_enter Tryz.func149, Tryz.ntmps149
    go_wp2_with fail
    go_ret
    exact ⟨by rw [HP.out]; rfl, rfl⟩
  · have a15b : (k == 51) = false := by rw [beq_eq_false_iff_ne]; exact a15
    by_cases a16 : k = 52
    · subst a16
      have HP := Lib.hid (show memB 3 52 = true by rfl)
      go_enter Tryz.func149, Tryz.ntmps149
      go_wp2_with fail
      go_ret
      exact ⟨by rw [HP.out]; rfl, rfl⟩
    · have a16b : (k == 52) = false := by rw [beq_eq_false_iff_ne]; exact a16
      by_cases a17 : k = 54
      · subst a17
        have HP := Lib.hid (show memB 3 54 = true by rfl)
        go_enter Tryz.func149, Tryz.ntmps149
        go_wp2_with fail
        go_ret
        exact ⟨by rw [HP.out]; rfl, rfl⟩
      · have a17b : (k == 54) = false := by rw [beq_eq_false_iff_ne]; exact a17
        by_cases a18 : k = 58
        · subst a18
          have HP := Lib.hid (show memB 3 58 = true by rfl)
          go_enter Tryz.func149, Tryz.ntmps149
          go_wp2_with fail
          go_ret
          exact ⟨by rw [HP.out]; rfl, rfl⟩
        · have a18b : (k == 58) = false := by rw [beq_eq_false_iff_ne]; exact a18
          by_cases a19 : k = 60
          · subst a19
            have HP := Lib.hid (show memB 3 60 = true by rfl)
            go_enter Tryz.func149, Tryz.ntmps149
            go_wp2_with fail
            go_ret
            exact ⟨by rw [HP.out]; rfl, rfl⟩
          · have a19b : (k == 60) = false := by rw [beq_eq_false_iff_ne]; exact a19
            by_cases a20 : k = 63
            · subst a20
              have HP := Lib.hid (show memB 3 63 = true by rfl)
              go_enter Tryz.func149, Tryz.ntmps149
              go_wp2_with fail
              go_ret
              exact ⟨by rw [HP.out]; rfl, rfl⟩
            · have a20b : (k == 63) = false := by rw [beq_eq_false_iff_ne]; exact a20
              by_cases a21 : k = 64
              · subst a21
                have HP := Lib.hid (show memB 3 64 = true by rfl)
                go_enter Tryz.func149, Tryz.ntmps149
                go_wp2_with fail
                go_ret
                exact ⟨by rw [HP.out]; rfl, rfl⟩
              · have a21b : (k == 64) = false := by rw [beq_eq_false_iff_ne]; exact a21
                by_cases a22 : k = 66
                · subst a22
                  have HP := Lib.hid (show memB 3 66 = true by rfl)
                  go_enter Tryz.func149, Tryz.ntmps149
                  go_wp2_with fail
                  go_ret
                  exact ⟨by rw [HP.out]; rfl, rfl⟩
                · have a22b : (k == 66) = false := by rw [beq_eq_false_iff_ne]; exact a22
                  by_cases a23 : k = 67
                  · subst a23
                    have HP := Lib.hid (show memB 3 67 = true by rfl)
                    go_enter Tryz.func149, Tryz.ntmps149
                    go_wp2_with fail
                    go_ret
                    exact ⟨by rw [HP.out]; rfl, rfl⟩
                  · have a23b : (k == 67) = false := by rw [beq_eq_false_iff_ne]; exact a23
                    by_cases a24 : k = 68
                    · subst a24
                      have HP := Lib.hid (show memB 3 68 = true by rfl)
                      go_enter Tryz.func149, Tryz.ntmps149
                      go_wp2_with fail
                      go_ret
                      exact ⟨by rw [HP.out]; rfl, rfl⟩
                    · have a24b : (k == 68) = false := by rw [beq_eq_false_iff_ne]; exact a24
                      by_cases a25 : k = 69
                      · subst a25
                        have HP := Lib.hid (show memB 3 69 = true by rfl)
                        go_enter Tryz.func149, Tryz.ntmps149
                        go_wp2_with fail
                        go_ret
                        exact ⟨by rw [HP.out]; rfl, rfl⟩
                      · have a25b : (k == 69) = false := by rw [beq_eq_false_iff_ne]; exact a25
                        by_cases a26 : k = 71
                        · subst a26
                          have HP := Lib.hid (show memB 3 71 = true by rfl)
                          go_enter Tryz.func149, Tryz.ntmps149
                          go_wp2_with fail
                          go_ret
                          exact ⟨by rw [HP.out]; rfl, rfl⟩
                        · have a26b : (k == 71) = false := by rw [beq_eq_false_iff_ne]; exact a26
                          by_cases a27 : k = 73
                          · subst a27
                            have HP := Lib.hid (show memB 3 73 = true by rfl)
                            go_enter Tryz.func149, Tryz.ntmps149
                            go_wp2_with fail
                            go_ret
                            exact ⟨by rw [HP.out]; rfl, rfl⟩
                          · have a27b : (k == 73) = false := by rw [beq_eq_false_iff_ne]; exact a27
                            have HP := Lib.hid (show memB 3 k = false by simp [memB, a15, a16, a17, a18, a19, a20, a21, a22, a23, a24, a25, a26, a27])
                            go_enter Tryz.func149, Tryz.ntmps149
                            go_wp2_with fail
                            go_ret
                            exact ⟨by rw [HP.out]; rfl, rfl⟩

theorem member_any (g : Nat) (k : Int) (w : World) (hg : g ≤ 3) :
    Calls Tryz.prog 149 #[.int .i64 g, .int .i64 k] w fun e w' => e = .returned (.bool (memB g k)) ∧ w' = w := by
  obtain rfl | rfl | rfl | rfl : g = 0 ∨ g = 1 ∨ g = 2 ∨ g = 3 := by omega
  · exact member0 k w
  · exact member1 k w
  · exact member2 k w
  · exact member3 k w
end Go.Proofs.YtbchkldhnjahaaaGreatDoor

namespace Kiln
theorem manyP_step {f : Int → Bool} {c : Int} {r : List Int} (h : f c = true) : manyP f (c :: r) = ((manyP f r).1 + 1, (manyP f r).2) := by simp [manyP, h]
theorem manyP_stop {f : Int → Bool} {c : Int} {r : List Int} (h : f c = false) : manyP f (c :: r) = (0, c :: r) := by simp [manyP, h]
theorem manyP_len {f : Int → Bool} (ks : List Int) : (manyP f ks).1 ≤ ks.length := by
  induction ks with
  | nil => simp [manyP]
  | cons c r ih =>
    by_cases h : f c
    · rw [manyP_step h]; simp only [List.length_cons]; omega
    · rw [manyP_stop (by simpa using h)]; simp
theorem one_cases (l : List Nd) (k : Int) (r : List Int) : (∃ c r', r = c :: r' ∧ oneP l k r = (true, r') ∧ manyP (fun c => kindOf l c == k) r = ((manyP (fun c => kindOf l c == k) r').1 + 1, (manyP (fun c => kindOf l c == k) r').2)) ∨ (oneP l k r = (false, r) ∧ manyP (fun c => kindOf l c == k) r = (0, r)) := by
  cases r with
  | nil => exact .inr ⟨rfl, rfl⟩
  | cons c r =>
    by_cases h : kindOf l c = k
    · exact .inl ⟨c, r, rfl, by simp [oneP, h], manyP_step (by simp [h])⟩
    · exact .inr ⟨by simp [oneP, h], manyP_stop (by simp [h])⟩
theorem of_cases (l : List Nd) (g : Nat) (r : List Int) : (∃ c r', r = c :: r' ∧ ofG l g r = (true, r') ∧ manyP (fun c => memB g (kindOf l c)) r = ((manyP (fun c => memB g (kindOf l c)) r').1 + 1, (manyP (fun c => memB g (kindOf l c)) r').2)) ∨ (ofG l g r = (false, r) ∧ manyP (fun c => memB g (kindOf l c)) r = (0, r)) := by
  cases r with
  | nil => exact .inr ⟨rfl, rfl⟩
  | cons c r =>
    cases h : memB g (kindOf l c) with
    | true => exact .inl ⟨c, r, rfl, by simp [ofG, h], manyP_step (by simp [h])⟩
    | false => exact .inr ⟨by simp [ofG, h], manyP_stop (by simp [h])⟩
end Kiln
namespace Go.Proofs.YtbchkldhnjahaaaGreatDoor
open Go.RowKit Kiln
open Go.Proofs

theorem KSt.form {w1 w : World} {q : Nat} {lv : Value} {ks : List Int} (h : KSt w1 w q lv ks) : ks.length ≤ 9223372036854775807 := by
  obtain ⟨iv, _, a, cap, _, h1, h2, _⟩ := h.blk
  unfold maxLen at h2
  omega

set_option maxRecDepth 100000 in
set_option maxHeartbeats 2000000 in
theorem of_any' {w1 w : World} {q : Nat} {lv : Value} {l : List Nd} {ks : List Int} (g : Nat) (hg : g ≤ 3) (HN : NdT w1 lv l) (hk : KSt w1 w q lv ks) (hr : ∀ k ∈ ks, 0 ≤ k ∧ k < (l.length : Int)) :
    Calls Tryz.prog 112 #[.pointer (some ⟨q, 0, none⟩), .int .i64 g] w (KPost w1 q lv (ofG l g ks)) := by
  have HK := Lib.hid hk
  obtain ⟨a, cap, hi, -, c1, hf⟩ := hk.reads
  cases ks with
  | nil =>
    clear hi hk hf
    go_enter Tryz.func112, Tryz.ntmps112
    go_wp2_with fail
    go_ret
    exact ⟨rfl, HK.out⟩
  | cons c r =>
    have hd0 : (((c :: r).length : Int) == 0) = false := by rw [beq_eq_false_iff_ne]; simp only [List.length_cons]; omega
    have c1' : w.cell? ⟨q, 1, none⟩ = some (.slice a (r.length + 1) cap) := c1
    have f1 := hf 1
    obtain ⟨kd, hkd⟩ : ∃ kd, kindOf l c = kd := ⟨_, rfl⟩
    have hnx := Lib.hid (next_any HN hk hr)
    clear hi hk hf c1
    obtain ⟨B, hB⟩ : ∃ B, memB g kd = B := ⟨_, rfl⟩
    have HMB := Lib.hid hB
    have HKD := Lib.hid hkd
    clear hB hkd
    go_enter Tryz.func112, Tryz.ntmps112
    go_wp2_with fail
    refine hnx.out.mono ?_
    rintro e w2 ⟨rfl, hk2⟩
    rw [show nextK l (c :: r) = kd from HKD.out]
    have HK2 := Lib.hid hk2
    clear hk2
    go_wp2_with fail
    refine (member_any g kd w2 hg).mono ?_
    rintro e w3 ⟨rfl, rfl⟩
    rw [HMB.out]
    cases B with
    | false =>
      have HP := Lib.hid (show ofG l g (c :: r) = (false, c :: r) by simp [ofG, HKD.out, HMB.out])
      go_wp2_with fail
      go_ret
      exact ⟨by rw [HP.out]; rfl, by rw [HP.out]; exact HK2.out⟩
    | true =>
      have HP := Lib.hid (show ofG l g (c :: r) = (true, r) by simp [ofG, HKD.out, HMB.out])
      obtain ⟨a, cap, hi, -, c1, hf⟩ := HK2.out.reads
      have c1' : w3.cell? ⟨q, 1, none⟩ = some (.slice a (r.length + 1) cap) := c1
      have f1 := hf 1
      have hs := tail_run a r.length cap
      have HI := Lib.hid (Ints.tail hi)
      obtain ⟨sa, scap, hsv⟩ : ∃ sa scap, sliced a 1 (r.length + 1) cap 1 = .slice sa r.length scap := ⟨_, _, rfl⟩
      rw [hsv] at hs HI
      clear hsv hi c1 hf
      go_wp2_with fail
      go_ret
      exact ⟨by rw [HP.out]; rfl, by rw [HP.out]; exact HK2.out.set HI.out⟩

set_option maxRecDepth 100000 in
set_option maxHeartbeats 2000000 in
theorem rest_any {w1 w : World} {q : Nat} {lv : Value} {l : List Nd} {ks : List Int} (k : Int) (least : Int) (HN : NdT w1 lv l) (hk : KSt w1 w q lv ks) (hr : ∀ k ∈ ks, 0 ≤ k ∧ k < (l.length : Int)) (hk0 : k ≠ 0) :
    Calls Tryz.prog 113 #[.pointer (some ⟨q, 0, none⟩), .int .i64 k, .int .i64 least] w fun e w' => e = .returned (.bool (restB l k least ks)) ∧ Below w1.heap.size w1 w' := by
  have HK := Lib.hid hk
  have HRR := Lib.hid hr
  have HLN := Lib.hid hk.form
  have HX : RowKit.Hid (∀ n r, manyP (fun c => kindOf l c == k) ks = (n, r) → restB l k least ks = (decide (least ≤ (n : Int)) && r.isEmpty)) := fun n r h => by unfold restB; rw [h]
  clear hk hr
  go_enter Tryz.func113, Tryz.ntmps113
  go_wp2_with fail
  go_loopg [7] (ks.length + 1) (fun g v wr => ∃ (n : Nat) (r : List Int) (wx : World), wx = wr ∧ v = .int .i64 (n : Nat) ∧ r.length + 1 = g ∧ (∀ c ∈ r, c ∈ ks) ∧ KSt w1 wr q lv r ∧ n + r.length = ks.length ∧ manyP (fun c => kindOf l c == k) ks = ((manyP (fun c => kindOf l c == k) r).1 + n, (manyP (fun c => kindOf l c == k) r).2))
  case atStart => exact ⟨0, ks, _, rfl, rfl, rfl, fun _ h => h, HK.out, by omega, rfl⟩
  case round =>
    clear HK
    obtain ⟨n, r, wx, rfl, rfl, rfl, hsub, hkk, hn, hm⟩ := hrel
    have HSUB := Lib.hid hsub
    have hon := Lib.hid (one_any k HN hkk (fun c hc => HRR.out c (hsub c hc)) hk0)
    have hln := HLN.out
    clear hsub hkk
    go_wp2_with fail
    refine hon.out.mono ?_
    rintro e w2 ⟨rfl, hk2⟩
    clear hon
    rcases one_cases l k r with ⟨c, r', rfl, ho, hs⟩ | ⟨ho, hs⟩
    · rw [ho] at hk2 ⊢
      rw [hs] at hm
      have HM := Lib.hid hm
      have HK2 := Lib.hid hk2
      clear hm hk2 hs ho
      simp only [List.length_cons] at hn
      go_wp2_with fail
      go_roundg (r'.length + 1)
      case measure => simp
      case rel => exact ⟨n + 1, r', _, rfl, rfl, rfl, fun c hc => HSUB.out c (List.mem_cons_of_mem _ hc), HK2.out, by omega, by rw [HM.out, Nat.add_assoc, Nat.add_comm 1]⟩
    · rw [ho] at hk2 ⊢
      rw [hs] at hm
      have HM := Lib.hid (HX.out n r (by rw [hm, Nat.zero_add]))
      have HK2 := Lib.hid hk2
      clear hm hk2 hs ho
      by_cases hle : least ≤ (n : Int)
      · have HE := Lib.hid (end_any HK2.out)
        go_wp2_with fail
        refine HE.out.mono ?_
        rintro e w3 ⟨rfl, hk3⟩
        have HB := Lib.hid hk3.bel
        have HX2 := Lib.hid (show restB l k least ks = r.isEmpty by rw [HM.out]; simp [hle])
        clear hk3
        go_wp2_with fail
        go_ret
        exact ⟨by rw [HX2.out]; rfl, HB.out⟩
      · have HX2 := Lib.hid (show restB l k least ks = false by rw [HM.out]; simp [hle])
        have HB := Lib.hid HK2.out.bel
        go_wp2_with fail
        go_ret
        exact ⟨by rw [HX2.out]; rfl, HB.out⟩

set_option maxRecDepth 100000 in
set_option maxHeartbeats 2000000 in
theorem all_any {w1 w : World} {q : Nat} {lv : Value} {l : List Nd} {ks : List Int} (g : Nat) (least : Int) (HN : NdT w1 lv l) (hk : KSt w1 w q lv ks) (hr : ∀ k ∈ ks, 0 ≤ k ∧ k < (l.length : Int)) (hk0 : g ≤ 3) :
    Calls Tryz.prog 114 #[.pointer (some ⟨q, 0, none⟩), .int .i64 g, .int .i64 least] w fun e w' => e = .returned (.bool (allB l g least ks)) ∧ Below w1.heap.size w1 w' := by
  have HK := Lib.hid hk
  have HRR := Lib.hid hr
  have HLN := Lib.hid hk.form
  have HX : RowKit.Hid (∀ n r, manyP (fun c => memB g (kindOf l c)) ks = (n, r) → allB l g least ks = (decide (least ≤ (n : Int)) && r.isEmpty)) := fun n r h => by unfold allB; rw [h]
  clear hk hr
  go_enter Tryz.func114, Tryz.ntmps114
  go_wp2_with fail
  go_loopg [7] (ks.length + 1) (fun gg v wr => ∃ (n : Nat) (r : List Int) (wx : World), wx = wr ∧ v = .int .i64 (n : Nat) ∧ r.length + 1 = gg ∧ (∀ c ∈ r, c ∈ ks) ∧ KSt w1 wr q lv r ∧ n + r.length = ks.length ∧ manyP (fun c => memB g (kindOf l c)) ks = ((manyP (fun c => memB g (kindOf l c)) r).1 + n, (manyP (fun c => memB g (kindOf l c)) r).2))
  case atStart => exact ⟨0, ks, _, rfl, rfl, rfl, fun _ h => h, HK.out, by omega, rfl⟩
  case round =>
    clear HK
    obtain ⟨n, r, wx, rfl, rfl, rfl, hsub, hkk, hn, hm⟩ := hrel
    have HSUB := Lib.hid hsub
    have hon := Lib.hid (of_any' g hk0 HN hkk (fun c hc => HRR.out c (hsub c hc)))
    have hln := HLN.out
    clear hsub hkk
    go_wp2_with fail
    refine hon.out.mono ?_
    rintro e w2 ⟨rfl, hk2⟩
    clear hon
    rcases of_cases l g r with ⟨c, r', rfl, ho, hs⟩ | ⟨ho, hs⟩
    · rw [ho] at hk2 ⊢
      rw [hs] at hm
      have HM := Lib.hid hm
      have HK2 := Lib.hid hk2
      clear hm hk2 hs ho
      simp only [List.length_cons] at hn
      go_wp2_with fail
      go_roundg (r'.length + 1)
      case measure => simp
      case rel => exact ⟨n + 1, r', _, rfl, rfl, rfl, fun c hc => HSUB.out c (List.mem_cons_of_mem _ hc), HK2.out, by omega, by rw [HM.out, Nat.add_assoc, Nat.add_comm 1]⟩
    · rw [ho] at hk2 ⊢
      rw [hs] at hm
      have HM := Lib.hid (HX.out n r (by rw [hm, Nat.zero_add]))
      have HK2 := Lib.hid hk2
      clear hm hk2 hs ho
      by_cases hle : least ≤ (n : Int)
      · have HE := Lib.hid (end_any HK2.out)
        go_wp2_with fail
        refine HE.out.mono ?_
        rintro e w3 ⟨rfl, hk3⟩
        have HB := Lib.hid hk3.bel
        have HX2 := Lib.hid (show allB l g least ks = r.isEmpty by rw [HM.out]; simp [hle])
        clear hk3
        go_wp2_with fail
        go_ret
        exact ⟨by rw [HX2.out]; rfl, HB.out⟩
      · have HX2 := Lib.hid (show allB l g least ks = false by rw [HM.out]; simp [hle])
        have HB := Lib.hid HK2.out.bel
        go_wp2_with fail
        go_ret
        exact ⟨by rw [HX2.out]; rfl, HB.out⟩

end Go.Proofs.YtbchkldhnjahaaaGreatDoor

namespace Kiln
/-- a node's kids are those of its kind (the kinds that the text of alive has) -/
def fitS (l : List Nd) (n : Nd) : Bool :=
  if n.kind = 31 ∨ n.kind = 1 ∨ n.kind = 10 then n.kids.isEmpty
  else if n.kind = 13 then !(n.kids.length == 1) && allB l 0 0 n.kids
  else if n.kind = 17 then (match n.kids with
    | [a, b] => memB 0 (kindOf l a) && memB 0 (kindOf l b)
    | _ => false)
  else if n.kind = 53 then (match n.kids with
    | [a, b] => memB 1 (kindOf l a) && memB 0 (kindOf l b)
    | _ => false)
  else if n.kind = 51 then restB l 53 1 n.kids
  else if n.kind = 50 then allB l 3 0 n.kids
  else false
end Kiln
namespace Go.Proofs.YtbchkldhnjahaaaGreatDoor
open Go.RowKit Kiln
open Go.Proofs

set_option maxRecDepth 100000 in
set_option maxHeartbeats 4000000 in
theorem strict_plain (q : Nat) (k : Int) (hk : k = 1 ∨ k = 10 ∨ k = 17 ∨ k = 31 ∨ k = 50 ∨ k = 51 ∨ k = 53) (t : ByteArray) (pa ka : Option Addr) (pn pc kn kc : Nat) (ln col : Int) (w : World) :
    Calls Tryz.prog 65 #[.pointer (some ⟨q, 0, none⟩), .agg #[.int .i64 k, Value.string t, .slice pa pn pc, .slice ka kn kc, .int .i64 ln, .int .i64 col]] w fun e w' => e = .returned (.bool true) ∧ Below w.heap.size w w' := by
  rcases hk with rfl | rfl | rfl | rfl | rfl | rfl | rfl
  all_goals
    go_enter Tryz.func65, Tryz.ntmps65
    go_wp2_with fail
    go_ret
    exact ⟨rfl, bl_al (Below.refl _ _) _⟩

set_option maxRecDepth 100000 in
set_option maxHeartbeats 4000000 in
theorem strict_13 (q : Nat) (t : ByteArray) (pa ka : Option Addr) (pn pc kn kc : Nat) (ln col : Int) (w : World) (hn : ((kn : Int) != 1) = true) :
    Calls Tryz.prog 65 #[.pointer (some ⟨q, 0, none⟩), .agg #[.int .i64 13, Value.string t, .slice pa pn pc, .slice ka kn kc, .int .i64 ln, .int .i64 col]] w fun e w' => e = .returned (.bool true) ∧ Below w.heap.size w w' := by
  go_enter Tryz.func65, Tryz.ntmps65
  go_wp2_with fail
  go_ret
  exact ⟨rfl, bl_al (Below.refl _ _) _⟩

section
variable {w1 w : World} {q : Nat} {lv : Value} {l : List Nd} {ks : List Int}

set_option maxRecDepth 100000 in
set_option maxHeartbeats 4000000 in
theorem exps_13 (HN : NdT w1 lv l) (hk : KSt w1 w q lv ks) (hr : ∀ k ∈ ks, 0 ≤ k ∧ k < (l.length : Int)) (hf : allB l 0 0 ks = true) :
    Calls Tryz.prog 68 #[.pointer (some ⟨q, 0, none⟩), .int .i64 13] w fun e w' => e = .returned (.bool true) ∧ Below w1.heap.size w1 w' := by
  have HA := Lib.hid (all_any 0 0 HN hk hr (by decide))
  have HF := Lib.hid hf
  clear hf hk
  go_enter Tryz.func68, Tryz.ntmps68
  go_wp2_with fail
  refine HA.out.mono ?_
  rintro e w2 ⟨rfl, hb⟩
  rw [HF.out]
  go_wp2_with fail
  go_ret
  exact ⟨rfl, hb⟩

set_option maxRecDepth 100000 in
set_option maxHeartbeats 4000000 in
theorem exps_17 {a b : Int} (HN : NdT w1 lv l) (hk : KSt w1 w q lv [a, b]) (hr : ∀ k ∈ [a, b], 0 ≤ k ∧ k < (l.length : Int)) (ha : memB 0 (kindOf l a) = true) (hb : memB 0 (kindOf l b) = true) :
    Calls Tryz.prog 68 #[.pointer (some ⟨q, 0, none⟩), .int .i64 17] w fun e w' => e = .returned (.bool true) ∧ Below w1.heap.size w1 w' := by
  have HA := Lib.hid (of_any' 0 (by decide) HN hk hr)
  have HRR := Lib.hid hr
  have HFA := Lib.hid (show ofG l 0 [a, b] = (true, [b]) by simp [ofG, ha])
  have HFB := Lib.hid (show ofG l 0 [b] = (true, []) by simp [ofG, hb])
  clear ha hb hk hr
  go_enter Tryz.func68, Tryz.ntmps68
  go_wp2_with fail
  refine HA.out.mono ?_
  rintro e w2 ⟨rfl, hk2⟩
  rw [HFA.out] at hk2 ⊢
  have HB := Lib.hid (of_any' 0 (by decide) HN hk2 (fun c hc => HRR.out c (List.mem_cons_of_mem _ hc)))
  clear hk2
  go_wp2_with fail
  refine HB.out.mono ?_
  rintro e w3 ⟨rfl, hk3⟩
  rw [HFB.out] at hk3 ⊢
  have HC := Lib.hid (end_any hk3)
  clear hk3
  go_wp2_with fail
  refine HC.out.mono ?_
  rintro e w4 ⟨rfl, hk4⟩
  have HD := Lib.hid hk4.bel
  clear hk4
  go_wp2_with fail
  go_ret
  exact ⟨rfl, HD.out⟩

set_option maxRecDepth 100000 in
set_option maxHeartbeats 4000000 in
theorem decs_50 (HN : NdT w1 lv l) (hk : KSt w1 w q lv ks) (hr : ∀ k ∈ ks, 0 ≤ k ∧ k < (l.length : Int)) (hf : allB l 3 0 ks = true) :
    Calls Tryz.prog 71 #[.pointer (some ⟨q, 0, none⟩), .int .i64 50] w fun e w' => e = .returned (.bool true) ∧ Below w1.heap.size w1 w' := by
  have HA := Lib.hid (all_any 3 0 HN hk hr (by decide))
  have HF := Lib.hid hf
  clear hf hk
  go_enter Tryz.func71, Tryz.ntmps71
  go_wp2_with fail
  refine HA.out.mono ?_
  rintro e w2 ⟨rfl, hb⟩
  rw [HF.out]
  go_wp2_with fail
  go_ret
  exact ⟨rfl, hb⟩

set_option maxRecDepth 100000 in
set_option maxHeartbeats 4000000 in
theorem decs_51 (HN : NdT w1 lv l) (hk : KSt w1 w q lv ks) (hr : ∀ k ∈ ks, 0 ≤ k ∧ k < (l.length : Int)) (hf : restB l 53 1 ks = true) :
    Calls Tryz.prog 71 #[.pointer (some ⟨q, 0, none⟩), .int .i64 51] w fun e w' => e = .returned (.bool true) ∧ Below w1.heap.size w1 w' := by
  have HA := Lib.hid (rest_any 53 1 HN hk hr (by decide))
  have HF := Lib.hid hf
  clear hf hk
  go_enter Tryz.func71, Tryz.ntmps71
  go_wp2_with fail
  refine HA.out.mono ?_
  rintro e w2 ⟨rfl, hb⟩
  rw [HF.out]
  go_wp2_with fail
  go_ret
  exact ⟨rfl, hb⟩

set_option maxRecDepth 100000 in
set_option maxHeartbeats 4000000 in
theorem decs_53 {a b : Int} (HN : NdT w1 lv l) (hk : KSt w1 w q lv [a, b]) (hr : ∀ k ∈ [a, b], 0 ≤ k ∧ k < (l.length : Int)) (ha : memB 1 (kindOf l a) = true) (hb : memB 0 (kindOf l b) = true) :
    Calls Tryz.prog 71 #[.pointer (some ⟨q, 0, none⟩), .int .i64 53] w fun e w' => e = .returned (.bool true) ∧ Below w1.heap.size w1 w' := by
  have HA := Lib.hid (of_any' 1 (by decide) HN hk hr)
  have HRR := Lib.hid hr
  have HFA := Lib.hid (show ofG l 1 [a, b] = (true, [b]) by simp [ofG, ha])
  have HFB := Lib.hid (show ofG l 0 [b] = (true, []) by simp [ofG, hb])
  clear ha hb hk hr
  go_enter Tryz.func71, Tryz.ntmps71
  go_wp2_with fail
  refine HA.out.mono ?_
  rintro e w2 ⟨rfl, hk2⟩
  rw [HFA.out] at hk2 ⊢
  have HB := Lib.hid (of_any' 0 (by decide) HN hk2 (fun c hc => HRR.out c (List.mem_cons_of_mem _ hc)))
  clear hk2
  go_wp2_with fail
  refine HB.out.mono ?_
  rintro e w3 ⟨rfl, hk3⟩
  rw [HFB.out] at hk3 ⊢
  have HC := Lib.hid (end_any hk3)
  clear hk3
  go_wp2_with fail
  refine HC.out.mono ?_
  rintro e w4 ⟨rfl, hk4⟩
  have HD := Lib.hid hk4.bel
  clear hk4
  go_wp2_with fail
  go_ret
  exact ⟨rfl, HD.out⟩
end

theorem heap_alloc_at' {w : World} {o : Obj} {n : Nat} (hn : n = w.heap.size) : (w.alloc o).heap[n]? = some o := by subst hn; exact heap_alloc_new w o

set_option maxRecDepth 100000 in
set_option maxHeartbeats 4000000 in
theorem fits_1 {w : World} {l : List Nd} {la pa ka : Option Addr} {lc pn pc kc : Nat} (t : ByteArray) (ln col : Int) (HN : NdT w (.slice la l.length lc) l) (hk : Ints w (.slice ka 0 kc) [])  :
    Calls Tryz.prog 38 #[.slice la l.length lc, .agg #[.int .i64 1, .string t, .slice pa pn pc, .slice ka 0 kc, .int .i64 ln, .int .i64 col]] w fun e w' => e = .returned (.bool true) ∧ Below w.heap.size w w' := by
  have hb1 : Below w.heap.size w (w.alloc (.cells #[.int .i64 1, .string t, .slice pa pn pc, .slice ka 0 kc, .int .i64 ln, .int .i64 col] 41)) := bl_al (Below.refl _ _) _
  have hks : KSt (w.alloc (.cells #[.int .i64 1, .string t, .slice pa pn pc, .slice ka 0 kc, .int .i64 ln, .int .i64 col] 41)) ((w.alloc (.cells #[.int .i64 1, .string t, .slice pa pn pc, .slice ka 0 kc, .int .i64 ln, .int .i64 col] 41)).alloc (.cells #[.slice la l.length lc, .slice ka 0 kc] 117)) (w.heap.size + 1) (.slice la l.length lc) [] :=
    ⟨bl_al (Below.refl _ _) _, by simp, _, heap_alloc_at' (by simp), hk.below hb1⟩
  have HN1 := Lib.hid (HN.below hb1)
  have HK := Lib.hid hks
  have HB1 := Lib.hid hb1
  have HE := Lib.hid (show (w.alloc (.cells #[.int .i64 1, .string t, .slice pa pn pc, .slice ka 0 kc, .int .i64 ln, .int .i64 col] 41)).cell? ⟨w.heap.size, 0, none⟩ = some (.int .i64 1) from cell3 (heap_alloc_new _ _) 0 _ rfl)
  clear hb1 hks hk HN
  go_enter Tryz.func38, Tryz.ntmps38
  go_wp2_with fail
  refine (strict_plain (w.heap.size + 1) 1 (by decide) t pa ka pn pc 0 kc ln col _).mono ?_
  rintro e w2 ⟨rfl, hb2⟩
  have HK2 := Lib.hid (HK.out.below hb2)
  have e0 := cell_later hb2 (cell_al HE.out _)
  clear HK HE hb2
  go_wp2_with fail
  refine (end_any HK2.out).mono ?_
  rintro e w3 ⟨rfl, hk3⟩
  have HD := Lib.hid (HB1.out.trans (hk3.bel.mono HB1.out.size))
  clear hk3
  go_wp2_with fail
  go_ret
  exact ⟨rfl, HD.out⟩

set_option maxRecDepth 100000 in
set_option maxHeartbeats 4000000 in
theorem fits_10 {w : World} {l : List Nd} {la pa ka : Option Addr} {lc pn pc kc : Nat} (t : ByteArray) (ln col : Int) (HN : NdT w (.slice la l.length lc) l) (hk : Ints w (.slice ka 0 kc) [])  :
    Calls Tryz.prog 38 #[.slice la l.length lc, .agg #[.int .i64 10, .string t, .slice pa pn pc, .slice ka 0 kc, .int .i64 ln, .int .i64 col]] w fun e w' => e = .returned (.bool true) ∧ Below w.heap.size w w' := by
  have hb1 : Below w.heap.size w (w.alloc (.cells #[.int .i64 10, .string t, .slice pa pn pc, .slice ka 0 kc, .int .i64 ln, .int .i64 col] 41)) := bl_al (Below.refl _ _) _
  have hks : KSt (w.alloc (.cells #[.int .i64 10, .string t, .slice pa pn pc, .slice ka 0 kc, .int .i64 ln, .int .i64 col] 41)) ((w.alloc (.cells #[.int .i64 10, .string t, .slice pa pn pc, .slice ka 0 kc, .int .i64 ln, .int .i64 col] 41)).alloc (.cells #[.slice la l.length lc, .slice ka 0 kc] 117)) (w.heap.size + 1) (.slice la l.length lc) [] :=
    ⟨bl_al (Below.refl _ _) _, by simp, _, heap_alloc_at' (by simp), hk.below hb1⟩
  have HN1 := Lib.hid (HN.below hb1)
  have HK := Lib.hid hks
  have HB1 := Lib.hid hb1
  have HE := Lib.hid (show (w.alloc (.cells #[.int .i64 10, .string t, .slice pa pn pc, .slice ka 0 kc, .int .i64 ln, .int .i64 col] 41)).cell? ⟨w.heap.size, 0, none⟩ = some (.int .i64 10) from cell3 (heap_alloc_new _ _) 0 _ rfl)
  clear hb1 hks hk HN
  go_enter Tryz.func38, Tryz.ntmps38
  go_wp2_with fail
  refine (strict_plain (w.heap.size + 1) 10 (by decide) t pa ka pn pc 0 kc ln col _).mono ?_
  rintro e w2 ⟨rfl, hb2⟩
  have HK2 := Lib.hid (HK.out.below hb2)
  have e0 := cell_later hb2 (cell_al HE.out _)
  clear HK HE hb2
  go_wp2_with fail
  refine (end_any HK2.out).mono ?_
  rintro e w3 ⟨rfl, hk3⟩
  have HD := Lib.hid (HB1.out.trans (hk3.bel.mono HB1.out.size))
  clear hk3
  go_wp2_with fail
  go_ret
  exact ⟨rfl, HD.out⟩

set_option maxRecDepth 100000 in
set_option maxHeartbeats 4000000 in
theorem fits_31 {w : World} {l : List Nd} {la pa ka : Option Addr} {lc pn pc kc : Nat} (t : ByteArray) (ln col : Int) (HN : NdT w (.slice la l.length lc) l) (hk : Ints w (.slice ka 0 kc) [])  :
    Calls Tryz.prog 38 #[.slice la l.length lc, .agg #[.int .i64 31, .string t, .slice pa pn pc, .slice ka 0 kc, .int .i64 ln, .int .i64 col]] w fun e w' => e = .returned (.bool true) ∧ Below w.heap.size w w' := by
  have hb1 : Below w.heap.size w (w.alloc (.cells #[.int .i64 31, .string t, .slice pa pn pc, .slice ka 0 kc, .int .i64 ln, .int .i64 col] 41)) := bl_al (Below.refl _ _) _
  have hks : KSt (w.alloc (.cells #[.int .i64 31, .string t, .slice pa pn pc, .slice ka 0 kc, .int .i64 ln, .int .i64 col] 41)) ((w.alloc (.cells #[.int .i64 31, .string t, .slice pa pn pc, .slice ka 0 kc, .int .i64 ln, .int .i64 col] 41)).alloc (.cells #[.slice la l.length lc, .slice ka 0 kc] 117)) (w.heap.size + 1) (.slice la l.length lc) [] :=
    ⟨bl_al (Below.refl _ _) _, by simp, _, heap_alloc_at' (by simp), hk.below hb1⟩
  have HN1 := Lib.hid (HN.below hb1)
  have HK := Lib.hid hks
  have HB1 := Lib.hid hb1
  have HE := Lib.hid (show (w.alloc (.cells #[.int .i64 31, .string t, .slice pa pn pc, .slice ka 0 kc, .int .i64 ln, .int .i64 col] 41)).cell? ⟨w.heap.size, 0, none⟩ = some (.int .i64 31) from cell3 (heap_alloc_new _ _) 0 _ rfl)
  clear hb1 hks hk HN
  go_enter Tryz.func38, Tryz.ntmps38
  go_wp2_with fail
  refine (strict_plain (w.heap.size + 1) 31 (by decide) t pa ka pn pc 0 kc ln col _).mono ?_
  rintro e w2 ⟨rfl, hb2⟩
  have HK2 := Lib.hid (HK.out.below hb2)
  have e0 := cell_later hb2 (cell_al HE.out _)
  clear HK HE hb2
  go_wp2_with fail
  refine (end_any HK2.out).mono ?_
  rintro e w3 ⟨rfl, hk3⟩
  have HD := Lib.hid (HB1.out.trans (hk3.bel.mono HB1.out.size))
  clear hk3
  go_wp2_with fail
  go_ret
  exact ⟨rfl, HD.out⟩

set_option maxRecDepth 100000 in
set_option maxHeartbeats 4000000 in
theorem fits_13 {w : World} {l : List Nd} {ks : List Int} {la pa ka : Option Addr} {lc pn pc kc : Nat} (t : ByteArray) (ln col : Int) (HN : NdT w (.slice la l.length lc) l) (hk : Ints w (.slice ka ks.length kc) ks) (hr : ∀ k ∈ ks, 0 ≤ k ∧ k < (l.length : Int)) (hf : allB l 0 0 ks = true) (HN13 : ((ks.length : Int) != 1) = true) :
    Calls Tryz.prog 38 #[.slice la l.length lc, .agg #[.int .i64 13, .string t, .slice pa pn pc, .slice ka ks.length kc, .int .i64 ln, .int .i64 col]] w fun e w' => e = .returned (.bool true) ∧ Below w.heap.size w w' := by
  have hb1 : Below w.heap.size w (w.alloc (.cells #[.int .i64 13, .string t, .slice pa pn pc, .slice ka ks.length kc, .int .i64 ln, .int .i64 col] 41)) := bl_al (Below.refl _ _) _
  have hks : KSt (w.alloc (.cells #[.int .i64 13, .string t, .slice pa pn pc, .slice ka ks.length kc, .int .i64 ln, .int .i64 col] 41)) ((w.alloc (.cells #[.int .i64 13, .string t, .slice pa pn pc, .slice ka ks.length kc, .int .i64 ln, .int .i64 col] 41)).alloc (.cells #[.slice la l.length lc, .slice ka ks.length kc] 117)) (w.heap.size + 1) (.slice la l.length lc) ks :=
    ⟨bl_al (Below.refl _ _) _, by simp, _, heap_alloc_at' (by simp), hk.below hb1⟩
  have HN1 := Lib.hid (HN.below hb1)
  have HK := Lib.hid hks
  have HB1 := Lib.hid hb1
  have HE := Lib.hid (show (w.alloc (.cells #[.int .i64 13, .string t, .slice pa pn pc, .slice ka ks.length kc, .int .i64 ln, .int .i64 col] 41)).cell? ⟨w.heap.size, 0, none⟩ = some (.int .i64 13) from cell3 (heap_alloc_new _ _) 0 _ rfl)
  have HRR := Lib.hid hr
  clear hb1 hks hk hr HN
  go_enter Tryz.func38, Tryz.ntmps38
  go_wp2_with fail
  refine (strict_13 (w.heap.size + 1) t pa ka pn pc ks.length kc ln col _ HN13).mono ?_
  rintro e w2 ⟨rfl, hb2⟩
  have HK2 := Lib.hid (HK.out.below hb2)
  have e0 := cell_later hb2 (cell_al HE.out _)
  clear HK HE hb2
  go_wp2_with fail
  refine (exps_13 HN1.out HK2.out HRR.out hf).mono ?_
  rintro e w3 ⟨rfl, hb3⟩
  have HD := Lib.hid (HB1.out.trans (hb3.mono HB1.out.size))
  clear hb3
  go_wp2_with fail
  go_ret
  exact ⟨rfl, HD.out⟩

set_option maxRecDepth 100000 in
set_option maxHeartbeats 4000000 in
theorem fits_17 {w : World} {l : List Nd} {a b : Int} {la pa ka : Option Addr} {lc pn pc kc : Nat} (t : ByteArray) (ln col : Int) (HN : NdT w (.slice la l.length lc) l) (hk : Ints w (.slice ka 2 kc) [a, b]) (hr : ∀ k ∈ [a, b], 0 ≤ k ∧ k < (l.length : Int)) (hx : memB 0 (kindOf l a) = true) (hy : memB 0 (kindOf l b) = true) :
    Calls Tryz.prog 38 #[.slice la l.length lc, .agg #[.int .i64 17, .string t, .slice pa pn pc, .slice ka 2 kc, .int .i64 ln, .int .i64 col]] w fun e w' => e = .returned (.bool true) ∧ Below w.heap.size w w' := by
  have hb1 : Below w.heap.size w (w.alloc (.cells #[.int .i64 17, .string t, .slice pa pn pc, .slice ka 2 kc, .int .i64 ln, .int .i64 col] 41)) := bl_al (Below.refl _ _) _
  have hks : KSt (w.alloc (.cells #[.int .i64 17, .string t, .slice pa pn pc, .slice ka 2 kc, .int .i64 ln, .int .i64 col] 41)) ((w.alloc (.cells #[.int .i64 17, .string t, .slice pa pn pc, .slice ka 2 kc, .int .i64 ln, .int .i64 col] 41)).alloc (.cells #[.slice la l.length lc, .slice ka 2 kc] 117)) (w.heap.size + 1) (.slice la l.length lc) [a, b] :=
    ⟨bl_al (Below.refl _ _) _, by simp, _, heap_alloc_at' (by simp), hk.below hb1⟩
  have HN1 := Lib.hid (HN.below hb1)
  have HK := Lib.hid hks
  have HB1 := Lib.hid hb1
  have HE := Lib.hid (show (w.alloc (.cells #[.int .i64 17, .string t, .slice pa pn pc, .slice ka 2 kc, .int .i64 ln, .int .i64 col] 41)).cell? ⟨w.heap.size, 0, none⟩ = some (.int .i64 17) from cell3 (heap_alloc_new _ _) 0 _ rfl)
  have HRR := Lib.hid hr
  clear hb1 hks hk hr HN
  go_enter Tryz.func38, Tryz.ntmps38
  go_wp2_with fail
  refine (strict_plain (w.heap.size + 1) 17 (by decide) t pa ka pn pc 2 kc ln col _).mono ?_
  rintro e w2 ⟨rfl, hb2⟩
  have HK2 := Lib.hid (HK.out.below hb2)
  have e0 := cell_later hb2 (cell_al HE.out _)
  clear HK HE hb2
  go_wp2_with fail
  refine (exps_17 HN1.out HK2.out HRR.out hx hy).mono ?_
  rintro e w3 ⟨rfl, hb3⟩
  have HD := Lib.hid (HB1.out.trans (hb3.mono HB1.out.size))
  clear hb3
  go_wp2_with fail
  go_ret
  exact ⟨rfl, HD.out⟩

set_option maxRecDepth 100000 in
set_option maxHeartbeats 4000000 in
theorem fits_53 {w : World} {l : List Nd} {a b : Int} {la pa ka : Option Addr} {lc pn pc kc : Nat} (t : ByteArray) (ln col : Int) (HN : NdT w (.slice la l.length lc) l) (hk : Ints w (.slice ka 2 kc) [a, b]) (hr : ∀ k ∈ [a, b], 0 ≤ k ∧ k < (l.length : Int)) (hx : memB 1 (kindOf l a) = true) (hy : memB 0 (kindOf l b) = true) :
    Calls Tryz.prog 38 #[.slice la l.length lc, .agg #[.int .i64 53, .string t, .slice pa pn pc, .slice ka 2 kc, .int .i64 ln, .int .i64 col]] w fun e w' => e = .returned (.bool true) ∧ Below w.heap.size w w' := by
  have hb1 : Below w.heap.size w (w.alloc (.cells #[.int .i64 53, .string t, .slice pa pn pc, .slice ka 2 kc, .int .i64 ln, .int .i64 col] 41)) := bl_al (Below.refl _ _) _
  have hks : KSt (w.alloc (.cells #[.int .i64 53, .string t, .slice pa pn pc, .slice ka 2 kc, .int .i64 ln, .int .i64 col] 41)) ((w.alloc (.cells #[.int .i64 53, .string t, .slice pa pn pc, .slice ka 2 kc, .int .i64 ln, .int .i64 col] 41)).alloc (.cells #[.slice la l.length lc, .slice ka 2 kc] 117)) (w.heap.size + 1) (.slice la l.length lc) [a, b] :=
    ⟨bl_al (Below.refl _ _) _, by simp, _, heap_alloc_at' (by simp), hk.below hb1⟩
  have HN1 := Lib.hid (HN.below hb1)
  have HK := Lib.hid hks
  have HB1 := Lib.hid hb1
  have HE := Lib.hid (show (w.alloc (.cells #[.int .i64 53, .string t, .slice pa pn pc, .slice ka 2 kc, .int .i64 ln, .int .i64 col] 41)).cell? ⟨w.heap.size, 0, none⟩ = some (.int .i64 53) from cell3 (heap_alloc_new _ _) 0 _ rfl)
  have HRR := Lib.hid hr
  clear hb1 hks hk hr HN
  go_enter Tryz.func38, Tryz.ntmps38
  go_wp2_with fail
  refine (strict_plain (w.heap.size + 1) 53 (by decide) t pa ka pn pc 2 kc ln col _).mono ?_
  rintro e w2 ⟨rfl, hb2⟩
  have HK2 := Lib.hid (HK.out.below hb2)
  have e0 := cell_later hb2 (cell_al HE.out _)
  clear HK HE hb2
  go_wp2_with fail
  refine (decs_53 HN1.out HK2.out HRR.out hx hy).mono ?_
  rintro e w3 ⟨rfl, hb3⟩
  have HD := Lib.hid (HB1.out.trans (hb3.mono HB1.out.size))
  clear hb3
  go_wp2_with fail
  go_ret
  exact ⟨rfl, HD.out⟩

set_option maxRecDepth 100000 in
set_option maxHeartbeats 4000000 in
theorem fits_51 {w : World} {l : List Nd} {ks : List Int} {la pa ka : Option Addr} {lc pn pc kc : Nat} (t : ByteArray) (ln col : Int) (HN : NdT w (.slice la l.length lc) l) (hk : Ints w (.slice ka ks.length kc) ks) (hr : ∀ k ∈ ks, 0 ≤ k ∧ k < (l.length : Int)) (hf : restB l 53 1 ks = true) :
    Calls Tryz.prog 38 #[.slice la l.length lc, .agg #[.int .i64 51, .string t, .slice pa pn pc, .slice ka ks.length kc, .int .i64 ln, .int .i64 col]] w fun e w' => e = .returned (.bool true) ∧ Below w.heap.size w w' := by
  have hb1 : Below w.heap.size w (w.alloc (.cells #[.int .i64 51, .string t, .slice pa pn pc, .slice ka ks.length kc, .int .i64 ln, .int .i64 col] 41)) := bl_al (Below.refl _ _) _
  have hks : KSt (w.alloc (.cells #[.int .i64 51, .string t, .slice pa pn pc, .slice ka ks.length kc, .int .i64 ln, .int .i64 col] 41)) ((w.alloc (.cells #[.int .i64 51, .string t, .slice pa pn pc, .slice ka ks.length kc, .int .i64 ln, .int .i64 col] 41)).alloc (.cells #[.slice la l.length lc, .slice ka ks.length kc] 117)) (w.heap.size + 1) (.slice la l.length lc) ks :=
    ⟨bl_al (Below.refl _ _) _, by simp, _, heap_alloc_at' (by simp), hk.below hb1⟩
  have HN1 := Lib.hid (HN.below hb1)
  have HK := Lib.hid hks
  have HB1 := Lib.hid hb1
  have HE := Lib.hid (show (w.alloc (.cells #[.int .i64 51, .string t, .slice pa pn pc, .slice ka ks.length kc, .int .i64 ln, .int .i64 col] 41)).cell? ⟨w.heap.size, 0, none⟩ = some (.int .i64 51) from cell3 (heap_alloc_new _ _) 0 _ rfl)
  have HRR := Lib.hid hr
  clear hb1 hks hk hr HN
  go_enter Tryz.func38, Tryz.ntmps38
  go_wp2_with fail
  refine (strict_plain (w.heap.size + 1) 51 (by decide) t pa ka pn pc ks.length kc ln col _).mono ?_
  rintro e w2 ⟨rfl, hb2⟩
  have HK2 := Lib.hid (HK.out.below hb2)
  have e0 := cell_later hb2 (cell_al HE.out _)
  clear HK HE hb2
  go_wp2_with fail
  refine (decs_51 HN1.out HK2.out HRR.out hf).mono ?_
  rintro e w3 ⟨rfl, hb3⟩
  have HD := Lib.hid (HB1.out.trans (hb3.mono HB1.out.size))
  clear hb3
  go_wp2_with fail
  go_ret
  exact ⟨rfl, HD.out⟩

set_option maxRecDepth 100000 in
set_option maxHeartbeats 4000000 in
theorem fits_50 {w : World} {l : List Nd} {ks : List Int} {la pa ka : Option Addr} {lc pn pc kc : Nat} (t : ByteArray) (ln col : Int) (HN : NdT w (.slice la l.length lc) l) (hk : Ints w (.slice ka ks.length kc) ks) (hr : ∀ k ∈ ks, 0 ≤ k ∧ k < (l.length : Int)) (hf : allB l 3 0 ks = true) :
    Calls Tryz.prog 38 #[.slice la l.length lc, .agg #[.int .i64 50, .string t, .slice pa pn pc, .slice ka ks.length kc, .int .i64 ln, .int .i64 col]] w fun e w' => e = .returned (.bool true) ∧ Below w.heap.size w w' := by
  have hb1 : Below w.heap.size w (w.alloc (.cells #[.int .i64 50, .string t, .slice pa pn pc, .slice ka ks.length kc, .int .i64 ln, .int .i64 col] 41)) := bl_al (Below.refl _ _) _
  have hks : KSt (w.alloc (.cells #[.int .i64 50, .string t, .slice pa pn pc, .slice ka ks.length kc, .int .i64 ln, .int .i64 col] 41)) ((w.alloc (.cells #[.int .i64 50, .string t, .slice pa pn pc, .slice ka ks.length kc, .int .i64 ln, .int .i64 col] 41)).alloc (.cells #[.slice la l.length lc, .slice ka ks.length kc] 117)) (w.heap.size + 1) (.slice la l.length lc) ks :=
    ⟨bl_al (Below.refl _ _) _, by simp, _, heap_alloc_at' (by simp), hk.below hb1⟩
  have HN1 := Lib.hid (HN.below hb1)
  have HK := Lib.hid hks
  have HB1 := Lib.hid hb1
  have HE := Lib.hid (show (w.alloc (.cells #[.int .i64 50, .string t, .slice pa pn pc, .slice ka ks.length kc, .int .i64 ln, .int .i64 col] 41)).cell? ⟨w.heap.size, 0, none⟩ = some (.int .i64 50) from cell3 (heap_alloc_new _ _) 0 _ rfl)
  have HRR := Lib.hid hr
  clear hb1 hks hk hr HN
  go_enter Tryz.func38, Tryz.ntmps38
  go_wp2_with fail
  refine (strict_plain (w.heap.size + 1) 50 (by decide) t pa ka pn pc ks.length kc ln col _).mono ?_
  rintro e w2 ⟨rfl, hb2⟩
  have HK2 := Lib.hid (HK.out.below hb2)
  have e0 := cell_later hb2 (cell_al HE.out _)
  clear HK HE hb2
  go_wp2_with fail
  refine (decs_50 HN1.out HK2.out HRR.out hf).mono ?_
  rintro e w3 ⟨rfl, hb3⟩
  have HD := Lib.hid (HB1.out.trans (hb3.mono HB1.out.size))
  clear hb3
  go_wp2_with fail
  go_ret
  exact ⟨rfl, HD.out⟩
end Go.Proofs.YtbchkldhnjahaaaGreatDoor

namespace Kiln
/-- all nodes of a list are right: their kids are lower, and those of their kinds -/
def goodL (l : List Nd) : Bool := (List.range l.length).all fun i => match l[i]? with
  | some n => (n.kids.all fun k => decide (0 ≤ k) && decide (k < (i : Int))) && fitS l n
  | none => true
theorem goodL_at {l : List Nd} (h : goodL l = true) {i : Nat} {n : Nd} (hn : l[i]? = some n) : (∀ k ∈ n.kids, 0 ≤ k ∧ k < (i : Int)) ∧ fitS l n = true := by
  unfold goodL at h
  rw [List.all_eq_true] at h
  have := h i (by simpa using (List.getElem?_eq_some_iff.1 hn).1)
  rw [hn] at this
  simp only [Bool.and_eq_true, List.all_eq_true, decide_eq_true_eq] at this
  exact ⟨this.1, this.2⟩
end Kiln
namespace Go.Proofs.YtbchkldhnjahaaaGreatDoor
open Go.RowKit Kiln
open Go.Proofs

theorem fits_any {w : World} {lv pv kv : Value} {l : List Nd} {n : Nd} (HN : NdT w lv l) (hp : Strs w pv n.path) (hk : Ints w kv n.kids) (hr : ∀ k ∈ n.kids, 0 ≤ k ∧ k < (l.length : Int)) (hf : fitS l n = true) :
    Calls Tryz.prog 38 #[lv, .agg #[.int .i64 n.kind, str n.text, pv, kv, .int .i64 n.line, .int .i64 n.col]] w fun e w' => e = .returned (.bool true) ∧ Below w.heap.size w w' := by
  obtain ⟨la, lc, rfl, _⟩ := id HN
  obtain ⟨pa, pc, rfl, _⟩ := id hp
  obtain ⟨ka, kc, rfl, _⟩ := id hk
  obtain ⟨kind, text, path, kids, line, col⟩ := n
  simp only at hk hr ⊢
  unfold fitS at hf
  simp only at hf
  split at hf
  · rename_i h
    have : kids = [] := by simpa using hf
    subst this
    rcases h with rfl | rfl | rfl
    · exact fits_31 _ line col HN hk
    · exact fits_1 _ line col HN hk
    · exact fits_10 _ line col HN hk
  · split at hf
    · rename_i h
      subst h
      simp only [Bool.and_eq_true, Bool.not_eq_true', beq_eq_false_iff_ne] at hf
      exact fits_13 _ line col HN hk hr hf.2 (by rw [bne_iff_ne]; omega)
    · split at hf
      · rename_i h
        subst h
        match kids, hf, hk, hr with
        | [a, b], hf, hk, hr =>
          simp only [Bool.and_eq_true] at hf
          exact fits_17 _ line col HN hk hr hf.1 hf.2
      · split at hf
        · rename_i h
          subst h
          match kids, hf, hk, hr with
          | [a, b], hf, hk, hr =>
            simp only [Bool.and_eq_true] at hf
            exact fits_53 _ line col HN hk hr hf.1 hf.2
        · split at hf
          · rename_i h
            subst h
            exact fits_51 _ line col HN hk hr hf
          · split at hf
            · rename_i h
              subst h
              exact fits_50 _ line col HN hk hr hf
            · cases hf

set_option maxRecDepth 100000 in
set_option maxHeartbeats 4000000 in
theorem check_any (w : World) (lv : Value) (l : List Nd) (root : Nat) (hl : NdT w lv l) (hgood : goodL l = true) (hroot : root < l.length) (hlen : l.length ≤ 4398046511104) :
    Calls Tryz.prog 19 #[lv, .int .i64 root] w fun e w' => e = .returned (.int .i64 0) ∧ Below w.heap.size w w' := by
  have hmk : ∀ w : World, (Instr.makeSlice 81 (.int .i64 ((root : Int) + 1)) (.int .i64 ((root : Int) + 1))).run Tryz.prog w = .ok (.slice (some ⟨w.heap.size, 0, none⟩) (root + 1) (root + 1)) (w.alloc (.cells (madeCells #[.bool false] (root + 1)) 4)) := by
    have := run_make_row' (P := Tryz.prog) 81 4 (.bool false) 1 Tryz.underlying81 info81 rfl .i64 .i64 (root + 1) (by omega) (by omega)
    simpa using this
  have HL := Lib.hid hl
  have HGD := Lib.hid hgood
  obtain ⟨la, lcap, rfl, -⟩ := hl
  have hm0 : MetS (w.alloc (.cells (madeCells #[.bool false] (root + 1)) 4)) w.heap.size (root + 1) (fun _ => false) := World.rowIs_made w (.bool false) (root + 1) 4
  have hb0 := bl_al (Below.refl _ w) (.cells (madeCells #[.bool false] (root + 1)) 4)
  obtain ⟨wy, hwy⟩ : ∃ wy, w.alloc (.cells (madeCells #[.bool false] (root + 1)) 4) = wy := ⟨_, rfl⟩
  rw [hwy] at hm0 hb0
  have g0 : wy.cell? ⟨w.heap.size, root, none⟩ = some (.bool false) := World.rowIs.cell hm0 (Nat.lt_succ_self _)
  have g1 : wy.frozen? ⟨w.heap.size, root, none⟩ = false := World.rowIs.frozen hm0 root
  have HM1 := Lib.hid (MetS.put (m' := fun j => if j = root then true else false) (k := root) hm0 (fun j => rfl))
  have HB0 := Lib.hid (hb0.setCell (p := ⟨w.heap.size, root, none⟩) (Nat.le_refl _) (.bool true))
  have HRT := Lib.hid hroot
  have q0 : (decide ((root : Int) < 0)) = false := by simp
  have q1 : (decide (l.length ≤ root)) = false := by simpa using hroot
  have q2 : (decide ((l.length : Int) ≤ root)) = false := by simp; omega
  have hr0 : (root : Int) < (l.length : Int) := by omega
  have hr1 : (root : Int) < (root : Int) + 1 := by omega
  clear hm0 hb0 hgood hroot
  go_enter Tryz.func19, Tryz.ntmps19
  go_wp2_with fail
  clear hmk g0 g1 hwy
  go_loopg [6] (root + 2) (fun g v wr => ∃ (n : Nat) (m : Nat → Bool) (z : Int) (wx : World), wx = wr ∧ v = .int .i64 z ∧ z = (n : Int) - 1 ∧ n + 1 = g ∧ n ≤ root + 1 ∧ MetS wr w.heap.size (root + 1) m ∧ Below w.heap.size w wr)
  case atStart => exact ⟨root + 1, _, _, _, rfl, rfl, by omega, rfl, Nat.le_refl _, HM1.out, HB0.out⟩
  case round =>
    clear HM1 HB0
    obtain ⟨n, m, z, wx2, rfl, rfl, hz, hg, hn, hm, hb⟩ := hrel
    have HB := Lib.hid hb
    have HM := Lib.hid hm
    have hsz := hb.size
    clear hb hm
    cases n with
    | zero =>
      obtain rfl : z = -1 := by omega
      clear hz hg hn
      go_wp2_with fail
      go_ret
      exact ⟨rfl, HB.out⟩
    | succ i =>
      obtain rfl : z = (i : Int) := by omega
      obtain ⟨fu, rfl⟩ : ∃ fu, gk = fu + 1 := ⟨gk - 1, by omega⟩
      have hi0 : (i : Int) < (l.length : Int) := by omega
      have hi1 : (i : Int) < (root : Int) + 1 := by omega
      clear hz
      have e2 := HM.out.cell (i := i) (by omega)
      cases hmi : m i with
      | false =>
        rw [hmi] at e2
        clear hmi
        go_wp2_with fail
        go_roundg fu
        case measure => omega
        case rel => exact ⟨i, m, _, _, rfl, rfl, by omega, by omega, by omega, HM.out, HB.out⟩
      | true =>
        rw [hmi] at e2
        obtain ⟨nd, hnd⟩ : ∃ nd, l[i]? = some nd := ⟨_, List.getElem?_eq_getElem (by omega)⟩
        have HG := Lib.hid (goodL_at HGD.out hnd)
        clear hmi
        obtain ⟨bn, offn, capn, pv, kv, hv, hpv, hkv, hc⟩ := HL.out.one hnd
        simp only [Value.slice.injEq] at hv
        obtain ⟨rfl, -, rfl⟩ := hv
        obtain ⟨pa, pcap, rfl, -⟩ := id hpv
        obtain ⟨ka, kcap, rfl, hkc, hkm, -⟩ := id hkv
        unfold maxLen at hkm
        have HKV := Lib.hid hkv
        have HPV := Lib.hid hpv
        have HC := Lib.hid hc
        have e3 : wx2.cell? ⟨bn, offn + i * 6 + 3, none⟩ = some (.slice ka nd.kids.length kcap) := cell_later HB.out (hc 3 _ rfl _ rfl)
        clear hc hkv hpv hnd
        go_wp2_with fail
        go_loopg [39] (nd.kids.length + 1) (fun g v wr => ∃ (t : Nat) (m : Nat → Bool) (wx : World), wx = wr ∧ v = .int .i64 (t : Nat) ∧ t + g = nd.kids.length + 1 ∧ t ≤ nd.kids.length ∧ MetS wr w.heap.size (root + 1) m ∧ Below w.heap.size w wr)
        case atStart => exact ⟨0, m, _, rfl, rfl, by omega, Nat.zero_le _, HM.out, HB.out⟩
        case round =>
          clear HM HB e2 e3
          obtain ⟨t, m2, wx3, rfl, rfl, hg, ht, hm, hb⟩ := hrel
          have HB := Lib.hid hb
          have HM := Lib.hid hm
          have hsz := hb.size
          by_cases hlt : t < nd.kids.length
          · obtain ⟨k, hk⟩ : ∃ k, nd.kids[t]? = some k := ⟨_, List.getElem?_eq_getElem hlt⟩
            obtain ⟨hk0, hk1⟩ := HG.out.1 k (List.mem_of_getElem? hk)
            obtain ⟨rb, roff, rfl, hc⟩ := ints_at HKV.out hk
            obtain ⟨kn, rfl⟩ : ∃ kn : Nat, k = kn := ⟨k.toNat, by omega⟩
            have e1 : wx3.cell? ⟨rb, roff + t, none⟩ = some (.int .i64 kn) := cell_later hb hc
            have hti : (t : Int) < (nd.kids.length : Int) := by omega
            have hkr : (kn : Int) < (root : Int) + 1 := by omega
            obtain ⟨fv, rfl⟩ : ∃ fv, gk = fv + 1 := ⟨gk - 1, by omega⟩
            have e2 := HM.out.cell (i := kn) (by omega)
            have f2 := World.rowIs.frozen HM.out kn
            clear hc hb hm hk
            go_wp2_with fail
            go_roundg fv
            case measure => omega
            case rel => exact ⟨t + 1, _, _, rfl, rfl, by omega, by omega, HM.out.put (m' := fun j => if j = kn then true else m2 j) (fun j => rfl), HB.out.setCell (Nat.le_refl _) _⟩
          · obtain rfl : t = nd.kids.length := by omega
            have e0 : wx3.cell? ⟨bn, offn + i * 6, none⟩ = some (.int .i64 nd.kind) := cell_later HB.out (HC.out 0 _ rfl _ rfl)
            have e1 : wx3.cell? ⟨bn, offn + i * 6 + 1, none⟩ = some (str nd.text) := cell_later HB.out (HC.out 1 _ rfl _ rfl)
            have e2 : wx3.cell? ⟨bn, offn + i * 6 + 2, none⟩ = some (.slice pa nd.path.length pcap) := cell_later HB.out (HC.out 2 _ rfl _ rfl)
            have e3 : wx3.cell? ⟨bn, offn + i * 6 + 3, none⟩ = some (.slice ka nd.kids.length kcap) := cell_later HB.out (HC.out 3 _ rfl _ rfl)
            have e4 : wx3.cell? ⟨bn, offn + i * 6 + 4, none⟩ = some (.int .i64 nd.line) := cell_later HB.out (HC.out 4 _ rfl _ rfl)
            have e5 : wx3.cell? ⟨bn, offn + i * 6 + 5, none⟩ = some (.int .i64 nd.col) := cell_later HB.out (HC.out 5 _ rfl _ rfl)
            have HFT := Lib.hid (fits_any (HL.out.below HB.out) (HPV.out.below HB.out) (HKV.out.below HB.out) (fun k hk => ⟨(HG.out.1 k hk).1, by have := (HG.out.1 k hk).2; omega⟩) HG.out.2)
            clear hm hb hg
            go_wp2_with fail
            refine HFT.out.mono ?_
            rintro e w4 ⟨rfl, hb4⟩
            have HB4 := Lib.hid (HB.out.trans (hb4.mono hsz))
            have HM4 := Lib.hid (HM.out.below (hb4.block _ (World.rowIs.lt HM.out)))
            clear hb4
            go_wp2_with fail
            go_roundg fu
            case measure => omega
            case rel => exact ⟨i, _, _, _, rfl, rfl, by omega, by omega, by omega, HM4.out, HB4.out⟩
end Go.Proofs.YtbchkldhnjahaaaGreatDoor
