/- The scanner's reckoning of places: what the call of Scan's inner function returns, and what it leaves. Conditions: those of the theorem. -/
import Derived.Test.YtbchkldhnjahaaaGreatDoorLexA
namespace Go.Proofs.YtbchkldhnjahaaaGreatDoor
open Go.RowKit Kiln
open Go.Proofs

/-- the blocks of a call of Scan: B the text, B+1 the scanner, B+2 its pointer, B+3 line, B+4 begin, B+5 seen -/
structure PSt (s : ByteArray) (B pt : Nat) (w wr : World) (sn ln bg : Nat) : Prop where
  c0 : wr.cell? ⟨B, 0, none⟩ = some (.string s)
  c1 : wr.cell? ⟨B + 1, 1, none⟩ = some (.int .i64 pt)
  c2 : wr.cell? ⟨B + 1 + 1, 0, none⟩ = some (.pointer (some ⟨B + 1, 0, none⟩))
  c3 : wr.cell? ⟨B + 1 + 1 + 1, 0, none⟩ = some (.int .i64 ln)
  c4 : wr.cell? ⟨B + 1 + 1 + 1 + 1, 0, none⟩ = some (.int .i64 bg)
  c5 : wr.cell? ⟨B + 1 + 1 + 1 + 1 + 1, 0, none⟩ = some (.int .i64 sn)
  f3 : wr.frozen? ⟨B + 1 + 1 + 1, 0, none⟩ = false
  f4 : wr.frozen? ⟨B + 1 + 1 + 1 + 1, 0, none⟩ = false
  f5 : wr.frozen? ⟨B + 1 + 1 + 1 + 1 + 1, 0, none⟩ = false
  keep : ∀ k, k < B + 3 ∨ B + 5 < k → wr.heap[k]? = w.heap[k]?
  os : wr.os = w.os
  tape : wr.tape = w.tape
  output : wr.output = w.output
  size : wr.heap.size = w.heap.size
  le : sn ≤ pt
  bgle : bg ≤ sn
  lnle : ln ≤ sn + 1
  eq : adv (1, 1) (s.data.toList.take sn) = (ln, sn - bg + 1)

def PlPost (s : ByteArray) (B pt : Nat) (w : World) (e : Ending) (w' : World) : Prop :=
  ∃ ln bg : Nat, e = .returned (.tuple #[.int .i64 ln, .int .i64 (pt - bg + 1 : Nat)]) ∧ PSt s B pt w w' pt ln bg

theorem adv_step {s : ByteArray} {sn : Nat} (h : sn < s.size) : adv (1, 1) (s.data.toList.take (sn + 1)) = adv1 (adv (1, 1) (s.data.toList.take sn)) (s[sn]'h) := by
  unfold adv
  rw [List.take_add_one, Lib.data_getElem? s sn h, List.foldl_append]; rfl

theorem PSt.drewN {s : ByteArray} {B pt sn ln bg : Nat} {w wr : World} (h : PSt s B pt w wr sn ln bg) (n : Nat) : PSt s B pt w (wr.drewN n) sn ln bg :=
  ⟨h.c0, h.c1, h.c2, h.c3, h.c4, h.c5, h.f3, h.f4, h.f5, h.keep, h.os, h.tape, h.output, h.size, h.le, h.bgle, h.lnle, h.eq⟩

theorem PSt.step {s : ByteArray} {B pt sn ln bg : Nat} {w wr : World} (h : PSt s B pt w wr sn ln bg) (hl : sn < pt) (hz : sn < s.size) (hx : ¬ (s[sn]'hz).toNat = 10) {v : Int} (hv : v = (sn + 1 : Nat)) :
    PSt s B pt w (wr.setCell ⟨B + 1 + 1 + 1 + 1 + 1, 0, none⟩ (.int .i64 v)) (sn + 1) ln bg := by
  subst hv
  have ne : ∀ k j, k ≠ B + 5 → (⟨k, j, none⟩ : Addr) ≠ ⟨B + 1 + 1 + 1 + 1 + 1, 0, none⟩ := fun k j hk e => hk (by injection e)
  have o : ∀ k j, k ≠ B + 5 → (wr.setCell ⟨B + 1 + 1 + 1 + 1 + 1, 0, none⟩ (.int .i64 (sn + 1 : Nat))).cell? ⟨k, j, none⟩ = wr.cell? ⟨k, j, none⟩ := fun k j hk => World.cell?_setCell_other (h := (ne k j hk).symm) ..
  refine ⟨(o _ _ (by omega)).trans h.c0, (o _ _ (by omega)).trans h.c1, (o _ _ (by omega)).trans h.c2, (o _ _ (by omega)).trans h.c3, (o _ _ (by omega)).trans h.c4, World.cell?_setCell_same (h := h.c5) .., by rw [World.frozen?_setCell]; exact h.f3, by rw [World.frozen?_setCell]; exact h.f4, by rw [World.frozen?_setCell]; exact h.f5,
    fun k hk => (Below.heap_setCell _ _ _ _ (by simp only []; omega)).trans (h.keep k hk), h.os, h.tape, h.output, by simp [World.setCell, h.size], hl, by have := h.bgle; omega, by have := h.lnle; omega, ?_⟩
  rw [adv_step hz, h.eq]
  unfold adv1
  rw [if_neg (by rw [beq_iff_eq]; rintro e; rw [e] at hx; exact hx rfl)]
  have := h.bgle
  simp only [Prod.mk.injEq, true_and]; omega

theorem PSt.line {s : ByteArray} {B pt sn ln bg : Nat} {w wr : World} (h : PSt s B pt w wr sn ln bg) (hl : sn < pt) (hz : sn < s.size) (hx : (s[sn]'hz).toNat = 10) {v u : Int} (hv : v = (ln + 1 : Nat)) (hu : u = (sn + 1 : Nat)) :
    PSt s B pt w (((wr.setCell ⟨B + 1 + 1 + 1, 0, none⟩ (.int .i64 v)).setCell ⟨B + 1 + 1 + 1 + 1, 0, none⟩ (.int .i64 u)).setCell ⟨B + 1 + 1 + 1 + 1 + 1, 0, none⟩ (.int .i64 u)) (sn + 1) (ln + 1) (sn + 1) := by
  subst hv; subst hu
  have o : ∀ (W : World) (m k j : Nat) (x : Value), k ≠ m → (W.setCell ⟨m, 0, none⟩ x).cell? ⟨k, j, none⟩ = W.cell? ⟨k, j, none⟩ := fun W m k j x hk => World.cell?_setCell_other (h := fun e => hk (by injection e with e; exact e.symm)) ..
  have oo : ∀ k j, k ≠ B + 3 → k ≠ B + 4 → k ≠ B + 5 → (((wr.setCell ⟨B + 1 + 1 + 1, 0, none⟩ (.int .i64 (ln + 1 : Nat))).setCell ⟨B + 1 + 1 + 1 + 1, 0, none⟩ (.int .i64 (sn + 1 : Nat))).setCell ⟨B + 1 + 1 + 1 + 1 + 1, 0, none⟩ (.int .i64 (sn + 1 : Nat))).cell? ⟨k, j, none⟩ = wr.cell? ⟨k, j, none⟩ := fun k j h3 h4 h5 => by
    rw [o _ _ _ _ _ (by omega), o _ _ _ _ _ (by omega), o _ _ _ _ _ (by omega)]
  refine ⟨(oo _ _ (by omega) (by omega) (by omega)).trans h.c0, (oo _ _ (by omega) (by omega) (by omega)).trans h.c1, (oo _ _ (by omega) (by omega) (by omega)).trans h.c2, ?_, ?_, ?_, by simp only [World.frozen?_setCell]; exact h.f3, by simp only [World.frozen?_setCell]; exact h.f4, by simp only [World.frozen?_setCell]; exact h.f5,
    fun k hk => ?_, h.os, h.tape, h.output, by simp [World.setCell, h.size], hl, Nat.le_refl _, by have := h.lnle; omega, ?_⟩
  · rw [o _ _ _ _ _ (by omega), o _ _ _ _ _ (by omega)]; exact World.cell?_setCell_same (h := h.c3) ..
  · rw [o _ _ _ _ _ (by omega)]
    refine World.cell?_setCell_same (u := .int .i64 bg) (h := ?_) ..
    rw [o _ _ _ _ _ (by omega)]; exact h.c4
  · refine World.cell?_setCell_same (u := .int .i64 sn) (h := ?_) ..
    rw [o _ _ _ _ _ (by omega), o _ _ _ _ _ (by omega)]; exact h.c5
  · exact (Below.heap_setCell _ _ _ _ (by simp only []; omega)).trans ((Below.heap_setCell _ _ _ _ (by simp only []; omega)).trans ((Below.heap_setCell _ _ _ _ (by simp only []; omega)).trans (h.keep k hk)))
  · rw [adv_step hz, h.eq]
    unfold adv1
    rw [if_pos (by rw [beq_iff_eq, ← UInt8.toNat_inj]; exact hx)]
    simp

def seenOf (w : World) (B : Nat) : Nat := match w.cell? ⟨B + 1 + 1 + 1 + 1 + 1, 0, none⟩ with | some v => (intOf v).toNat | none => 0
theorem seenOf_eq {w : World} {B sn : Nat} (h : w.cell? ⟨B + 1 + 1 + 1 + 1 + 1, 0, none⟩ = some (.int .i64 sn)) : seenOf w B = sn := by
  unfold seenOf; rw [h]; simp [intOf]

set_option maxRecDepth 100000 in
set_option maxHeartbeats 1000000 in
theorem place_any (s : ByteArray) (B pt sn ln bg : Nat) (w : World) (hst : PSt s B pt w w sn ln bg) (hz : s.size ≤ 1048576) (hpt : pt ≤ s.size) :
    Calls Tryz.prog 22 #[.pointer (some ⟨B + 1 + 1 + 1 + 1 + 1, 0, none⟩), .pointer (some ⟨B + 1 + 1, 0, none⟩), .pointer (some ⟨B, 0, none⟩), .pointer (some ⟨B + 1 + 1 + 1, 0, none⟩), .pointer (some ⟨B + 1 + 1 + 1 + 1, 0, none⟩)] w (PlPost s B pt w) := by
  have HST := Lib.hid hst; clear hst
  go_enter Tryz.func22, Tryz.ntmps22
  go_wp2_with fail
  go_loopw [7] (fun _ wr => ∃ sn ln bg : Nat, PSt s B pt w wr sn ln bg) (fun _ wr => pt - seenOf wr B)
  case atStart => exact ⟨sn, ln, bg, HST.out⟩
  case round =>
    clear HST
    obtain ⟨sn, ln, bg, hst⟩ := hrel
    have HS := Lib.hid hst
    obtain ⟨c0, c1, c2, c3, c4, c5, f3, f4, f5, _, _, _, _, _, hle, hbg, hln, _⟩ := hst
    by_cases hlt : sn < pt
    · have hsz : sn < s.size := by omega
      obtain ⟨x, hx⟩ : ∃ x : UInt8, s[sn]'hsz = x := ⟨_, rfl⟩
      have hI : (sn : Int) < (pt : Int) := by omega
      have hI2 : (sn : Int) < (s.size : Int) := by omega
      go_wp2_with fail
      go_quiet (fail)
      by_cases h10 : x.toNat = 10
      · have b10 : ((x.toNat : Int) == 10) = true := by rw [beq_iff_eq]; omega
        go_wp2_with fail
        go_region
        go_wp2_with fail
        have hn := (HS.out.drewN (nq + 1)).line hlt hsz (by rw [hx]; exact h10) (v := ↑ln + 1) (u := ↑sn + 1) (by omega) (by omega)
        go_roundw
        case rel => exact ⟨_, _, _, hn⟩
        case measure => rw [seenOf_eq hn.c5, seenOf_eq HS.out.c5]; omega
      · have b10 : ((x.toNat : Int) == 10) = false := by rw [beq_eq_false_iff_ne]; omega
        go_wp2_with fail
        have hn := (HS.out.drewN nq).step hlt hsz (by rw [hx]; exact h10) (v := ↑sn + 1) (by omega)
        go_roundw
        case rel => exact ⟨_, _, _, hn⟩
        case measure => rw [seenOf_eq hn.c5, seenOf_eq HS.out.c5]; omega
    · have hI : decide ((sn : Int) < (pt : Int)) = false := by simp; omega
      go_wp2_with fail
      go_quiet (fail)
      go_wp2_with fail
      go_quiet (fail)
      go_wp2_with fail
      go_ret2
      obtain rfl : sn = pt := by omega
      exact ⟨ln, bg, by rw [show ((sn - bg + 1 : Nat) : Int) = (sn : Int) - bg + 1 from by omega]; rfl, by rw [World.drewN_drewN]; exact HS.out.drewN _⟩

end Go.Proofs.YtbchkldhnjahaaaGreatDoor
