/- Parse: what the program makes of a row of tokens. Conditions: those of each theorem. -/
import Derived.Test.YtbchkldhnjahaaaGreatDoorTrS0
import Derived.Test.YtbchkldhnjahaaaGreatDoorTrO
import Derived.Test.YtbchkldhnjahaaaGreatDoorTrR
import Derived.Test.YtbchkldhnjahaaaGreatDoorTrNd
namespace Kiln
/-- a token can be written -/
def writesT (t : Tok) : Bool := match writeP t.kind t.text t.path with
  | .ok _ => true
  | .error _ => false
/-- a row of tokens as a tree -/
def treeM (ts : List Tok) (L : Low) : M Nat := do
  let top ← decsM ts L
  fun st => if st.pos < ts.length then synM ts st else .ok (top, st)
def ps0 : PS := ⟨0, [], [], 0, [fix0]⟩
end Kiln
namespace Go.Proofs.YtbchkldhnjahaaaGreatDoor
open Go.RowKit Kiln
open Go.Proofs

/-- what Parse answers: ok: can all tokens be written? -/
def PaPost (w : World) (ok : Bool) (R : Except Flt (Nat × PS)) (e : Ending) (w' : World) : Prop :=
  Below w.heap.size w w' ∧ match ok with
  | false => e = .returned (.tuple #[.slice none 0 0, .int .i64 0, .int .i64 0, .int .i64 0, .int .i64 1])
  | true => match R with
    | .ok x => ∃ nv, e = .returned (.tuple #[nv, .int .i64 (x.1 : Nat), .int .i64 0, .int .i64 0, .int .i64 0]) ∧ NdT w' nv x.2.nodes
    | .error (.stop l c k) => e = .returned (.tuple #[.slice none 0 0, .int .i64 0, .int .i64 l, .int .i64 c, .int .i64 (k : Nat)])
    | .error .out => False

/-- the results' cells -/
structure ResC (w : World) (N : Nat) : Prop where
  c0 : w.heap[N]? = some (.cells #[.slice none 0 0] 33 (0, 0))
  c1 : w.heap[N + 1]? = some (.cells #[.int .i64 0] 3 (0, 0))
  c2 : w.heap[N + 2]? = some (.cells #[.int .i64 0] 3 (0, 0))
  c3 : w.heap[N + 3]? = some (.cells #[.int .i64 0] 3 (0, 0))
  c4 : w.heap[N + 4]? = some (.cells #[.int .i64 0] 23 (0, 0))
theorem ResC.lt {w : World} {N : Nat} (h : ResC w N) : N + 4 < w.heap.size := (Array.getElem?_eq_some_iff.1 h.c4).1
theorem ResC.keep {w w' : World} {N : Nat} (h : ResC w N) (hk : ∀ k, k < w.heap.size → w'.heap[k]? = w.heap[k]?) : ResC w' N := by
  have := h.lt
  exact ⟨(hk _ (by omega)).trans h.c0, (hk _ (by omega)).trans h.c1, (hk _ (by omega)).trans h.c2, (hk _ (by omega)).trans h.c3, (hk _ (by omega)).trans h.c4⟩
theorem ResC.below {w w' : World} {N : Nat} (h : ResC w N) (hb : Below w.heap.size w w') : ResC w' N := h.keep hb.block
theorem ResC.cells {w : World} {N : Nat} (h : ResC w N) : w.cell? ⟨N, 0, none⟩ = some (.slice none 0 0) ∧ w.cell? ⟨N + 1, 0, none⟩ = some (.int .i64 0) ∧ w.cell? ⟨N + 2, 0, none⟩ = some (.int .i64 0) ∧ w.cell? ⟨N + 3, 0, none⟩ = some (.int .i64 0) ∧ w.cell? ⟨N + 4, 0, none⟩ = some (.int .i64 0) :=
  ⟨cell3 h.c0 0 _ rfl, cell3 h.c1 0 _ rfl, cell3 h.c2 0 _ rfl, cell3 h.c3 0 _ rfl, cell3 h.c4 0 _ rfl⟩
theorem ResC.frozen {w : World} {N : Nat} (h : ResC w N) : ∀ i, i ≤ 4 → w.frozen? ⟨N + i, 0, none⟩ = false := fun i hi => by
  obtain rfl | rfl | rfl | rfl | rfl : i = 0 ∨ i = 1 ∨ i = 2 ∨ i = 3 ∨ i = 4 := by omega
  · exact frozen_of_row w _ 0 _ _ h.c0
  · exact frozen_of_row w _ 0 _ _ h.c1
  · exact frozen_of_row w _ 0 _ _ h.c2
  · exact frozen_of_row w _ 0 _ _ h.c3
  · exact frozen_of_row w _ 0 _ _ h.c4

theorem heap_alloc_at {w : World} {o : Obj} {n : Nat} (hn : n = w.heap.size) : (w.alloc o).heap[n]? = some o := by subst hn; exact heap_alloc_new w o

/-- the parser at its start -/
theorem TSt.start {w0 w1 : World} {tv : Value} {ts : List Tok} {q m : Nat} (hm : w0.heap.size ≤ m) (hmq : m < q) (hq : q < w1.heap.size) (hs : w1.heap[q]? = some (.cells #[.pointer none, .map (some m)] 107 (0, 0))) (hn : NmS w1 m fix0) (hb : Below w0.heap.size w0 w1) :
    ∃ U : Rl, TSt w0 tv ts w1.heap.size [q] (w1.alloc (.cells #[tv, .int .i64 0, .slice none 0 0, .slice none 0 0, .int .i64 0, .pointer (some ⟨q, 0, none⟩)] 76)) U ps0 := by
  have hsz := hb.size
  refine ⟨fun k => if k = w1.heap.size then 1 else if k = q then 4 else if k = m then 5 else 0, .slice none 0 0, .slice none 0 0, [], hb.alloc hb.size _, fun k hk => ?_, by simp, heap_alloc_new _ _, World.ownsRow_nil _ _ _ _, rfl, Im.nil _ _, World.ownsRow_nil _ _ _ _, Im.nil _ _, ?_, by simp [ps0], Nat.zero_le _, by simp [ps0], by simp [ps0], by simp [ps0]⟩
  · simp only [World.size_alloc]
    split at hk
    · omega
    · split at hk
      · omega
      · split at hk
        · omega
        · exact absurd rfl hk
  · refine ⟨by simp [show q ≠ w1.heap.size by omega], m, (Below.heap_alloc w1 _ q hq).trans hs, by simp [show m ≠ w1.heap.size by omega, show m ≠ q by omega], hn.alloc _⟩
theorem TSt.nodesK {w0 w : World} {tv : Value} {ts : List Tok} {b : Nat} {qs : List Nat} {U : Rl} {st : PS} (h : TSt w0 tv ts b qs w U st) :
    ∃ a cap, w.cell? ⟨b, 2, none⟩ = some (.slice a st.nodes.length cap) ∧ ∀ w' : World, (∀ k, w0.heap.size ≤ k → w'.heap[k]? = w.heap[k]?) → NdT w' (.slice a st.nodes.length cap) st.nodes := by
  obtain ⟨nv, dv, xs, h⟩ := h
  have h1 := h.blk
  obtain ⟨a, cap, rfl, _⟩ := nds_NdT h.nrow h.nds
  refine ⟨a, cap, by simp [World.cell?, h1], fun w' hk => ?_⟩
  exact nds_NdT (row_keep h.nrow fun k e => hk k (h.hi k (by rw [h.nim k e]; decide)).1) (h.nds.keep fun k e => ⟨hk k (h.hi k (by rw [e]; decide)).1, e⟩)

theorem writes_all {ts : List Tok} {t : Nat} (h : ∀ i u, i < t → ts[i]? = some u → writesT u = true) (hl : ts.length ≤ t) : ts.all writesT = true := by
  rw [List.all_eq_true]
  intro u hu
  obtain ⟨i, hi, rfl⟩ := List.getElem_of_mem hu
  exact h i _ (by omega) (List.getElem?_eq_getElem hi)
theorem writes_not {ts : List Tok} {t : Nat} {u : Tok} (hu : ts[t]? = some u) (h : writesT u = false) : ts.all writesT = false := by
  rw [List.all_eq_false]
  exact ⟨u, List.mem_of_getElem? hu, by simp [h]⟩

set_option maxRecDepth 100000 in
set_option maxHeartbeats 8000000 in
theorem parse_any (tv : Value) (ts : List Tok) (n : Nat) (w : World) (hg : Gl w) (ht : TkS w tv ts) (hlen : ts.length ≤ 4398046511104) (hz : ∀ u ∈ ts, Fits u) (hint : ts.all writesT = true → ∀ t ∈ ts, t.kind = 4 → t.text ≠ []) (hne : ts.all writesT = true → treeM ts (lowS ts n) ps0 ≠ .error .out) :
    Calls Tryz.prog 12 #[tv] w (PaPost w (ts.all writesT) (treeM ts (lowS ts n) ps0)) := by
  have hmf : ∀ (fn : Fn) (first cap : Array Value) (w : World), (Instr.makeFunc fn first cap).run Tryz.prog w = .ok (.func fn first cap) w := fun _ _ _ _ => rfl
  have HT := Lib.hid ht
  obtain ⟨a, cap, rfl, hl⟩ := ht
  have HL := Lib.hid hl
  have HG := Lib.hid hg
  have HZ := Lib.hid hz
  have HI := Lib.hid hint
  have HNE := Lib.hid hne
  obtain ⟨OK, hOK⟩ : ∃ OK, ts.all writesT = OK := ⟨_, rfl⟩
  obtain ⟨R, hR⟩ : ∃ R, treeM ts (lowS ts n) ps0 = R := ⟨_, rfl⟩
  rw [hOK, hR]
  have HOK := Lib.hid hOK
  have HR := Lib.hid hR
  clear hl hg hz hint hne hOK hR
  obtain ⟨N, hN⟩ : ∃ N, w.heap.size = N := ⟨_, rfl⟩
  obtain ⟨wa, hwa⟩ : ∃ wa, ((((w.alloc (.cells #[.slice none 0 0] 33)).alloc (.cells #[.int .i64 0] 3)).alloc (.cells #[.int .i64 0] 3)).alloc (.cells #[.int .i64 0] 3)).alloc (.cells #[.int .i64 0] 23) = wa := ⟨_, rfl⟩
  have hba : Below w.heap.size w wa := by
    rw [← hwa]; exact bl_al (bl_al (bl_al (bl_al (bl_al (Below.refl _ _) _) _) _) _) _
  have hra : ResC wa N := by
    subst hN hwa
    have e0 := heap_alloc_new w (.cells #[.slice none 0 0] 33)
    refine ⟨?_, ?_, ?_, ?_, ?_⟩
    · rw [Below.heap_alloc _ _ _ (by first | (simp; done) | (simp; omega)), Below.heap_alloc _ _ _ (by first | (simp; done) | (simp; omega)), Below.heap_alloc _ _ _ (by first | (simp; done) | (simp; omega)), Below.heap_alloc _ _ _ (by first | (simp; done) | (simp; omega))]; exact e0
    · rw [Below.heap_alloc _ _ _ (by first | (simp; done) | (simp; omega)), Below.heap_alloc _ _ _ (by first | (simp; done) | (simp; omega)), Below.heap_alloc _ _ _ (by first | (simp; done) | (simp; omega))]; exact heap_alloc_at (by first | (simp; done) | (simp; omega))
    · rw [Below.heap_alloc _ _ _ (by first | (simp; done) | (simp; omega)), Below.heap_alloc _ _ _ (by first | (simp; done) | (simp; omega))]; exact heap_alloc_at (by first | (simp; done) | (simp; omega))
    · rw [Below.heap_alloc _ _ _ (by first | (simp; done) | (simp; omega))]; exact heap_alloc_at (by first | (simp; done) | (simp; omega))
    · exact heap_alloc_at (by first | (simp; done) | (simp; omega))
  have HBA := Lib.hid hba
  have HRA := Lib.hid hra
  clear hba hra
  go_enter_defers Tryz.func12, Tryz.ntmps12
  go_wp2_with fail
  rw [show N + 1 + 1 = N + 2 from rfl, show N + 2 + 1 = N + 3 from rfl, show N + 3 + 1 = N + 4 from rfl]
  clear hwa
  go_loopg [15] (ts.length + 1) (fun g v wr => ∃ (t : Nat) (wx : World), wx = wr ∧ v = .int .i64 (t : Nat) ∧ t + g = ts.length + 1 ∧ t ≤ ts.length ∧ (∀ i u, i < t → ts[i]? = some u → writesT u = true) ∧ Below wa.heap.size wa wr)
  case atStart => exact ⟨0, _, rfl, rfl, by omega, Nat.zero_le _, fun i u h => absurd h (by omega), Below.refl _ _⟩
  case round =>
    obtain ⟨t, wx1, rfl, rfl, hg, ht, hw, hb⟩ := hrel
    have HW := Lib.hid hw
    have HB := Lib.hid hb
    have hsz := hb.size
    clear hw hb
    by_cases hlt : t < ts.length
    · have hti : (t : Int) < (ts.length : Int) := by omega
      obtain ⟨fu, rfl⟩ : ∃ fu, gk = fu + 1 := ⟨gk - 1, by omega⟩
      obtain ⟨u, hu⟩ : ∃ u, ts[t]? = some u := ⟨_, List.getElem?_eq_getElem hlt⟩
      obtain ⟨b, off, rfl, hx⟩ := HL.out (by rintro rfl; simp at hlt)
      obtain ⟨pv, hs, hc⟩ := hx t u hu
      obtain ⟨a2, cap2, rfl, _⟩ := id hs
      have hwr1 : Below w.heap.size w wx1 := HBA.out.trans (HB.out.mono HBA.out.size)
      have hc' : ∀ (j : Nat) x q, (tokVals u (.slice a2 u.path.length cap2))[j]? = some x → q = off + (5 * t + j) → wx1.cell? ⟨b, q, none⟩ = some x := fun j x q hj hq => by
        subst hq; exact cell_later hwr1 (hc j x hj)
      have c0 : wx1.cell? ⟨b, off + t * 5, none⟩ = some (.int .i64 u.kind) := hc' 0 _ _ rfl (by omega)
      have c1 : wx1.cell? ⟨b, off + t * 5 + 1, none⟩ = some (str u.text) := hc' 1 _ _ rfl (by omega)
      have c2 : wx1.cell? ⟨b, off + t * 5 + 2, none⟩ = some (.slice a2 u.path.length cap2) := hc' 2 _ _ rfl (by omega)
      have c3 : wx1.cell? ⟨b, off + t * 5 + 3, none⟩ = some (.int .i64 u.line) := hc' 3 _ _ rfl (by omega)
      have c4 : wx1.cell? ⟨b, off + t * 5 + 4, none⟩ = some (.int .i64 u.col) := hc' 4 _ _ rfl (by omega)
      have HU := Lib.hid hu
      have HF := HZ.out u (List.mem_of_getElem? hu)
      have hal1 := (Below.refl wx1.heap.size wx1).alloc (Nat.le_refl _) (.cells #[.int .i64 u.kind, str u.text, .slice a2 u.path.length cap2, .int .i64 u.line, .int .i64 u.col] 32)
      have HW1 := Lib.hid (HB.out.trans (hal1.mono hsz))
      have HWR := Lib.hid (write_any u.kind u.text (.slice a2 u.path.length cap2) u.path u.line u.col _ (HG.out.below (HBA.out.trans (HW1.out.mono HBA.out.size))) (hs.below (HBA.out.trans (HW1.out.mono HBA.out.size))) HF.1 HF.2.1 HF.2.2)
      clear hs hal1 HF hx hc hc' hu hwr1
      go_wp2_with fail
      obtain ⟨W, hW⟩ : ∃ W, wx1.alloc (.cells #[.int .i64 u.kind, str u.text, .slice a2 u.path.length cap2, .int .i64 u.line, .int .i64 u.col] 32) = W := ⟨_, rfl⟩
      rw [hW] at HW1 HWR
      rw [show wx1.alloc (.cells #[.int .i64 u.kind, .string { data := List.toArray u.text }, .slice a2 u.path.length cap2, .int .i64 u.line, .int .i64 u.col] 32) = W from hW]
      clear hW c0 c1 c2 c3 c4
      refine HWR.out.mono ?_
      rintro e w2 ⟨hb2, hr⟩
      have HB2 := Lib.hid (HW1.out.trans (hb2.mono HW1.out.size))
      clear hb2 HWR HW1
      cases hwr : writeP u.kind u.text u.path with
      | error c =>
        rw [hwr] at hr
        obtain rfl : c = 1 := writeP_err hwr
        have HOF := Lib.hid (HOK.out.symm.trans (writes_not HU.out (by unfold writesT; rw [hwr])))
        have hrc := HRA.out.below HB2.out
        have hcs := hrc.cells
        obtain ⟨r0, r1, r2, r3, r4⟩ := hcs
        have f0 : w2.frozen? ⟨N, 0, none⟩ = false := hrc.frozen 0 (by omega)
        have f1 := hrc.frozen 1 (by omega)
        have f2 := hrc.frozen 2 (by omega)
        have f3 := hrc.frozen 3 (by omega)
        have f4 := hrc.frozen 4 (by omega)
        subst hr
        clear hwr hrc
        go_wp2_with fail
        obtain ⟨w5, hw5⟩ : ∃ w5, ((((w2.setCell ⟨N, 0, none⟩ (.slice none 0 0)).setCell ⟨N + 1, 0, none⟩ (.int .i64 0)).setCell ⟨N + 2, 0, none⟩ (.int .i64 0)).setCell ⟨N + 3, 0, none⟩ (.int .i64 0)).setCell ⟨N + 4, 0, none⟩ (.int .i64 1) = w5 := ⟨_, rfl⟩
        have k0 : w5.cell? ⟨N, 0, none⟩ = some (.slice none 0 0) := by rw [← hw5]; simp [go_sem, r0]
        have k1 : w5.cell? ⟨N + 1, 0, none⟩ = some (.int .i64 0) := by rw [← hw5]; simp [go_sem, r1]
        have k2 : w5.cell? ⟨N + 2, 0, none⟩ = some (.int .i64 0) := by rw [← hw5]; simp [go_sem, r2]
        have k3 : w5.cell? ⟨N + 3, 0, none⟩ = some (.int .i64 0) := by rw [← hw5]; simp [go_sem, r3]
        have k4 : w5.cell? ⟨N + 4, 0, none⟩ = some (.int .i64 1) := by rw [← hw5]; simp [go_sem, r4]
        have hb5 : Below w.heap.size w w5 := by
          rw [← hw5]
          exact (((((HBA.out.trans (HB2.out.mono HBA.out.size)).setCell (p := ⟨N, 0, none⟩) (by simp; omega) (.slice none 0 0)).setCell (p := ⟨N + 1, 0, none⟩) (by simp; omega) (.int .i64 0)).setCell (p := ⟨N + 2, 0, none⟩) (by simp; omega) (.int .i64 0)).setCell (p := ⟨N + 3, 0, none⟩) (by simp; omega) (.int .i64 0)).setCell (p := ⟨N + 4, 0, none⟩) (by simp; omega) (.int .i64 1)
        rw [hw5]
        clear hw5 r0 r1 r2 r3 r4 f0 f1 f2 f3 f4
        refine ⟨.tuple #[.slice none 0 0, .int .i64 0, .int .i64 0, .int .i64 0, .int .i64 1], by simp [results, Tryz.results12, go_sem, k0, k1, k2, k3, k4], ?_⟩
        rw [HOF.out]
        exact ⟨hb5, rfl⟩
      | ok s =>
        rw [hwr] at hr
        have HT1 := Lib.hid (show writesT u = true by unfold writesT; rw [hwr])
        subst hr
        clear hwr
        go_wp2_with fail
        go_roundg fu
        case measure => omega
        case rel => exact ⟨t + 1, _, rfl, rfl, by omega, by omega, fun i v hi hv => by
          by_cases hit : i = t
          · subst hit
            rw [HU.out] at hv
            simp only [Option.some.injEq] at hv
            rw [← hv]; exact HT1.out
          · exact HW.out i v (by omega) hv, HB2.out⟩
    · obtain rfl : t = ts.length := by omega
      have hok : OK = true := HOK.out.symm.trans (writes_all HW.out (Nat.le_refl _))
      have hbw : Below w.heap.size w wx1 := HBA.out.trans (HB.out.mono HBA.out.size)
      have HTS : Tks wx1 (.slice a ts.length cap) ts := ⟨HT.out.below hbw, hlen, HI.out (HOK.out.trans hok), fun u hu => (HZ.out u hu).1⟩
      have hne := HNE.out (HOK.out.trans hok)
      have HBW := Lib.hid hbw
      have HRX := Lib.hid (HRA.out.below HB.out)
      have HOT := Lib.hid hok
      have HN := Lib.hid hne
      clear hbw hok hne HNE HI HT HL HZ HG HW HB HBA HRA hg ht hlt
      go_wp2_with fail
      refine (begin_any _).mono ?_
      rintro e w2 ⟨q, m, rfl, hm, hmq, hq, hs, hn, hb2⟩
      obtain ⟨U, hT⟩ := TSt.start (tv := .slice a ts.length cap) (ts := ts) hm hmq hq hs hn hb2
      have HS := Lib.hid hT
      clear hT hm hmq hq hs hn hb2
      go_wp2_with fail
      obtain ⟨D, hD⟩ : ∃ D, decsM ts (lowS ts n) ps0 = D := ⟨_, rfl⟩
      have hne : D ≠ .error .out := fun e => HN.out (by unfold treeM; exact bind_err (hD.trans e))
      refine (decs_any HTS (lowS_ok HTS n) HS.out (by rw [hD]; exact hne)).mono ?_
      rw [hD]
      have HD := Lib.hid hD
      clear hD
      intro e w3 hp
      cases D with
      | error f =>
        cases f with
        | out => exact absurd rfl hne
        | stop l c k =>
          obtain ⟨rfl, hb3⟩ := hp
          have HB3 := Lib.hid hb3
          have HRR : RowKit.Hid (R = .error (.stop l c k)) := HR.out.symm.trans (bind_err HD.out)
          clear hb3
          go_wp2_with fail
          have hrc := HRX.out.below HB3.out
          obtain ⟨r0, r1, r2, r3, r4⟩ := hrc.cells
          refine leaves_cons (f := 29) (args := #[.pointer (some ⟨N, 0, none⟩), .pointer (some ⟨N + 1, 0, none⟩), .pointer (some ⟨N + 2, 0, none⟩), .pointer (some ⟨N + 3, 0, none⟩), .pointer (some ⟨N + 4, 0, none⟩)]) (by simp) (by simp [go_sem]) ?_
          refine (catch_any w.heap.size N l c k _ _ _ _ _ [] w3 (by omega) hrc.lt r0 r1 r2 r3 r4 hrc.frozen).mono ?_
          rintro e u' w4 ⟨rfl, rfl, ⟨k0, k1, k2, k3, k4⟩, hb4⟩
          refine ⟨.tuple #[.slice none 0 0, .int .i64 0, .int .i64 l, .int .i64 c, .int .i64 k], by simp [results, Tryz.results12, go_sem, k0, k1, k2, k3, k4], ?_⟩
          rw [HOT.out, HRR.out]
          exact ⟨(HBW.out.trans (HB3.out.mono HBW.out.size)).trans hb4, rfl⟩
      | ok x =>
        obtain ⟨top, st⟩ := x
        obtain ⟨v, U', rfl, rfl, hT, hf⟩ := hp
        have HRR : RowKit.Hid (R = (if st.pos < ts.length then synM ts st else .ok (top, st))) := HR.out.symm.trans (bind_ok HD.out)
        obtain ⟨nv, dv, -, d1, d2, -, -, -, hfz⟩ := hT.reads
        have HT3 := Lib.hid hT
        have hpos := hT.pos
        clear hne hf hT
        by_cases hlt : st.pos < ts.length
        · have hlt' : (st.pos : Int) < (ts.length : Int) := by omega
          have HR2 : RowKit.Hid (R = synM ts st) := by show _ = _; rw [HRR.out, if_pos hlt]
          clear HRR
          go_wp2_with fail
          refine (syntax_any HTS HT3.out).mono ?_
          rintro e w4 ⟨rfl, hb3⟩
          obtain ⟨l, c, hlc⟩ : ∃ l c, hereP ts st = (l, c) := ⟨_, _, rfl⟩
          obtain ⟨k, hk⟩ : ∃ k : Nat, 50 = k := ⟨_, rfl⟩
          rw [hlc, hk]
          have HRR : RowKit.Hid (R = .error (.stop l c k)) := by show _ = _; rw [HR2.out]; unfold synM; rw [hlc, hk]
          clear hk hlc
          have HB3 := Lib.hid (HT3.out.base.trans (hb3.mono HT3.out.base.size))
          clear hb3 d1 d2 hfz
          go_wp2_with fail
          have hrc := HRX.out.below HB3.out
          obtain ⟨r0, r1, r2, r3, r4⟩ := hrc.cells
          refine leaves_cons (f := 29) (args := #[.pointer (some ⟨N, 0, none⟩), .pointer (some ⟨N + 1, 0, none⟩), .pointer (some ⟨N + 2, 0, none⟩), .pointer (some ⟨N + 3, 0, none⟩), .pointer (some ⟨N + 4, 0, none⟩)]) (by simp) (by simp [go_sem]) ?_
          refine (catch_any w.heap.size N l c k _ _ _ _ _ [] w4 (by omega) hrc.lt r0 r1 r2 r3 r4 hrc.frozen).mono ?_
          rintro e u' w5 ⟨rfl, rfl, ⟨k0, k1, k2, k3, k4⟩, hb4⟩
          refine ⟨.tuple #[.slice none 0 0, .int .i64 0, .int .i64 l, .int .i64 c, .int .i64 k], by simp [results, Tryz.results12, go_sem, k0, k1, k2, k3, k4], ?_⟩
          rw [HOT.out, HRR.out]
          exact ⟨(HBW.out.trans (HB3.out.mono HBW.out.size)).trans hb4, rfl⟩
        · have hlt' : ¬ (st.pos : Int) < (ts.length : Int) := by omega
          have HRR2 : RowKit.Hid (R = .ok (top, st)) := by show _ = _; rw [HRR.out, if_neg hlt]
          obtain ⟨na, ncap, e2, hnd⟩ := HT3.out.nodesK
          have HND := Lib.hid hnd
          have hrc := HRX.out.below HT3.out.base
          obtain ⟨r0, r1, r2, r3, r4⟩ := hrc.cells
          have f0 : w3.frozen? ⟨N, 0, none⟩ = false := hrc.frozen 0 (by omega)
          have f1 := hrc.frozen 1 (by omega)
          have f2 := hrc.frozen 2 (by omega)
          have f3 := hrc.frozen 3 (by omega)
          have f4 := hrc.frozen 4 (by omega)
          have hlN := HRX.out.lt
          clear hnd hrc d2 HRR
          go_wp2_with fail
          obtain ⟨w5, hw5⟩ : ∃ w5, ((((w3.setCell ⟨N, 0, none⟩ (.slice na st.nodes.length ncap)).setCell ⟨N + 1, 0, none⟩ (.int .i64 top)).setCell ⟨N + 2, 0, none⟩ (.int .i64 0)).setCell ⟨N + 3, 0, none⟩ (.int .i64 0)).setCell ⟨N + 4, 0, none⟩ (.int .i64 0) = w5 := ⟨_, rfl⟩
          have k0 : w5.cell? ⟨N, 0, none⟩ = some (.slice na st.nodes.length ncap) := by rw [← hw5]; simp [go_sem, r0]
          have k1 : w5.cell? ⟨N + 1, 0, none⟩ = some (.int .i64 top) := by rw [← hw5]; simp [go_sem, r1]
          have k2 : w5.cell? ⟨N + 2, 0, none⟩ = some (.int .i64 0) := by rw [← hw5]; simp [go_sem, r2]
          have k3 : w5.cell? ⟨N + 3, 0, none⟩ = some (.int .i64 0) := by rw [← hw5]; simp [go_sem, r3]
          have k4 : w5.cell? ⟨N + 4, 0, none⟩ = some (.int .i64 0) := by rw [← hw5]; simp [go_sem, r4]
          have hb5 : Below w.heap.size w w5 := by
            rw [← hw5]
            exact (((((HBW.out.trans (HT3.out.base.mono HBW.out.size)).setCell (p := ⟨N, 0, none⟩) (by simp; omega) (.slice na st.nodes.length ncap)).setCell (p := ⟨N + 1, 0, none⟩) (by simp; omega) (.int .i64 top)).setCell (p := ⟨N + 2, 0, none⟩) (by simp; omega) (.int .i64 0)).setCell (p := ⟨N + 3, 0, none⟩) (by simp; omega) (.int .i64 0)).setCell (p := ⟨N + 4, 0, none⟩) (by simp; omega) (.int .i64 0)
          have hn5 : NdT w5 (.slice na st.nodes.length ncap) st.nodes := HND.out w5 fun k hk => by
            rw [← hw5]
            rw [heap_setCell_other _ _ k _ (by simp; omega), heap_setCell_other _ _ k _ (by simp; omega), heap_setCell_other _ _ k _ (by simp; omega), heap_setCell_other _ _ k _ (by simp; omega), heap_setCell_other _ _ k _ (by simp; omega)]
          rw [hw5]
          clear hw5 r0 r1 r2 r3 r4 f0 f1 f2 f3 f4
          refine leaves_cons (f := 29) (args := #[.pointer (some ⟨N, 0, none⟩), .pointer (some ⟨N + 1, 0, none⟩), .pointer (some ⟨N + 2, 0, none⟩), .pointer (some ⟨N + 3, 0, none⟩), .pointer (some ⟨N + 4, 0, none⟩)]) (by simp) (by simp [go_sem]) ?_
          refine (idle_any ⟨N, 0, none⟩ ⟨N + 1, 0, none⟩ ⟨N + 2, 0, none⟩ ⟨N + 3, 0, none⟩ ⟨N + 4, 0, none⟩ w5).mono ?_
          rintro e u' w6 ⟨rfl, rfl, rfl⟩
          refine ⟨.tuple #[.slice na st.nodes.length ncap, .int .i64 top, .int .i64 0, .int .i64 0, .int .i64 0], by simp [results, Tryz.results12, go_sem, k0, k1, k2, k3, k4], ?_⟩
          rw [HOT.out, HRR2.out]
          exact ⟨hb5, _, rfl, hn5⟩
end Go.Proofs.YtbchkldhnjahaaaGreatDoor
