/- The parser's leaves: token, here, of, stop, syntax: what each call returns. Conditions: those of each theorem. -/
import Derived.Test.YtbchkldhnjahaaaGreatDoorTrSt2
namespace Go.Proofs.YtbchkldhnjahaaaGreatDoor
open Go.RowKit Kiln
open Go.Proofs

/-- a token as a value -/
def tkV (t : Tok) (pv : Value) : Value := .agg #[.int .i64 t.kind, str t.text, pv, .int .i64 t.line, .int .i64 t.col]
/-- a place as a value -/
def spotV (s : Int × Int) : Value := .agg #[.int .i64 s.1, .int .i64 s.2]
/-- the parser as a value -/
abbrev ptrV (b : Nat) : Value := .pointer (some ⟨b, 0, none⟩)

section
variable {w0 : World} {tv : Value} {ts : List Tok} {b : Nat} {qs : List Nat} {w : World} {U : Rl} {st : PS}

theorem Fr.below {w w' w'' : World} {U U' : Rl} (h : Fr w U w' U') (hb : Below w'.heap.size w' w'') : Fr w U w'' U' :=
  ⟨hb.os.trans h.os, hb.tape.trans h.tape, hb.output.trans h.output, Nat.le_trans h.size hb.size, fun k hk hu => (hb.block k (Nat.lt_of_lt_of_le hk h.size)).trans (h.keep k hk hu), h.sub⟩

theorem bl_al {w W : World} (h : Below w.heap.size w W) (o : Obj) : Below w.heap.size w (W.alloc o) := h.alloc h.size o
theorem bl_drN {w W : World} (h : Below w.heap.size w W) (n : Nat) : Below w.heap.size w (W.drewN n) := ⟨h.os, h.tape, h.output, h.size, h.block⟩
theorem bl_dr {w W : World} (h : Below w.heap.size w W) : Below w.heap.size w W.drew := ⟨h.os, h.tape, h.output, h.size, h.block⟩
theorem bl_set {w W : World} (h : Below w.heap.size w W) {p : Addr} (hk : w.heap.size ≤ p.block) (x : Value) : Below w.heap.size w (W.setCell p x) := h.setCell hk x

set_option maxRecDepth 100000 in
set_option maxHeartbeats 1000000 in
theorem token_any (HT : Tks w0 tv ts) (hp : TSt w0 tv ts b qs w U st) (k : Nat) (hk : k ≤ 4) :
    Calls Tryz.prog 59 #[ptrV b, .int .i64 k] w fun e w' => (∃ pv, e = .returned (tkV (tokAt ts k st) pv) ∧ Strs w0 pv (tokAt ts k st).path) ∧ Below w.heap.size w w' := by
  obtain ⟨a, cap, rfl, hl⟩ := HT.tok
  obtain ⟨nv, dv, c0, c1, -, -, -, -, -⟩ := hp.reads
  have hpos := hp.pos
  have hlen := HT.len
  have d0 := cell_al c0
  have d1 := cell_al c1
  have HB := Lib.hid hp.base
  by_cases hlt : st.pos + k < ts.length
  · obtain ⟨u, hu⟩ : ∃ u, ts[st.pos + k]? = some u := ⟨_, List.getElem?_eq_getElem hlt⟩
    have HU := Lib.hid (show tokAt ts k st = u by unfold tokAt; simp [List.getD, hu])
    obtain ⟨bt, off, rfl, hx⟩ := hl (by rintro rfl; simp at hlt)
    obtain ⟨pv, hs, hc⟩ := hx _ u hu
    obtain ⟨a2, cap2, rfl, _⟩ := id hs
    have hc' : ∀ (j : Nat) x q, (tokVals u (.slice a2 u.path.length cap2))[j]? = some x → q = off + (5 * (st.pos + k) + j) → ∀ o, (w.alloc o).cell? ⟨bt, q, none⟩ = some x := fun j x q hj hq o => by
      subst hq; exact cell_al (cell_later HB.out (hc j x hj)) o
    have e0 := hc' 0 _ (off + (st.pos + k) * 5) rfl (by omega)
    have e1 := hc' 1 _ (off + (st.pos + k) * 5 + 1) rfl (by omega)
    have e2 := hc' 2 _ (off + (st.pos + k) * 5 + 2) rfl (by omega)
    have e3 := hc' 3 _ (off + (st.pos + k) * 5 + 3) rfl (by omega)
    have e4 := hc' 4 _ (off + (st.pos + k) * 5 + 4) rfl (by omega)
    have HS := Lib.hid hs
    clear hc hc' hx hs hu hl c0 c1
    have hlt' : (st.pos : Int) + k < ts.length := by omega
    go_enter Tryz.func59, Tryz.ntmps59
    go_wp2
    go_quiet (fail)
    go_wp2
    go_region
    go_wp2
    refine bodyPost_ret (by simp [results, Tryz.results59, go_sem]; exact rfl) rfl ?_
    exact ⟨⟨_, by rw [HU.out]; rfl, by rw [HU.out]; exact HS.out⟩, by (repeat (first | with_reducible exact Below.refl _ _ | with_reducible refine bl_al ?_ _ | with_reducible refine bl_drN ?_ _ | with_reducible refine bl_dr ?_ | (with_reducible refine bl_set ?_ (by first | exact Nat.le_refl _ | omega | (simp; done) | (simp; omega)) _) | assumption))⟩
  · have HU := Lib.hid (show tokAt ts k st = tok0 by unfold tokAt; simp [List.getD, List.getElem?_eq_none (show ts.length ≤ st.pos + k by omega)])
    have hlt' : ¬ (st.pos : Int) + k < ts.length := by omega
    clear hl
    go_enter Tryz.func59, Tryz.ntmps59
    go_wp2
    go_quiet (fail)
    go_wp2
    refine bodyPost_ret (by simp [results, Tryz.results59, go_sem]; exact rfl) rfl ?_
    exact ⟨⟨_, by rw [HU.out]; rfl, by rw [HU.out]; exact Strs.nil _⟩, by (repeat (first | with_reducible exact Below.refl _ _ | with_reducible refine bl_al ?_ _ | with_reducible refine bl_drN ?_ _ | with_reducible refine bl_dr ?_ | (with_reducible refine bl_set ?_ (by first | exact Nat.le_refl _ | omega | (simp; done) | (simp; omega)) _) | assumption))⟩

set_option maxRecDepth 100000 in
set_option maxHeartbeats 1000000 in
theorem here_any (HT : Tks w0 tv ts) (hp : TSt w0 tv ts b qs w U st) :
    Calls Tryz.prog 56 #[ptrV b] w fun e w' => e = .returned (spotV (hereP ts st)) ∧ Below w.heap.size w w' := by
  obtain ⟨a, cap, rfl, hl⟩ := HT.tok
  obtain ⟨nv, dv, c0, c1, -, -, -, -, -⟩ := hp.reads
  have hpos := hp.pos
  have hlen := HT.len
  have d0 := cell_al c0
  have d1 := cell_al c1
  have HB := Lib.hid hp.base
  by_cases hz : ts.length = 0
  · have HU := Lib.hid (show hereP ts st = (0, 0) by unfold hereP; simp [List.getElem?_eq_none (show ts.length ≤ min st.pos (ts.length - 1) by omega)])
    have hp0 : st.pos = 0 := by omega
    have d0' : ∀ o, (w.alloc o).cell? ⟨b, 0, none⟩ = some (.slice a 0 cap) := by rw [hz] at d0; exact d0
    have d1' : ∀ o, (w.alloc o).cell? ⟨b, 1, none⟩ = some (.int .i64 0) := by rw [hp0] at d1; exact d1
    clear hl d0 d1 c0 c1 hz hp0 hpos
    go_enter Tryz.func56, Tryz.ntmps56
    go_wp2
    go_region
    go_wp2
    refine bodyPost_ret (by simp [results, Tryz.results56, go_sem]; exact rfl) rfl ?_
    exact ⟨by rw [HU.out]; rfl, by (repeat (first | with_reducible exact Below.refl _ _ | with_reducible refine bl_al ?_ _ | with_reducible refine bl_drN ?_ _ | with_reducible refine bl_dr ?_ | (with_reducible refine bl_set ?_ (by first | exact Nat.le_refl _ | omega | (simp; done) | (simp; omega)) _) | assumption))⟩
  · obtain ⟨i, hi⟩ : ∃ i, i = min st.pos (ts.length - 1) := ⟨_, rfl⟩
    have hil : i < ts.length := by omega
    obtain ⟨u, hu⟩ : ∃ u, ts[i]? = some u := ⟨_, List.getElem?_eq_getElem hil⟩
    have HU := Lib.hid (show hereP ts st = (u.line, u.col) by unfold hereP; rw [← hi, hu])
    obtain ⟨bt, off, rfl, hx⟩ := hl (by rintro rfl; simp at hz)
    obtain ⟨pv, hs, hc⟩ := hx _ u hu
    have hc' : ∀ (j : Nat) x q, (tokVals u pv)[j]? = some x → q = off + (5 * i + j) → ∀ o, (w.alloc o).cell? ⟨bt, q, none⟩ = some x := fun j x q hj hq o => by
      subst hq; exact cell_al (cell_later HB.out (hc j x hj)) o
    have e3 := hc' 3 _ (off + i * 5 + 3) rfl (by omega)
    have e4 := hc' 4 _ (off + i * 5 + 4) rfl (by omega)
    clear hc hc' hx hs hu hl c0 c1
    by_cases hq : ts.length ≤ st.pos
    · obtain rfl : i = ts.length - 1 := by omega
      obtain ⟨n, hn⟩ : ∃ n, ts.length = n + 1 := ⟨ts.length - 1, by omega⟩
      rw [hn] at d0 e3 e4 hq hlen
      rw [show n + 1 - 1 = n by omega] at e3 e4
      have hq' : min (st.pos : Int) (n : Int) = n := by omega
      clear hi hil hz hn hpos hq
      go_enter Tryz.func56, Tryz.ntmps56
      go_wp2
      go_region
      go_wp2
      go_region
      go_wp2
      refine bodyPost_ret (by simp [results, Tryz.results56, go_sem]; exact rfl) rfl ?_
      exact ⟨by rw [HU.out]; rfl, by (repeat (first | with_reducible exact Below.refl _ _ | with_reducible refine bl_al ?_ _ | with_reducible refine bl_drN ?_ _ | with_reducible refine bl_dr ?_ | (with_reducible refine bl_set ?_ (by first | exact Nat.le_refl _ | omega | (simp; done) | (simp; omega)) _) | assumption))⟩
    · obtain rfl : i = st.pos := by omega
      have hq' : min (st.pos : Int) ((ts.length : Int) - 1) = st.pos := by omega
      have hq2 : (st.pos : Int) < (ts.length : Int) := by omega
      clear hi hz hq
      go_enter Tryz.func56, Tryz.ntmps56
      go_wp2
      go_region
      go_wp2
      go_region
      go_wp2
      refine bodyPost_ret (by simp [results, Tryz.results56, go_sem]; exact rfl) rfl ?_
      exact ⟨by rw [HU.out]; rfl, by (repeat (first | with_reducible exact Below.refl _ _ | with_reducible refine bl_al ?_ _ | with_reducible refine bl_drN ?_ _ | with_reducible refine bl_dr ?_ | (with_reducible refine bl_set ?_ (by first | exact Nat.le_refl _ | omega | (simp; done) | (simp; omega)) _) | assumption))⟩

set_option maxRecDepth 100000 in
set_option maxHeartbeats 1000000 in
theorem of_any (hp : TSt w0 tv ts b qs w U st) (i : Nat) (hi : i < st.nodes.length) :
    Calls Tryz.prog 135 #[ptrV b, .int .i64 i] w fun e w' => e = .returned (spotV (ofP i st)) ∧ Below w.heap.size w w' := by
  obtain ⟨nv, dv, xs, hm⟩ := id hp
  have h1 := hm.blk
  have h2 := hm.nrow
  have h3 := hm.nds
  have hmany := hp.many
  obtain ⟨n, hn⟩ : ∃ n, st.nodes[i]? = some n := ⟨_, List.getElem?_eq_getElem hi⟩
  have HU := Lib.hid (show ofP i st = (n.line, n.col) by unfold ofP; rw [hn])
  obtain ⟨pv, kv, -, -, -, -, hx⟩ := h3.at i n hn
  rcases id h2.2 with ⟨rfl, h0⟩ | ⟨g, cap, cur, rfl, _, hcap⟩
  · omega
  · have c2 : w.cell? ⟨b, 2, none⟩ = some (.slice (some ⟨g, 0, none⟩) st.nodes.length cap) := by simp [World.cell?, h1]
    have hc : ∀ (j : Nat) x, (ndVals n pv kv)[j]? = some x → ∀ q, q = i * 6 + j → w.cell? ⟨g, q, none⟩ = some x := fun j x hj q hq => by
      have := h2.cells (g := g) rfl (6 * i + j) x (hx j x hj)
      rw [addr_add0] at this
      rw [hq, show i * 6 + j = 6 * i + j by omega]; exact this
    have d2 := cell_al c2
    have e4 := cell_al (hc 4 _ rfl (i * 6 + 4) rfl)
    have e5 := cell_al (hc 5 _ rfl (i * 6 + 5) rfl)
    have hlt : (i : Int) < (st.nodes.length : Int) := by omega
    clear hc c2 hx hcap h2 h3 hn h1 hm
    go_enter Tryz.func135, Tryz.ntmps135
    go_wp2
    go_region
    go_wp2
    refine bodyPost_ret (by simp [results, Tryz.results135, go_sem]; exact rfl) rfl ?_
    exact ⟨by rw [HU.out]; rfl, by (repeat (first | with_reducible exact Below.refl _ _ | with_reducible refine bl_al ?_ _ | with_reducible refine bl_drN ?_ _ | with_reducible refine bl_dr ?_ | (with_reducible refine bl_set ?_ (by first | exact Nat.le_refl _ | omega | (simp; done) | (simp; omega)) _) | assumption))⟩

set_option maxRecDepth 100000 in
set_option maxHeartbeats 1000000 in
theorem stop_any (s : Int × Int) (k : Nat) (w : World) :
    Calls Tryz.prog 64 #[ptrV b, spotV s, .int .i64 k] w fun e w' => e = fltE s.1 s.2 k ∧ Below w.heap.size w w' := by
  unfold spotV
  go_enter Tryz.func64, Tryz.ntmps64
  go_wp2
  exact ⟨rfl, rfl, by (repeat (first | with_reducible exact Below.refl _ _ | with_reducible refine bl_al ?_ _ | with_reducible refine bl_drN ?_ _ | with_reducible refine bl_dr ?_ | (with_reducible refine bl_set ?_ (by first | exact Nat.le_refl _ | omega | (simp; done) | (simp; omega)) _) | assumption))⟩

set_option maxRecDepth 100000 in
set_option maxHeartbeats 1000000 in
theorem syntax_any (HT : Tks w0 tv ts) (hp : TSt w0 tv ts b qs w U st) :
    Calls Tryz.prog 32 #[ptrV b] w fun e w' => e = fltE (hereP ts st).1 (hereP ts st).2 50 ∧ Below w.heap.size w w' := by
  have HH := Lib.hid (here_any HT hp)
  go_enter Tryz.func32, Tryz.ntmps32
  go_wp2_with fail
  refine HH.out.mono ?_
  rintro e w1 ⟨rfl, hb1⟩
  have HB1 := Lib.hid hb1; clear hb1
  go_wp2_with fail
  refine (stop_any (hereP ts st) 50 _).mono ?_
  rintro e w2 ⟨rfl, hb2⟩
  have HB2 := Lib.hid hb2; clear hb2
  go_wp2_with fail
  exact ⟨rfl, rfl, HB1.out.trans (HB2.out.mono HB1.out.size)⟩

end
end Go.Proofs.YtbchkldhnjahaaaGreatDoor
