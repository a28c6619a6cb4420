/- Names and what they are: look, infix, takeName, plainAt, constant, label, and what begins here: what each call returns. Conditions: those of each theorem. -/
import Derived.Test.YtbchkldhnjahaaaGreatDoorTrB
import Derived.Deep.LoopGhost
import Derived.StringKeys
import Derived.Deep.RegionWith
namespace Go.Proofs.YtbchkldhnjahaaaGreatDoor
open Go.RowKit Kiln
open Go.Proofs
open Go.Maps (Keyed)

theorem lawS : Keyed Tryz.prog 9 := Go.Maps.string_keyed Tryz.underlying9
theorem zeroFx (w : World) : (zeroValue 102).run Tryz.prog w = .ok (fxV noFx) w := by kernel_rfl

theorem NmS.look {w : World} {m : Nat} {nm : Names} (h : NmS w m nm) (s : Bytes) (hs : s.length ≤ maxLen) :
    (Instr.lookup 104 (.map (some m)) (str s) true).run Tryz.prog w = .ok (.tuple #[fxV ((lookN s nm).getD noFx), .bool (lookN s nm).isSome]) w := by
  obtain ⟨D, ho, hn⟩ := h
  obtain ⟨v, ps, hrun, hv⟩ := ho.look_ok lawS Tryz.underlying104 (zeroFx w) (fxElem_mk noFx) (key := str s) (kl := .string s) (Go.WideMaps.keyOf_string_mk Tryz.underlying9 hs)
  rw [(hn s).2] at hv
  rw [(hn s).1] at hrun
  rw [← fxElem_inv hv]
  exact hrun

/-- a region that draws, whose calls leave what was there: walked once, in the text's order, over a class of worlds (Derived/Deep/Quiet's theorem at the class of f's values) -/
theorem wp_region_grown {P : Program} {id : Nat} {Q : Exit → Act → World → Prop} {a : Act} {w : World} {l : List Oper} {T : Type} (f : T → World) (hm : P.follows .mixedOrders = true) (hB : Region.lexB .any l.toArray = true) (h0 : ∃ q, w.drew = f q)
    (h : wpQuiet P l.toArray (fun w' => ∃ q, w' = f q) (fun a' => ∀ w', (∃ q, w' = f q) → Q .normal a' w') l a) : (Code.region id l.toArray true).wp P Q a w :=
  wp_region_quiet (C := fun w' => ∃ q, w' = f q) hm hB h0 (by simpa using h)
theorem qclass (W0 : World) : ∃ (T : Type) (f : T → World), Nonempty T ∧ (∀ q, Below W0.heap.size W0 (f q)) ∧ (∀ W, Below W0.heap.size W0 W → ∃ q, W = f q) :=
  ⟨{W // Below W0.heap.size W0 W}, Subtype.val, ⟨⟨W0, Below.refl _ _⟩⟩, fun q => q.2, fun W hW => ⟨⟨W, hW⟩, rfl⟩⟩
theorem qcall {W0 : World} {T : Type} {f : T → World} (hf : ∀ q, Below W0.heap.size W0 (f q)) (hs : ∀ W, Below W0.heap.size W0 W → ∃ q, W = f q) {P : Program} {F : FuncId} {args : Array Value} {v : Value}
    (h : ∀ W, Below W0.heap.size W0 W → Calls P F args W fun e w' => e = .returned v ∧ Below W.heap.size W w') (q : T) : Calls P F args (f q) fun e w' => e = .returned v ∧ ∃ q', w' = f q' :=
  (h (f q) (hf q)).mono fun _ w' hh => ⟨hh.1, hs w' ((hf q).trans (hh.2.mono (hf q).size))⟩

section
variable {w0 : World} {tv : Value} {ts : List Tok} {b : Nat} {qs : List Nat} {w : World} {U : Rl} {st : PS}

/-- the head of the scopes, as the walk reads it -/
theorem ScS.head {w : World} {U : Rl} {qs : List Nat} {sc : List Names} (h : ScS w U qs sc) : ∃ q nm m, qs.head? = some q ∧ sc.head? = some nm ∧ qsV qs = .pointer (some ⟨q, 0, none⟩) ∧ w.cell? ⟨q, 1, none⟩ = some (.map (some m)) ∧ NmS w m nm ∧
    ((qs.tail = [] ∧ sc.tail = [] ∧ w.cell? ⟨q, 0, none⟩ = some (.pointer none)) ∨ (∃ o, w.cell? ⟨q, 0, none⟩ = some (.pointer (some ⟨o, 0, none⟩)) ∧ w.cell? ⟨o, 0, none⟩ = some (qsV qs.tail) ∧ ScS w U qs.tail sc.tail)) := by
  match qs, sc, h with
  | [], _, h => unfold ScS at h; exact h.elim
  | [q], [], h => unfold ScS at h; exact h.elim
  | [q], [nm], h =>
    unfold ScS at h
    obtain ⟨_, m, h1, _, h3⟩ := h
    exact ⟨q, nm, m, rfl, rfl, rfl, by simp [World.cell?, h1], h3, .inl ⟨rfl, rfl, by simp [World.cell?, h1]⟩⟩
  | [q], _ :: _ :: _, h => unfold ScS at h; exact h.elim
  | q :: q2 :: qs, [], h => unfold ScS at h; exact h.elim
  | q :: q2 :: qs, [_], h => unfold ScS at h; exact h.elim
  | q :: q2 :: qs, nm :: n2 :: r, h =>
    unfold ScS at h
    obtain ⟨_, o, m, h1, _, h4, _, h3, h6⟩ := h
    exact ⟨q, nm, m, rfl, rfl, rfl, by simp [World.cell?, h1], h3, .inr ⟨o, by simp [World.cell?, h1], by simp [World.cell?, h4, qsV], h6⟩⟩

theorem ScS.below {w w' : World} {U : Rl} {qs : List Nat} {sc : List Names} (h : ScS w U qs sc) (hb : Below w.heap.size w w') (hu : ∀ k, U k ≠ 0 → k < w.heap.size) : ScS w' U qs sc :=
  h.keep fun k e _ => ⟨hb.block k (hu k (by omega)), rfl⟩

theorem cell3 {W : World} {B : Nat} {T : TypeId} {cs : Array Value} (h : W.heap[B]? = some (.cells cs T (0, 0))) (j : Nat) (x : Value) (hx : cs[j]? = some x) : W.cell? ⟨B, j, none⟩ = some x := by
  simp [World.cell?, h, hx]

theorem set3 {wr : World} {B : Nat} {T : TypeId} {a0 a1 a2 : Value} (h : wr.heap[B]? = some (.cells #[a0, a1, a2] T (0, 0))) (v0 v1 v2 : Value) (o : Obj) :
    ((((wr.setCell ⟨B, 0, none⟩ v0).setCell ⟨B, 1, none⟩ v1).setCell ⟨B, 2, none⟩ v2).alloc o).heap[B]? = some (.cells #[v0, v1, v2] T (0, 0)) := by
  have h1 := heap_setCell_same wr B 0 _ T v0 h
  have h2 := heap_setCell_same _ B 1 _ T v1 h1
  have h3 := heap_setCell_same _ B 2 _ T v2 h2
  exact (Below.heap_alloc _ _ _ (Array.getElem?_eq_some_iff.1 h3).1).trans h3

set_option maxRecDepth 100000 in
set_option maxHeartbeats 1000000 in
theorem look_any (qs : List Nat) (sc : List Names) (w : World) (U : Rl) (h : ScS w U qs sc) (hu : ∀ k, U k ≠ 0 → k < w.heap.size) (s : Bytes) (hs : s.length ≤ maxLen) :
    Calls Tryz.prog 215 #[qsV qs, str s] w fun e w' => e = .returned (fxV (lookP s sc)) ∧ Below w.heap.size w w' := by
  obtain ⟨R, hR⟩ : ∃ R, lookP s sc = R := ⟨_, rfl⟩
  rw [hR]
  have HR := Lib.hid hR.symm; clear hR
  have HS := Lib.hid h
  obtain ⟨v0, hv0⟩ : ∃ v0, qsV qs = v0 := ⟨_, rfl⟩
  rw [hv0]
  have HV := Lib.hid hv0.symm; clear hv0 h
  have HU := Lib.hid hu; clear hu
  go_enter Tryz.func215, Tryz.ntmps215
  go_wp2_with fail
  go_loopg [0] sc.length (fun g p wr => ∃ q2 s2, p = qsV q2 ∧ ScS w U q2 s2 ∧ R = lookP s s2 ∧ s2.length = g ∧ Below w.heap.size w wr ∧ wr.heap[w.heap.size]? = some (.cells #[.int .i64 0, .bool false, .bool false] 102 (0, 0)))
  case atStart => exact ⟨qs, sc, HV.out, HS.out, HR.out, rfl, by (repeat (first | with_reducible exact Below.refl _ _ | with_reducible refine bl_al ?_ _ | with_reducible refine bl_drN ?_ _ | with_reducible refine bl_dr ?_ | (with_reducible refine bl_set ?_ (by first | exact Nat.le_refl _ | omega | (simp; done) | (simp; omega)) _) | assumption)), heap_alloc_new w _⟩
  case round =>
    clear HS HR HV
    obtain ⟨q2, s2, rfl, hsc, hr, hl, hbe, hres⟩ := hrel
    obtain ⟨q, nm, m, hq1, hn1, hqv, c1, hnm, hd⟩ := hsc.head
    obtain ⟨rest, rfl⟩ : ∃ rest, s2 = nm :: rest := by
      cases s2 with
      | nil => cases hn1
      | cons x l => simp only [List.head?_cons, Option.some.injEq] at hn1; exact ⟨l, by rw [hn1]⟩
    have hml : m < w.heap.size := let ⟨_, ho, _⟩ := hnm; ho.lt
    have hlk := (hnm.keep (hbe.block m hml)).look s hs
    have c1' := cell_later hbe c1
    have r0 : wr.cell? ⟨w.heap.size, 0, none⟩ = some (.int .i64 0) := by simp [World.cell?, hres]
    have r1 : wr.cell? ⟨w.heap.size, 1, none⟩ = some (.bool false) := by simp [World.cell?, hres]
    have r2 : wr.cell? ⟨w.heap.size, 2, none⟩ = some (.bool false) := by simp [World.cell?, hres]
    have rf0 := frozen_of_row wr w.heap.size 0 _ _ hres
    have rf1 := frozen_of_row wr w.heap.size 1 _ _ hres
    have rf2 := frozen_of_row wr w.heap.size 2 _ _ hres
    have hwr : w.heap.size < wr.heap.size := (Array.getElem?_eq_some_iff.1 hres).1
    have HB := Lib.hid hbe
    have HRES := Lib.hid hres
    have HQ := Lib.hid hqv; rw [hqv]
    clear hq1 hn1 hqv hnm c1 hres hml
    cases hlk1 : lookN s nm with
    | some f =>
      have HR := Lib.hid (show R = f by rw [hr]; simp only [lookP, hlk1])
      rw [hlk1] at hlk
      simp only [Option.getD_some, Option.isSome_some, fxV] at hlk
      clear hr hlk1 hd hl hbe
      go_wp2_with fail
      have g := set3 HRES.out (.int .i64 f.level) (.bool f.right) (.bool f.infx) (.cells #[.int .i64 f.level, .bool f.right, .bool f.infx] 102)
      have g0 := cell3 g 0 _ rfl
      have g1 := cell3 g 1 _ rfl
      have g2 := cell3 g 2 _ rfl
      refine bodyPost_ret (by simp [results, Tryz.results215, go_sem, g0, g1, g2]; exact rfl) rfl ?_
      exact ⟨by rw [HR.out]; rfl, by (repeat (first | with_reducible exact Below.refl _ _ | with_reducible refine bl_al ?_ _ | with_reducible refine bl_drN ?_ _ | with_reducible refine bl_dr ?_ | (with_reducible refine bl_set ?_ (by first | exact Nat.le_refl _ | omega | (simp; done) | (simp; omega)) _) | assumption))⟩
    | none =>
      have hr2 : R = lookP s rest := by rw [hr]; simp only [lookP, hlk1]
      rw [hlk1] at hlk
      simp only [Option.getD_none, Option.isSome_none, fxV, noFx] at hlk
      clear hr hlk1
      rcases hd with ⟨_, ht, c0⟩ | ⟨o, c0, co, hsc2⟩
      · have c0' := cell_al (cell_later hbe c0)
        have HR := Lib.hid (show R = noFx by rw [hr2, show rest = [] from ht]; rfl)
        clear hr2 hl hbe c0 ht
        go_wp2_with fail
        have g := set3 HRES.out (.int .i64 0) (.bool false) (.bool false) (.cells #[.int .i64 0, .bool false, .bool false] 102)
        have g0 := cell3 g 0 _ rfl
        have g1 := cell3 g 1 _ rfl
        have g2 := cell3 g 2 _ rfl
        refine bodyPost_ret (by simp [results, Tryz.results215, go_sem, g0, g1, g2]; exact rfl) rfl ?_
        exact ⟨by rw [HR.out]; rfl, by (repeat (first | with_reducible exact Below.refl _ _ | with_reducible refine bl_al ?_ _ | with_reducible refine bl_drN ?_ _ | with_reducible refine bl_dr ?_ | (with_reducible refine bl_set ?_ (by first | exact Nat.le_refl _ | omega | (simp; done) | (simp; omega)) _) | assumption))⟩
      · have c0' := cell_al (cell_later hbe c0)
        have co' := cell_al (cell_later hbe co)
        have HR2 := Lib.hid hr2
        have HL := Lib.hid hl
        have HSC := Lib.hid hsc2
        clear hr2 hl hbe c0 co hsc2
        obtain ⟨v2, hv2⟩ : ∃ v2, qsV q2.tail = v2 := ⟨_, rfl⟩
        rw [hv2] at co'
        have HV2 := Lib.hid hv2.symm; clear hv2
        go_wp2_with fail
        go_roundg rest.length
        case measure => have := HL.out; simp at this; omega
        case rel =>
          refine ⟨q2.tail, rest, HV2.out, HSC.out, HR2.out, rfl, bl_al HB.out _, ?_⟩
          exact (Below.heap_alloc wr _ _ hwr).trans HRES.out

theorem look_at (hp : TSt w0 tv ts b qs w U st) (s : Bytes) (hs : s.length ≤ maxLen) :
    Calls Tryz.prog 215 #[qsV qs, str s] w fun e w' => e = .returned (fxV (lookP s st.sc)) ∧ Below w.heap.size w w' :=
  look_any qs st.sc w U hp.sc (fun k hk => (hp.hi k hk).2) s hs

set_option maxRecDepth 100000 in
set_option maxHeartbeats 2000000 in
theorem infix_any (hp : TSt w0 tv ts b qs w U st) (t : Tok) (pv : Value) {w1 : World} (hs : Strs w1 pv t.path) (ht : t.text.length ≤ maxLen) :
    Calls Tryz.prog 179 #[ptrV b, tkV t pv] w fun e w' => e = .returned (.bool (infixP t st)) ∧ Below w.heap.size w w' := by
  have HN := Lib.hid (fun W => name_any (w := W) t pv w1 hs)
  have HP := Lib.hid hp
  obtain ⟨nv, dv, -, -, -, -, -, c5, -⟩ := hp.reads
  obtain ⟨a, cap, rfl, -⟩ := hs
  obtain ⟨q, hq⟩ : ∃ q, qsV qs = .pointer (some ⟨q, 0, none⟩) := let ⟨q, _, _, _, _, h, _⟩ := hp.sc.head; ⟨q, h⟩
  have HQ := Lib.hid hq
  rw [hq] at c5
  have d5 := cell_al c5
  have hbl := World.block_lt_of_cell? w _ c5
  clear hq c5
  unfold tkV at *
  have HLK := Lib.hid (fun W (h : TSt w0 tv ts b qs W U st) => look_at h t.text ht)
  obtain ⟨V, hV⟩ : ∃ V, lookP t.text st.sc = V := ⟨_, rfl⟩
  obtain ⟨R, hR⟩ : ∃ R, infixP t st = R := ⟨_, rfl⟩
  rw [hR]
  unfold infixP at hR
  rw [hV] at hR HLK
  rw [HQ.out] at HLK
  have HR := Lib.hid hR.symm
  clear hR hV HQ
  go_enter Tryz.func179, Tryz.ntmps179
  go_wp2_with fail
  have HP1 := Lib.hid (HP.out.alloc (.cells #[.int .i64 t.kind, str t.text, .slice a t.path.length cap, .int .i64 t.line, .int .i64 t.col] 32))
  have k0 := heap_alloc_new w (.cells #[.int .i64 t.kind, str t.text, .slice a t.path.length cap, .int .i64 t.line, .int .i64 t.col] 32)
  have HBW := Lib.hid (bl_al (Below.refl w.heap.size w) (.cells #[.int .i64 t.kind, str t.text, .slice a t.path.length cap, .int .i64 t.line, .int .i64 t.col] 32))
  have k5 := d5 (.cells #[.int .i64 t.kind, str t.text, .slice a t.path.length cap, .int .i64 t.line, .int .i64 t.col] 32)
  generalize w.alloc (.cells #[.int .i64 t.kind, str t.text, .slice a t.path.length cap, .int .i64 t.line, .int .i64 t.col] 32) = W0 at *
  obtain ⟨T, f, hT, hf, hsur⟩ := qclass W0
  haveI := hT
  have HF := Lib.hid hf
  have HSU := Lib.hid hsur
  have h0 := hsur _ (Below.refl W0.heap.size W0).drew
  have HNQ := Lib.hid (qcall hf hsur fun W _ => HN.out W)
  have HLQ := Lib.hid (qcall hf hsur fun W hW => HLK.out W (HP1.out.below hW))
  have a0 := fun q => cell_later (hf q) (cell3 k0 0 _ rfl)
  have a1 := fun q => cell_later (hf q) (cell3 k0 1 _ rfl)
  have a2 := fun q => cell_later (hf q) (cell3 k0 2 _ rfl)
  have a3 := fun q => cell_later (hf q) (cell3 k0 3 _ rfl)
  have a4 := fun q => cell_later (hf q) (cell3 k0 4 _ rfl)
  have a5 := fun q => cell_later (hf q) k5
  have H0 := Lib.hid h0
  clear hf hsur h0 d5 k0 k5 hbl
  unfold fxV at HLQ
  cases hn : nameB t
  · have HRR := Lib.hid (show R = false by rw [HR.out, hn]; rfl)
    rw [hn] at HNQ
    clear hn
    refine wp_region_grown f (by kernel_rfl) (by kernel_rfl) H0.out ?_
    repeat (go_big_quiet_step (exact HNQ.out _))
    refine wpQuiet_nil ?_
    rintro wz ⟨qz, rfl⟩
    go_wp2_with fail
    go_ret
    exact ⟨by rw [HRR.out]; rfl, HBW.out.trans ((HF.out _).mono HBW.out.size)⟩
  · have HRR := Lib.hid (show R = V.infx by rw [HR.out, hn]; rfl)
    rw [hn] at HNQ
    clear hn
    refine wp_region_grown f (by kernel_rfl) (by kernel_rfl) H0.out ?_
    have hfl : ∀ w, (Instr.field 102 (.agg #[.int .i64 V.level, .bool V.right, .bool V.infx]) 2).run Tryz.prog w = .ok (.bool V.infx) w := fun _ => by kernel_rfl
    repeat (go_big_quiet_step (first | exact HNQ.out _ | exact HLQ.out _))
    refine wpQuiet_nil ?_
    rintro wz ⟨qz, rfl⟩
    go_wp2_with fail
    go_ret
    exact ⟨by rw [HRR.out]; rfl, HBW.out.trans ((HF.out _).mono HBW.out.size)⟩

end
end Go.Proofs.YtbchkldhnjahaaaGreatDoor
