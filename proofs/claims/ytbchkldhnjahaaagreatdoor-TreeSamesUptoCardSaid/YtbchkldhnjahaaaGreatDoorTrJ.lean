/- join: what the call returns, and what it leaves. Conditions: those of each theorem. -/
import Derived.Test.YtbchkldhnjahaaaGreatDoorTrI
import Derived.Deep.RegionLawGrows
namespace Go.Proofs.YtbchkldhnjahaaaGreatDoor
open Go.RowKit Kiln
open Go.Proofs

section
variable {w0 : World} {tv : Value} {ts : List Tok} {b : Nat} {qs : List Nat} {w : World} {U : Rl} {st : PS} {L : Low}

/-- a row of numbers that another function may hold -/
structure Arg (wc : World) (Uc : Rl) (v : Value) (l : List Nat) : Prop where
  ints : Ints wc v (l.map Int.ofNat)
  im : Im Uc v 0
  lt : ∀ k, v.ownBlock = some k → k < wc.heap.size
  cap : ∀ a n c, v = .slice a n c → n ≤ c
theorem Arg.step {wc : World} {Uc : Rl} {v : Value} {l : List Nat} (h : Arg wc Uc v l) {w' : World} {U' : Rl} (hf : Fr wc Uc w' U') : Arg w' U' v l :=
  ⟨h.ints.keep fun k e => hf.keep k (h.lt k e) (h.im k e), fun k e => hf.sub k (h.lt k e) (h.im k e), fun k e => Nat.lt_of_lt_of_le (h.lt k e) hf.size, h.cap⟩
theorem Arg.below {wc : World} {Uc : Rl} {v : Value} {l : List Nat} (h : Arg wc Uc v l) {w' : World} (hb : Below wc.heap.size wc w') : Arg w' Uc v l :=
  ⟨h.ints.keep fun k e => hb.block k (h.lt k e), h.im, fun k e => Nat.lt_of_lt_of_le (h.lt k e) hb.size, h.cap⟩
theorem Arg.alloc {wc : World} {Uc : Rl} {v : Value} {l : List Nat} (h : Arg wc Uc v l) (o : Obj) : Arg (wc.alloc o) Uc v l := h.below (bl_al (Below.refl _ _) o)
theorem LR.arg {B : Nat} {wc : World} {Uc : Rl} {v : Value} {l : List Nat} (h : LR B wc Uc v (l.map Int.ofNat)) : Arg wc Uc v l := ⟨h.ints, h.2, fun k e => (h.lt k e).2, fun a n c e => by
  subst e
  rcases h.1.2 with ⟨e, h0⟩ | ⟨g, cap, cur, e, _, _, hle, _⟩
  · simp only [Value.slice.injEq] at e; omega
  · simp only [Value.slice.injEq] at e; omega⟩
theorem Arg.at {wc : World} {Uc : Rl} {ab off m cap : Nat} {l : List Nat} (h : Arg wc Uc (.slice (some ⟨ab, off, none⟩) m cap) l) {i x : Nat} (hx : l[i]? = some x) : wc.cell? ⟨ab, off + i, none⟩ = some (.int .i64 x) := by
  obtain ⟨a, c, e, hl⟩ := ints_cell h.ints
  simp only [Value.slice.injEq] at e
  obtain ⟨b', off', e2, hc⟩ := hl i x (by simp [hx])
  rw [← e.1] at e2
  simp only [Option.some.injEq, Addr.mk.injEq] at e2
  obtain ⟨rfl, rfl, _⟩ := e2
  exact hc
theorem Arg.addr {wc : World} {Uc : Rl} {ao : Option Addr} {m cap : Nat} {l : List Nat} (h : Arg wc Uc (.slice ao m cap) l) {i x : Nat} (hx : l[i]? = some x) : ∃ ab off, ao = some ⟨ab, off, none⟩ := by
  obtain ⟨a, c, e, hl⟩ := ints_cell h.ints
  simp only [Value.slice.injEq] at e
  obtain ⟨b', off', e2, hc⟩ := hl i x (by simp [hx])
  exact ⟨b', off', by rw [e.1, e2]⟩
theorem Loc.lit {wc : World} {Uc : Rl} {L r : Nat} {cs : Array Value} {T : TypeId} {o : Obj} (h : Loc wc Uc L cs T) : Loc (wc.alloc o) (Uc.set wc.heap.size r) L cs T := (h.alloc o).set (Nat.ne_of_lt h.lt)
theorem Arg.lit {wc : World} {Uc : Rl} {r : Nat} {v : Value} {l : List Nat} {o : Obj} (h : Arg wc Uc v l) : Arg (wc.alloc o) (Uc.set wc.heap.size r) v l :=
  ⟨(h.alloc o).ints, fun k e => (Rl.set_other (Nat.ne_of_lt (h.lt k e))).trans (h.im k e), (h.alloc o).lt, h.cap⟩
theorem Arg.drew {wc : World} {Uc : Rl} {v : Value} {l : List Nat} (h : Arg wc Uc v l) : Arg wc.drew Uc v l := ⟨h.ints, h.im, h.lt, h.cap⟩
theorem addr_addk (g o n : Nat) : (⟨g, o, none⟩ : Addr).add n = ⟨g, o + n, none⟩ := by
  unfold Addr.add
  split
  · rename_i h; simp_all
  · rfl
theorem Cur.grown0 {wc : World} {Uc : Rl} {stc : PS} (h : Cur w0 tv ts b qs w U wc Uc stc) {w2 : World} (hg : wc.grownBy w2 none) : Cur w0 tv ts b qs w U w2 Uc stc :=
  ⟨h.p.grown hg (fun k e => by cases e), h.f.grown hg (fun k e => by cases e), h.le⟩
theorem Arg.olds {wc : World} {Uc : Rl} {ab off m cap n : Nat} {l : List Nat} (h : Arg wc Uc (.slice (some ⟨ab, off, none⟩) m cap) l) :
    ∀ a : Addr, some (⟨ab, off, none⟩ : Addr) = some a → ∀ (j : Nat) u, (((l.take n).map Int.ofNat).map (Value.int .i64))[j]? = some u → wc.cell? (a.add j) = some u := by
  intro a e j u hu
  simp only [Option.some.injEq] at e
  subst e
  rw [addr_addk]
  simp only [List.getElem?_map, Option.map_eq_some_iff] at hu
  obtain ⟨x, ⟨y, hy, rfl⟩, rfl⟩ := hu
  rw [List.getElem?_take] at hy
  split at hy
  · exact h.at hy
  · cases hy
theorem row_low {w : World} {B B' n size : Nat} {e : TypeId} {v : Value} {ys : List Value} (h : w.ownsRow B e size v n ys) (hB : B' ≤ B) : w.ownsRow B' e size v n ys := by
  refine ⟨h.1, ?_⟩
  rcases h.2 with hn | ⟨g, cap, cur, hv, hb, rest⟩
  · exact .inl hn
  · exact .inr ⟨g, cap, cur, hv, Nat.le_trans hB hb, rest⟩

set_option maxRecDepth 100000 in
set_option maxHeartbeats 4000000 in
theorem join_any (HT : Tks w0 tv ts) (x : Link) (args : List Nat) (ex : Bool) (av : Value) (ha : Arg w U av args) (hl : args.length ≤ 1099511627776) (hp : TSt w0 tv ts b qs w U st) (hne : joinM args x ex st ≠ .error .out) :
    Calls Tryz.prog 258 #[ptrV b, av, .agg #[.int .i64 x.fx.level, .bool x.fx.right, .bool x.fx.infx, str x.text, .int .i64 x.at_.1, .int .i64 x.at_.2], .bool ex] w (TPost w0 tv ts b qs (lst1R w.heap.size) (joinM args x ex st) w U) := by
  -- by the cases of its length
  have HA := Lib.hid ha
  have HL := Lib.hid hl
  clear ha hl
  obtain ⟨R, hR⟩ : ∃ R, joinM args x ex st = R := ⟨_, rfl⟩
  rw [hR] at hne ⊢
  have HNE := Lib.hid hne
  unfold joinM at hR
  by_cases h2 : args.length < 2
  · rw [if_pos h2] at hR; exact absurd hR.symm hne
  rw [if_neg h2] at hR
  obtain ⟨n, hn⟩ : ∃ n, args.length = n + 2 := ⟨args.length - 2, by omega⟩
  rw [hn, show n + 2 - 2 = n by omega, show n + 2 - 1 = n + 1 by omega] at hR
  obtain ⟨a0, hq0⟩ : ∃ a0, args[n]? = some a0 := ⟨_, List.getElem?_eq_getElem (by omega)⟩
  obtain ⟨a1, hq1⟩ : ∃ a1, args[n + 1]? = some a1 := ⟨_, List.getElem?_eq_getElem (by omega)⟩
  rw [show args.getD n 0 = a0 by simp [List.getD, hq0], show args.getD (n + 1) 0 = a1 by simp [List.getD, hq1]] at hR
  have HR := Lib.hid hR.symm
  have HC := Lib.hid (Cur.start hp)
  obtain ⟨ao, cap, hav⟩ : ∃ ao cap, av = .slice ao (n + 2) cap := let ⟨ao, cap, h, _⟩ := HA.out.ints; ⟨ao, cap, by rw [h, List.length_map, hn]⟩
  subst hav
  obtain ⟨ab, off, hao⟩ := HA.out.addr hq0
  subst hao
  have hcap := HA.out.cap _ _ _ rfl
  have HQ := Lib.hid (And.intro hq0 (And.intro hq1 hn))
  have hnl := HL.out
  rw [hn] at hnl
  clear hR hne hp h2 hq0 hq1 hn
  cases ex
  · have hr_ := HR.out
    simp only [Bool.false_eq_true, ↓reduceIte] at hr_
    clear HR
    have HR := Lib.hid hr_
    clear hr_
    go_enter Tryz.func258, Tryz.ntmps258
    go_wp2_with fail
    have HS := Lib.hid ((Loc.new HC.out #[.int .i64 x.fx.level, .bool x.fx.right, .bool x.fx.infx, str x.text, .int .i64 x.at_.1, .int .i64 x.at_.2] 217).alloc (.cells #[.int .i64 31, .int .i64 33, .int .i64 32] 234))
    have HK := Lib.hid (Loc.new (HC.out.alloc (.cells #[.int .i64 x.fx.level, .bool x.fx.right, .bool x.fx.infx, str x.text, .int .i64 x.at_.1, .int .i64 x.at_.2] 217)) #[.int .i64 31, .int .i64 33, .int .i64 32] 234)
    rw [show (w.alloc (.cells #[.int .i64 x.fx.level, .bool x.fx.right, .bool x.fx.infx, str x.text, .int .i64 x.at_.1, .int .i64 x.at_.2] 217)).heap.size = w.heap.size + 1 from by simp] at HK
    have hc_ := (HC.out.alloc (.cells #[.int .i64 x.fx.level, .bool x.fx.right, .bool x.fx.infx, str x.text, .int .i64 x.at_.1, .int .i64 x.at_.2] 217)).alloc (.cells #[.int .i64 31, .int .i64 33, .int .i64 32] 234)
    have ha_ := (HA.out.alloc (.cells #[.int .i64 x.fx.level, .bool x.fx.right, .bool x.fx.infx, str x.text, .int .i64 x.at_.1, .int .i64 x.at_.2] 217)).alloc (.cells #[.int .i64 31, .int .i64 33, .int .i64 32] 234)
    clear HC HA
    have HC := Lib.hid hc_
    have HA := Lib.hid ha_
    clear hc_ ha_
    refine (put_at HC.out.p x.at_ 31 x.text [] (Ints.nil _) (Im.nil _ _) (by simp) (ne_of HR.out HNE.out)).mono ?_
    intro e w1 hq1
    rcases (HC.out).call hq1 HR.out with ⟨x1, st1, v1, U1, rfl, rfl, hc1, hf1, hr1⟩ | ⟨ln, cl, kd, rfl, hb1, hd1⟩
    rotate_left
    · clear hq1 hb1
      have HD := Lib.hid hd1; clear hd1
      go_wp2_with fail
      exact ⟨rfl, HD.out _⟩
    have h_ := HS.out.step hf1
    clear HS
    have HS := Lib.hid h_
    clear h_
    have h_ := HK.out.step hf1
    clear HK
    have HK := Lib.hid h_
    clear h_
    have h_ := HA.out.step hf1
    clear HA
    have HA := Lib.hid h_
    clear h_
    have HF1 := Lib.hid hf1
    clear HR HC hq1 hf1
    have HC := Lib.hid hc1
    have HR := Lib.hid hr1
    clear hc1 hr1
    clear HF1
    have hni : (n : Int) < (n : Int) + 2 := by omega
    have hni2 : (n : Int) + 1 < (n : Int) + 2 := by omega
    go_wp2_with fail
    go_cut [12] (fun v wx => ∃ (i : Nat) (st' : PS) (U' : Rl), v = .int .i64 i ∧ Cur w0 tv ts b qs w U wx U' st' ∧ Loc wx U' w.heap.size #[.int .i64 x.fx.level, .bool x.fx.right, .bool x.fx.infx, str x.text, .int .i64 x.at_.1, .int .i64 x.at_.2] 217 ∧ Loc wx U' (w.heap.size + 1) #[.int .i64 31, .int .i64 33, .int .i64 32] 234 ∧ Arg wx U' (.slice (some ⟨ab, off, none⟩) (n + 2) cap) args ∧ R = (putM x.at_ 32 [] [x1, i] >>= fun i => pure (args.take n ++ [i])) st')
    case first =>
      have s4 := HS.out.cell 4 _ rfl
      have s5 := HS.out.cell 5 _ rfl
      have k1 := HK.out.cell 1 _ rfl
      have a0_ := HA.out.at HQ.out.1
      have a1_ := HA.out.at HQ.out.2.1
      have a0' := cell_al a0_
      have a1' := cell_al a1_
      have s4' := cell_al s4
      have s5' := cell_al s5
      have k1' := cell_al k1
      have hw1 : IntKind.i64.wrap (n : Int) = n := IntWalk.i64_in _ (by omega)
      have hn0 : (0 : Int) ≤ (n : Int) + 1 := by omega
      have hnt : ((n : Int) + 1).toNat = n + 1 := by omega
      have hw3 : IntKind.i64.wrap ((n : Int) + 2 - 1) = (n : Int) + 1 := by rw [IntWalk.i64_in _ (by omega)]; omega
      have hw2 : IntKind.i64.wrap ((n : Int) + 1) = (n : Int) + 1 := IntWalk.i64_in _ (by omega)
      refine wp_region_held_drew (S := (fun W => W.cell? ⟨w.heap.size, 4, none⟩ = some (.int .i64 x.at_.1) ∧ W.cell? ⟨w.heap.size, 5, none⟩ = some (.int .i64 x.at_.2) ∧ W.cell? ⟨w.heap.size + 1, 1, none⟩ = some (.int .i64 33) ∧ W.cell? ⟨ab, off + n, none⟩ = some (.int .i64 a0) ∧ W.cell? ⟨ab, off + (n + 1), none⟩ = some (.int .i64 a1))) (by kernel_rfl) (by exact ⟨s4, s5, k1, a0_, a1_⟩) (fun hH0 => ?_)
      refine wpAnyH_take (i := 0) (v := ?_) rfl (by kernel_rfl) (by kernel_rfl) (by kernel_rfl) (fun _ _ _ h => h) (Or.inl ⟨by rfl, ?_⟩) hH0 ?_
      rotate_left
      · (intro wS hSw; (try dsimp only at hSw); go_simp; try with_reducible rfl)
      (try simp only [Act.put, List.getElem_toArray, List.getElem_cons_succ, List.getElem_cons_zero, List.setIfInBounds_toArray, List.set_cons_zero, List.set_cons_succ])
      refine wpAnyH_take (i := 1) (v := ?_) rfl (by kernel_rfl) (by kernel_rfl) (by kernel_rfl) (fun _ _ _ h => h) (Or.inl ⟨by rfl, ?_⟩) hH0 ?_
      rotate_left
      · (intro wS hSw; (try dsimp only at hSw); go_simp; try with_reducible rfl)
      (try simp only [Act.put, List.getElem_toArray, List.getElem_cons_succ, List.getElem_cons_zero, List.setIfInBounds_toArray, List.set_cons_zero, List.set_cons_succ])
      refine wpAnyH_take (i := 2) (v := ?_) rfl (by kernel_rfl) (by kernel_rfl) (by kernel_rfl) (fun _ _ _ h => h) (Or.inl ⟨by rfl, ?_⟩) hH0 ?_
      rotate_left
      · (intro wS hSw; (try dsimp only at hSw); go_simp; try with_reducible rfl)
      (try simp only [Act.put, List.getElem_toArray, List.getElem_cons_succ, List.getElem_cons_zero, List.setIfInBounds_toArray, List.set_cons_zero, List.set_cons_succ])
      refine wpAnyH_take (i := 3) (v := ?_) rfl (by kernel_rfl) (by kernel_rfl) (by kernel_rfl) (fun _ _ _ h => h) (Or.inl ⟨by rfl, ?_⟩) hH0 ?_
      rotate_left
      · (intro wS hSw; (try dsimp only at hSw); go_simp; try with_reducible rfl)
      (try simp only [Act.put, List.getElem_toArray, List.getElem_cons_succ, List.getElem_cons_zero, List.setIfInBounds_toArray, List.set_cons_zero, List.set_cons_succ])
      refine wpAnyH_take (i := 4) (v := ?_) rfl (by kernel_rfl) (by kernel_rfl) (by kernel_rfl) (fun _ _ _ h => h) (Or.inl ⟨by rfl, ?_⟩) hH0 ?_
      rotate_left
      · (intro wS hSw; (try dsimp only at hSw); go_simp; try with_reducible rfl)
      (try simp only [Act.put, List.getElem_toArray, List.getElem_cons_succ, List.getElem_cons_zero, List.setIfInBounds_toArray, List.set_cons_zero, List.set_cons_succ])
      refine wpAnyH_take (i := 5) (v := ?_) rfl (by kernel_rfl) (by kernel_rfl) (by kernel_rfl) (fun _ _ _ h => h) (Or.inl ⟨by rfl, ?_⟩) hH0 ?_
      rotate_left
      · (intro wS hSw; (try dsimp only at hSw); go_simp; try with_reducible rfl)
      (try simp only [Act.put, List.getElem_toArray, List.getElem_cons_succ, List.getElem_cons_zero, List.setIfInBounds_toArray, List.set_cons_zero, List.set_cons_succ])
      refine wpAnyH_take (i := 6) (v := ?_) rfl (by kernel_rfl) (by kernel_rfl) (by kernel_rfl) (fun _ _ _ h => h) (Or.inl ⟨by rfl, ?_⟩) hH0 ?_
      rotate_left
      · (intro wS hSw; (try dsimp only at hSw); go_simp; try with_reducible rfl)
      (try simp only [Act.put, List.getElem_toArray, List.getElem_cons_succ, List.getElem_cons_zero, List.setIfInBounds_toArray, List.set_cons_zero, List.set_cons_succ])
      refine wpAnyH_take (i := 7) (v := ?_) rfl (by kernel_rfl) (by kernel_rfl) (by kernel_rfl) (fun _ _ _ h => h) (Or.inl ⟨by rfl, ?_⟩) hH0 ?_
      rotate_left
      · (intro wS hSw; (try dsimp only at hSw); go_simp; try with_reducible rfl)
      (try simp only [Act.put, List.getElem_toArray, List.getElem_cons_succ, List.getElem_cons_zero, List.setIfInBounds_toArray, List.set_cons_zero, List.set_cons_succ])
      refine wpAnyH_take (i := 8) (v := ?_) rfl (by kernel_rfl) (by kernel_rfl) (by kernel_rfl) (fun _ _ _ h => h) (Or.inl ⟨by rfl, ?_⟩) hH0 ?_
      rotate_left
      · (intro wS hSw; (try dsimp only at hSw); go_simp; try with_reducible rfl)
      (try simp only [Act.put, List.getElem_toArray, List.getElem_cons_succ, List.getElem_cons_zero, List.setIfInBounds_toArray, List.set_cons_zero, List.set_cons_succ])
      refine wpAnyH_take (i := 9) (v := ?_) rfl (by kernel_rfl) (by kernel_rfl) (by kernel_rfl) (fun _ _ _ h => h) (Or.inl ⟨by rfl, ?_⟩) hH0 ?_
      rotate_left
      · (intro wS hSw; (try dsimp only at hSw); go_simp; try with_reducible rfl)
      (try simp only [Act.put, List.getElem_toArray, List.getElem_cons_succ, List.getElem_cons_zero, List.setIfInBounds_toArray, List.set_cons_zero, List.set_cons_succ])
      refine wpAnyH_take (i := 10) (v := ?_) rfl (by kernel_rfl) (by kernel_rfl) (by kernel_rfl) (fun _ _ _ h => h) (Or.inl ⟨by rfl, ?_⟩) hH0 ?_
      rotate_left
      · (intro wS hSw; (try dsimp only at hSw); go_simp; try with_reducible rfl)
      (try simp only [Act.put, List.getElem_toArray, List.getElem_cons_succ, List.getElem_cons_zero, List.setIfInBounds_toArray, List.set_cons_zero, List.set_cons_succ])
      refine wpAnyH_take (i := 11) (v := ?_) rfl (by kernel_rfl) (by kernel_rfl) (by kernel_rfl) (fun _ _ _ h => h) (Or.inl ⟨by rfl, ?_⟩) hH0 ?_
      rotate_left
      · (intro wS hSw; (try dsimp only at hSw); go_simp; try with_reducible rfl)
      (try simp only [Act.put, List.getElem_toArray, List.getElem_cons_succ, List.getElem_cons_zero, List.setIfInBounds_toArray, List.set_cons_zero, List.set_cons_succ])
      refine wpAnyH_take (i := 12) (v := ?_) rfl (by kernel_rfl) (by kernel_rfl) (by kernel_rfl) (fun _ _ _ h => h) (Or.inl ⟨by rfl, ?_⟩) hH0 ?_
      rotate_left
      · (intro wS hSw; (try dsimp only at hSw); go_simp; try with_reducible rfl)
      (try simp only [Act.put, List.getElem_toArray, List.getElem_cons_succ, List.getElem_cons_zero, List.setIfInBounds_toArray, List.set_cons_zero, List.set_cons_succ])
      refine wpAnyH_take (i := 13) (v := ?_) rfl (by kernel_rfl) (by kernel_rfl) (by kernel_rfl) (fun _ _ _ h => h) (Or.inl ⟨by rfl, ?_⟩) hH0 ?_
      rotate_left
      · (intro wS hSw; (try dsimp only at hSw); go_simp; try with_reducible rfl)
      (try simp only [Act.put, List.getElem_toArray, List.getElem_cons_succ, List.getElem_cons_zero, List.setIfInBounds_toArray, List.set_cons_zero, List.set_cons_succ])
      refine wpAnyH_take (i := 14) (v := ?_) rfl (by kernel_rfl) (by kernel_rfl) (by kernel_rfl) (fun _ _ _ h => h) (Or.inl ⟨by rfl, ?_⟩) hH0 ?_
      rotate_left
      · (intro wS hSw; (try dsimp only at hSw); go_simp; try with_reducible rfl)
      (try simp only [Act.put, List.getElem_toArray, List.getElem_cons_succ, List.getElem_cons_zero, List.setIfInBounds_toArray, List.set_cons_zero, List.set_cons_succ])
      refine wpAnyH_ready (rs := [15]) (by kernel_rfl) (by simp) (AllReadyH.cons rfl (fun K hK => ?_) AllReadyH.nil)
      (try simp only [List.getElem_toArray, List.getElem_cons_succ, List.getElem_cons_zero])
      go_simp
      refine hK.out _ _ (by exact ⟨s4' _, s5' _, k1' _, a0' _, a1' _⟩) (fun hH1 => ?_)
      clear hK K hH0
      (try simp only [Act.put, List.getElem_toArray, List.getElem_cons_succ, List.getElem_cons_zero, List.setIfInBounds_toArray, List.set_cons_zero, List.set_cons_succ])
      refine wpAnyH_ready (rs := [16]) (by kernel_rfl) (by simp) (AllReadyH.cons rfl (fun K hK => ?_) AllReadyH.nil)
      (try simp only [List.getElem_toArray, List.getElem_cons_succ, List.getElem_cons_zero])
      go_simp
      have hl := HC.out.lit [a0, a1] _ rfl (by unfold maxLen; simp)
      refine (put_at hl.1.p.drew x.at_ 33 [] [a0, a1] hl.2.1 hl.2.2 (by simp) (ne_of HR.out HNE.out)).mono ?_
      intro e w2 hq2
      rcases (hl.1.drew).call hq2 HR.out with ⟨x2, st2, v2, U2, rfl, rfl, hc2, hf2, hr2⟩ | ⟨ln, cl, kd, rfl, hb2, hd2⟩
      rotate_left
      · clear hq2 hb2
        have HD := Lib.hid hd2; clear hd2
        go_wp2_with fail
        exact ⟨rfl, HD.out _⟩
      have h_ := HS.out.lit.drew.step hf2
      clear HS
      have HS := Lib.hid h_
      clear h_
      have h_ := HK.out.lit.drew.step hf2
      clear HK
      have HK := Lib.hid h_
      clear h_
      have h_ := HA.out.lit.drew.step hf2
      clear HA
      have HA := Lib.hid h_
      clear h_
      have HF2 := Lib.hid hf2
      clear HR HC hq2 hf2
      have HC := Lib.hid hc2
      have HR := Lib.hid hr2
      clear hc2 hr2
      clear hl
      go_wp2_with fail
      refine hK.out _ _ (by exact ⟨HS.out.cell 4 _ rfl, HS.out.cell 5 _ rfl, HK.out.cell 1 _ rfl, HA.out.at HQ.out.1, HA.out.at HQ.out.2.1⟩) (fun hH2 => ?_)
      clear hK K hH1
      (try simp only [Act.put, List.getElem_toArray, List.getElem_cons_succ, List.getElem_cons_zero, List.setIfInBounds_toArray, List.set_cons_zero, List.set_cons_succ])
      refine wpAnyH_take (i := 17) (v := ?_) rfl (by kernel_rfl) (by kernel_rfl) (by kernel_rfl) (fun _ _ _ h => h) (Or.inl ⟨by rfl, ?_⟩) hH2 ?_
      rotate_left
      · (intro wS hSw; (try dsimp only at hSw); go_simp; try with_reducible rfl)
      (try simp only [Act.put, List.getElem_toArray, List.getElem_cons_succ, List.getElem_cons_zero, List.setIfInBounds_toArray, List.set_cons_zero, List.set_cons_succ])
      refine wpAnyH_done (by kernel_rfl) ?_ _
      go_wp2_with fail
      go_meet
      exact ⟨x2, st2, U2, rfl, HC.out, HS.out, HK.out, HA.out, HR.out⟩
    case rest =>
      clear HC HR HS HK HA
      obtain ⟨x2, st2, U2, rfl, hc, hs, hk, ha, hr⟩ := hcut
      have HC := Lib.hid hc
      have HR := Lib.hid hr
      have HS := Lib.hid hs
      have HK := Lib.hid hk
      have HA := Lib.hid ha
      clear hc hr hs hk ha
      have s4 := HS.out.cell 4 _ rfl
      have s5 := HS.out.cell 5 _ rfl
      have k2 := HK.out.cell 2 _ rfl
      have s4' := cell_al s4
      have s5' := cell_al s5
      have k2' := cell_al k2
      have hw1 : IntKind.i64.wrap (n : Int) = n := IntWalk.i64_in _ (by omega)
      have hw3 : IntKind.i64.wrap ((n : Int) + 2 - 2) = n := by rw [IntWalk.i64_in _ (by omega)]; omega
      have hn0 : (0 : Int) ≤ (n : Int) := by omega
      have hnc : (n : Int) ≤ (cap : Int) := by omega
      have hnt : ((n : Int)).toNat = n := by omega
      obtain ⟨j0, hj, hj0, hj1, hj2⟩ := info_parts Tryz.infoInt
      have HJ := Lib.hid (And.intro hj (And.intro hj0 (And.intro hj1 hj2)))
      clear hj hj0 hj1 hj2
      go_wp2_with fail
      refine wp_region_held_drew (S := (fun W => W.cell? ⟨w.heap.size, 4, none⟩ = some (.int .i64 x.at_.1) ∧ W.cell? ⟨w.heap.size, 5, none⟩ = some (.int .i64 x.at_.2) ∧ W.cell? ⟨w.heap.size + 1, 2, none⟩ = some (.int .i64 32))) (by kernel_rfl) (by exact ⟨s4, s5, k2⟩) (fun hH0 => ?_)
      refine wpAnyH_take (i := 0) (v := ?_) rfl (by kernel_rfl) (by kernel_rfl) (by kernel_rfl) (fun _ _ _ h => h) (Or.inl ⟨by rfl, ?_⟩) hH0 ?_
      rotate_left
      · (intro wS hSw; (try dsimp only at hSw); go_simp; try with_reducible rfl)
      (try simp only [Act.put, List.getElem_toArray, List.getElem_cons_succ, List.getElem_cons_zero, List.setIfInBounds_toArray, List.set_cons_zero, List.set_cons_succ])
      refine wpAnyH_take (i := 1) (v := ?_) rfl (by kernel_rfl) (by kernel_rfl) (by kernel_rfl) (fun _ _ _ h => h) (Or.inl ⟨by rfl, ?_⟩) hH0 ?_
      rotate_left
      · (intro wS hSw; (try dsimp only at hSw); go_simp; try with_reducible rfl)
      (try simp only [Act.put, List.getElem_toArray, List.getElem_cons_succ, List.getElem_cons_zero, List.setIfInBounds_toArray, List.set_cons_zero, List.set_cons_succ])
      refine wpAnyH_take (i := 2) (v := ?_) rfl (by kernel_rfl) (by kernel_rfl) (by kernel_rfl) (fun _ _ _ h => h) (Or.inl ⟨by rfl, ?_⟩) hH0 ?_
      rotate_left
      · (intro wS hSw; (try dsimp only at hSw); go_simp; try with_reducible rfl)
      (try simp only [Act.put, List.getElem_toArray, List.getElem_cons_succ, List.getElem_cons_zero, List.setIfInBounds_toArray, List.set_cons_zero, List.set_cons_succ])
      refine wpAnyH_take (i := 3) (v := ?_) rfl (by kernel_rfl) (by kernel_rfl) (by kernel_rfl) (fun _ _ _ h => h) (Or.inl ⟨by rfl, ?_⟩) hH0 ?_
      rotate_left
      · (intro wS hSw; (try dsimp only at hSw); go_simp; try with_reducible rfl)
      (try simp only [Act.put, List.getElem_toArray, List.getElem_cons_succ, List.getElem_cons_zero, List.setIfInBounds_toArray, List.set_cons_zero, List.set_cons_succ])
      refine wpAnyH_take (i := 4) (v := ?_) rfl (by kernel_rfl) (by kernel_rfl) (by kernel_rfl) (fun _ _ _ h => h) (Or.inl ⟨by rfl, ?_⟩) hH0 ?_
      rotate_left
      · (intro wS hSw; (try dsimp only at hSw); go_simp; try with_reducible rfl)
      (try simp only [Act.put, List.getElem_toArray, List.getElem_cons_succ, List.getElem_cons_zero, List.setIfInBounds_toArray, List.set_cons_zero, List.set_cons_succ])
      refine wpAnyH_take (i := 5) (v := ?_) rfl (by kernel_rfl) (by kernel_rfl) (by kernel_rfl) (fun _ _ _ h => h) (Or.inl ⟨by rfl, ?_⟩) hH0 ?_
      rotate_left
      · (intro wS hSw; (try dsimp only at hSw); go_simp; try with_reducible rfl)
      (try simp only [Act.put, List.getElem_toArray, List.getElem_cons_succ, List.getElem_cons_zero, List.setIfInBounds_toArray, List.set_cons_zero, List.set_cons_succ])
      refine wpAnyH_take (i := 6) (v := ?_) rfl (by kernel_rfl) (by kernel_rfl) (by kernel_rfl) (fun _ _ _ h => h) (Or.inl ⟨by rfl, ?_⟩) hH0 ?_
      rotate_left
      · (intro wS hSw; (try dsimp only at hSw); go_simp; try with_reducible rfl)
      (try simp only [Act.put, List.getElem_toArray, List.getElem_cons_succ, List.getElem_cons_zero, List.setIfInBounds_toArray, List.set_cons_zero, List.set_cons_succ])
      refine wpAnyH_take (i := 7) (v := ?_) rfl (by kernel_rfl) (by kernel_rfl) (by kernel_rfl) (fun _ _ _ h => h) (Or.inl ⟨by rfl, ?_⟩) hH0 ?_
      rotate_left
      · (intro wS hSw; (try dsimp only at hSw); go_simp; try with_reducible rfl)
      (try simp only [Act.put, List.getElem_toArray, List.getElem_cons_succ, List.getElem_cons_zero, List.setIfInBounds_toArray, List.set_cons_zero, List.set_cons_succ])
      refine wpAnyH_take (i := 8) (v := ?_) rfl (by kernel_rfl) (by kernel_rfl) (by kernel_rfl) (fun _ _ _ h => h) (Or.inl ⟨by rfl, ?_⟩) hH0 ?_
      rotate_left
      · (intro wS hSw; (try dsimp only at hSw); go_simp; try with_reducible rfl)
      (try simp only [Act.put, List.getElem_toArray, List.getElem_cons_succ, List.getElem_cons_zero, List.setIfInBounds_toArray, List.set_cons_zero, List.set_cons_succ])
      refine wpAnyH_take (i := 9) (v := ?_) rfl (by kernel_rfl) (by kernel_rfl) (by kernel_rfl) (fun _ _ _ h => h) (Or.inl ⟨by rfl, ?_⟩) hH0 ?_
      rotate_left
      · (intro wS hSw; (try dsimp only at hSw); go_simp; try with_reducible rfl)
      (try simp only [Act.put, List.getElem_toArray, List.getElem_cons_succ, List.getElem_cons_zero, List.setIfInBounds_toArray, List.set_cons_zero, List.set_cons_succ])
      refine wpAnyH_take (i := 10) (v := ?_) rfl (by kernel_rfl) (by kernel_rfl) (by kernel_rfl) (fun _ _ _ h => h) (Or.inl ⟨by rfl, ?_⟩) hH0 ?_
      rotate_left
      · (intro wS hSw; (try dsimp only at hSw); go_simp; try with_reducible rfl)
      (try simp only [Act.put, List.getElem_toArray, List.getElem_cons_succ, List.getElem_cons_zero, List.setIfInBounds_toArray, List.set_cons_zero, List.set_cons_succ])
      refine wpAnyH_take (i := 11) (v := ?_) rfl (by kernel_rfl) (by kernel_rfl) (by kernel_rfl) (fun _ _ _ h => h) (Or.inl ⟨by rfl, ?_⟩) hH0 ?_
      rotate_left
      · (intro wS hSw; (try dsimp only at hSw); go_simp; try with_reducible rfl)
      (try simp only [Act.put, List.getElem_toArray, List.getElem_cons_succ, List.getElem_cons_zero, List.setIfInBounds_toArray, List.set_cons_zero, List.set_cons_succ])
      refine wpAnyH_take (i := 12) (v := ?_) rfl (by kernel_rfl) (by kernel_rfl) (by kernel_rfl) (fun _ _ _ h => h) (Or.inl ⟨by rfl, ?_⟩) hH0 ?_
      rotate_left
      · (intro wS hSw; (try dsimp only at hSw); go_simp; try with_reducible rfl)
      (try simp only [Act.put, List.getElem_toArray, List.getElem_cons_succ, List.getElem_cons_zero, List.setIfInBounds_toArray, List.set_cons_zero, List.set_cons_succ])
      refine wpAnyH_ready (rs := [13]) (by kernel_rfl) (by simp) (AllReadyH.cons rfl (fun K hK => ?_) AllReadyH.nil)
      (try simp only [List.getElem_toArray, List.getElem_cons_succ, List.getElem_cons_zero])
      go_simp
      refine hK.out _ _ (by exact ⟨s4' _, s5' _, k2' _⟩) (fun hH1 => ?_)
      clear hK K hH0
      (try simp only [Act.put, List.getElem_toArray, List.getElem_cons_succ, List.getElem_cons_zero, List.setIfInBounds_toArray, List.set_cons_zero, List.set_cons_succ])
      refine wpAnyH_ready (rs := [14]) (by kernel_rfl) (by simp) (AllReadyH.cons rfl (fun K hK => ?_) AllReadyH.nil)
      (try simp only [List.getElem_toArray, List.getElem_cons_succ, List.getElem_cons_zero])
      go_simp
      have hl := HC.out.lit [x1, x2] _ rfl (by unfold maxLen; simp)
      refine (put_at hl.1.p.drew x.at_ 32 [] [x1, x2] hl.2.1 hl.2.2 (by simp) (ne_of HR.out HNE.out)).mono ?_
      intro e w3 hq3
      rcases (hl.1.drew).call hq3 HR.out with ⟨x3, st3, v3, U3, rfl, rfl, hc3, hf3, hr3⟩ | ⟨ln, cl, kd, rfl, hb3, hd3⟩
      rotate_left
      · clear hq3 hb3
        have HD := Lib.hid hd3; clear hd3
        go_wp2_with fail
        exact ⟨rfl, HD.out _⟩
      have h_ := HS.out.lit.drew.step hf3
      clear HS
      have HS := Lib.hid h_
      clear h_
      have h_ := HK.out.lit.drew.step hf3
      clear HK
      have HK := Lib.hid h_
      clear h_
      have h_ := HA.out.lit.drew.step hf3
      clear HA
      have HA := Lib.hid h_
      clear h_
      have HF3 := Lib.hid hf3
      clear HR HC hq3 hf3
      have HC := Lib.hid hc3
      have HR := Lib.hid hr3
      clear hc3 hr3
      clear hl
      go_wp2_with fail
      refine hK.out _ _ (by exact ⟨HS.out.cell 4 _ rfl, HS.out.cell 5 _ rfl, HK.out.cell 2 _ rfl⟩) (fun hH2 => ?_)
      clear hK K hH1
      (try simp only [Act.put, List.getElem_toArray, List.getElem_cons_succ, List.getElem_cons_zero, List.setIfInBounds_toArray, List.set_cons_zero, List.set_cons_succ])
      refine wpAnyH_ready (rs := [15]) (by kernel_rfl) (by simp) (AllReadyH.cons rfl (fun K hK => ?_) AllReadyH.nil)
      (try simp only [List.getElem_toArray, List.getElem_cons_succ, List.getElem_cons_zero])
      go_simp
      refine hK.out _ _ (by exact ⟨(HS.out.alloc _).cell 4 _ rfl, (HS.out.alloc _).cell 5 _ rfl, (HK.out.alloc _).cell 2 _ rfl⟩) (fun hH3 => ?_)
      clear hK K hH2
      (try simp only [Act.put, List.getElem_toArray, List.getElem_cons_succ, List.getElem_cons_zero, List.setIfInBounds_toArray, List.set_cons_zero, List.set_cons_succ])
      refine wpAnyH_ready (rs := [16]) (by kernel_rfl) (by simp) (AllReadyH.cons rfl (fun K hK => ?_) AllReadyH.nil)
      -- law
      refine step_append_grows rfl (.tmp 48) (.tmp 58) 39 rfl 3 j0 (.int .i64 0) 1 8 Tryz.underlying39 HJ.out.1 HJ.out.2.1 HJ.out.2.2.1 HJ.out.2.2.2 rfl (by decide) (some ⟨ab, off, none⟩) n n (((args.take n).map Int.ofNat).map (Value.int .i64)) (by simp [Act.eval]) (fun h => by cases h) (by have := HQ.out.2.2; simp; omega) (HA.out.alloc _).olds ⟨w3.heap.size, 0, none⟩ 1 1 [.int .i64 x3] (by simp [Act.eval]) rfl (World.news_of_block (heap_alloc_new _ _)) (one_int _) (by omega) (by unfold maxLen; omega) (by omega) ?_
      intro v4 w4 hrow hgr
      have HC4 := Lib.hid ((HC.out.alloc _).grown0 hgr)
      have HS4 := Lib.hid ((HS.out.alloc _).below ((Below.refl _ _).grown hgr (Nat.le_refl _) (fun k e => by cases e)))
      have HK4 := Lib.hid ((HK.out.alloc _).below ((Below.refl _ _).grown hgr (Nat.le_refl _) (fun k e => by cases e)))
      have hlen := HQ.out.2.2
      have HV : RowKit.Hid (LR w.heap.size w4 U3 v4 ((args.take n ++ [x3]).map Int.ofNat)) := ⟨by
        have := row_low (B' := w.heap.size) hrow (by have := HC.out.size; simp; omega)
        simpa [hlen] using this, fun k e => HC.out.p.zero (by have := (hrow.lt k e).1; simp at this; omega)⟩
      clear hlen hrow hgr
      refine hK.out _ _ (by exact ⟨HS4.out.cell 4 _ rfl, HS4.out.cell 5 _ rfl, HK4.out.cell 2 _ rfl⟩) (fun hH4 => ?_)
      clear hK K hH3
      (try simp only [Act.put, List.getElem_toArray, List.getElem_cons_succ, List.getElem_cons_zero, List.setIfInBounds_toArray, List.set_cons_zero, List.set_cons_succ])
      refine wpAnyH_take (i := 17) (v := ?_) rfl (by kernel_rfl) (by kernel_rfl) (by kernel_rfl) (fun _ _ _ h => h) (Or.inl ⟨by rfl, ?_⟩) hH4 ?_
      rotate_left
      · (intro wS hSw; (try dsimp only at hSw); go_simp; try with_reducible rfl)
      (try simp only [Act.put, List.getElem_toArray, List.getElem_cons_succ, List.getElem_cons_zero, List.setIfInBounds_toArray, List.set_cons_zero, List.set_cons_succ])
      refine wpAnyH_done (by kernel_rfl) ?_ _
      go_wp2_with fail
      go_ret
      have hlen := HQ.out.2.2
      exact TPost.good HR.out rfl ⟨⟨HV.out, by simp; omega⟩, by simp⟩ HC4.out.p HC4.out.f
  · have hr_ := HR.out
    simp only [Bool.false_eq_true, ↓reduceIte] at hr_
    clear HR
    have HR := Lib.hid hr_
    clear hr_
    go_enter Tryz.func258, Tryz.ntmps258
    go_wp2_with fail
    have HS := Lib.hid ((Loc.new HC.out #[.int .i64 x.fx.level, .bool x.fx.right, .bool x.fx.infx, str x.text, .int .i64 x.at_.1, .int .i64 x.at_.2] 217).alloc (.cells #[.int .i64 10, .int .i64 13, .int .i64 17] 234))
    have HK := Lib.hid (Loc.new (HC.out.alloc (.cells #[.int .i64 x.fx.level, .bool x.fx.right, .bool x.fx.infx, str x.text, .int .i64 x.at_.1, .int .i64 x.at_.2] 217)) #[.int .i64 10, .int .i64 13, .int .i64 17] 234)
    rw [show (w.alloc (.cells #[.int .i64 x.fx.level, .bool x.fx.right, .bool x.fx.infx, str x.text, .int .i64 x.at_.1, .int .i64 x.at_.2] 217)).heap.size = w.heap.size + 1 from by simp] at HK
    have hc_ := (HC.out.alloc (.cells #[.int .i64 x.fx.level, .bool x.fx.right, .bool x.fx.infx, str x.text, .int .i64 x.at_.1, .int .i64 x.at_.2] 217)).alloc (.cells #[.int .i64 10, .int .i64 13, .int .i64 17] 234)
    have ha_ := (HA.out.alloc (.cells #[.int .i64 x.fx.level, .bool x.fx.right, .bool x.fx.infx, str x.text, .int .i64 x.at_.1, .int .i64 x.at_.2] 217)).alloc (.cells #[.int .i64 10, .int .i64 13, .int .i64 17] 234)
    clear HC HA
    have HC := Lib.hid hc_
    have HA := Lib.hid ha_
    clear hc_ ha_
    refine (put_at HC.out.p x.at_ 10 x.text [] (Ints.nil _) (Im.nil _ _) (by simp) (ne_of HR.out HNE.out)).mono ?_
    intro e w1 hq1
    rcases (HC.out).call hq1 HR.out with ⟨x1, st1, v1, U1, rfl, rfl, hc1, hf1, hr1⟩ | ⟨ln, cl, kd, rfl, hb1, hd1⟩
    rotate_left
    · clear hq1 hb1
      have HD := Lib.hid hd1; clear hd1
      go_wp2_with fail
      exact ⟨rfl, HD.out _⟩
    have h_ := HS.out.step hf1
    clear HS
    have HS := Lib.hid h_
    clear h_
    have h_ := HK.out.step hf1
    clear HK
    have HK := Lib.hid h_
    clear h_
    have h_ := HA.out.step hf1
    clear HA
    have HA := Lib.hid h_
    clear h_
    have HF1 := Lib.hid hf1
    clear HR HC hq1 hf1
    have HC := Lib.hid hc1
    have HR := Lib.hid hr1
    clear hc1 hr1
    clear HF1
    have hni : (n : Int) < (n : Int) + 2 := by omega
    have hni2 : (n : Int) + 1 < (n : Int) + 2 := by omega
    go_wp2_with fail
    go_cut [12] (fun v wx => ∃ (i : Nat) (st' : PS) (U' : Rl), v = .int .i64 i ∧ Cur w0 tv ts b qs w U wx U' st' ∧ Loc wx U' w.heap.size #[.int .i64 x.fx.level, .bool x.fx.right, .bool x.fx.infx, str x.text, .int .i64 x.at_.1, .int .i64 x.at_.2] 217 ∧ Loc wx U' (w.heap.size + 1) #[.int .i64 10, .int .i64 13, .int .i64 17] 234 ∧ Arg wx U' (.slice (some ⟨ab, off, none⟩) (n + 2) cap) args ∧ R = (putM x.at_ 17 [] [x1, i] >>= fun i => pure (args.take n ++ [i])) st')
    case first =>
      have s4 := HS.out.cell 4 _ rfl
      have s5 := HS.out.cell 5 _ rfl
      have k1 := HK.out.cell 1 _ rfl
      have a0_ := HA.out.at HQ.out.1
      have a1_ := HA.out.at HQ.out.2.1
      have a0' := cell_al a0_
      have a1' := cell_al a1_
      have s4' := cell_al s4
      have s5' := cell_al s5
      have k1' := cell_al k1
      have hw1 : IntKind.i64.wrap (n : Int) = n := IntWalk.i64_in _ (by omega)
      have hn0 : (0 : Int) ≤ (n : Int) + 1 := by omega
      have hnt : ((n : Int) + 1).toNat = n + 1 := by omega
      have hw3 : IntKind.i64.wrap ((n : Int) + 2 - 1) = (n : Int) + 1 := by rw [IntWalk.i64_in _ (by omega)]; omega
      have hw2 : IntKind.i64.wrap ((n : Int) + 1) = (n : Int) + 1 := IntWalk.i64_in _ (by omega)
      refine wp_region_held_drew (S := (fun W => W.cell? ⟨w.heap.size, 4, none⟩ = some (.int .i64 x.at_.1) ∧ W.cell? ⟨w.heap.size, 5, none⟩ = some (.int .i64 x.at_.2) ∧ W.cell? ⟨w.heap.size + 1, 1, none⟩ = some (.int .i64 13) ∧ W.cell? ⟨ab, off + n, none⟩ = some (.int .i64 a0) ∧ W.cell? ⟨ab, off + (n + 1), none⟩ = some (.int .i64 a1))) (by kernel_rfl) (by exact ⟨s4, s5, k1, a0_, a1_⟩) (fun hH0 => ?_)
      refine wpAnyH_take (i := 0) (v := ?_) rfl (by kernel_rfl) (by kernel_rfl) (by kernel_rfl) (fun _ _ _ h => h) (Or.inl ⟨by rfl, ?_⟩) hH0 ?_
      rotate_left
      · (intro wS hSw; (try dsimp only at hSw); go_simp; try with_reducible rfl)
      (try simp only [Act.put, List.getElem_toArray, List.getElem_cons_succ, List.getElem_cons_zero, List.setIfInBounds_toArray, List.set_cons_zero, List.set_cons_succ])
      refine wpAnyH_take (i := 1) (v := ?_) rfl (by kernel_rfl) (by kernel_rfl) (by kernel_rfl) (fun _ _ _ h => h) (Or.inl ⟨by rfl, ?_⟩) hH0 ?_
      rotate_left
      · (intro wS hSw; (try dsimp only at hSw); go_simp; try with_reducible rfl)
      (try simp only [Act.put, List.getElem_toArray, List.getElem_cons_succ, List.getElem_cons_zero, List.setIfInBounds_toArray, List.set_cons_zero, List.set_cons_succ])
      refine wpAnyH_take (i := 2) (v := ?_) rfl (by kernel_rfl) (by kernel_rfl) (by kernel_rfl) (fun _ _ _ h => h) (Or.inl ⟨by rfl, ?_⟩) hH0 ?_
      rotate_left
      · (intro wS hSw; (try dsimp only at hSw); go_simp; try with_reducible rfl)
      (try simp only [Act.put, List.getElem_toArray, List.getElem_cons_succ, List.getElem_cons_zero, List.setIfInBounds_toArray, List.set_cons_zero, List.set_cons_succ])
      refine wpAnyH_take (i := 3) (v := ?_) rfl (by kernel_rfl) (by kernel_rfl) (by kernel_rfl) (fun _ _ _ h => h) (Or.inl ⟨by rfl, ?_⟩) hH0 ?_
      rotate_left
      · (intro wS hSw; (try dsimp only at hSw); go_simp; try with_reducible rfl)
      (try simp only [Act.put, List.getElem_toArray, List.getElem_cons_succ, List.getElem_cons_zero, List.setIfInBounds_toArray, List.set_cons_zero, List.set_cons_succ])
      refine wpAnyH_take (i := 4) (v := ?_) rfl (by kernel_rfl) (by kernel_rfl) (by kernel_rfl) (fun _ _ _ h => h) (Or.inl ⟨by rfl, ?_⟩) hH0 ?_
      rotate_left
      · (intro wS hSw; (try dsimp only at hSw); go_simp; try with_reducible rfl)
      (try simp only [Act.put, List.getElem_toArray, List.getElem_cons_succ, List.getElem_cons_zero, List.setIfInBounds_toArray, List.set_cons_zero, List.set_cons_succ])
      refine wpAnyH_take (i := 5) (v := ?_) rfl (by kernel_rfl) (by kernel_rfl) (by kernel_rfl) (fun _ _ _ h => h) (Or.inl ⟨by rfl, ?_⟩) hH0 ?_
      rotate_left
      · (intro wS hSw; (try dsimp only at hSw); go_simp; try with_reducible rfl)
      (try simp only [Act.put, List.getElem_toArray, List.getElem_cons_succ, List.getElem_cons_zero, List.setIfInBounds_toArray, List.set_cons_zero, List.set_cons_succ])
      refine wpAnyH_take (i := 6) (v := ?_) rfl (by kernel_rfl) (by kernel_rfl) (by kernel_rfl) (fun _ _ _ h => h) (Or.inl ⟨by rfl, ?_⟩) hH0 ?_
      rotate_left
      · (intro wS hSw; (try dsimp only at hSw); go_simp; try with_reducible rfl)
      (try simp only [Act.put, List.getElem_toArray, List.getElem_cons_succ, List.getElem_cons_zero, List.setIfInBounds_toArray, List.set_cons_zero, List.set_cons_succ])
      refine wpAnyH_take (i := 7) (v := ?_) rfl (by kernel_rfl) (by kernel_rfl) (by kernel_rfl) (fun _ _ _ h => h) (Or.inl ⟨by rfl, ?_⟩) hH0 ?_
      rotate_left
      · (intro wS hSw; (try dsimp only at hSw); go_simp; try with_reducible rfl)
      (try simp only [Act.put, List.getElem_toArray, List.getElem_cons_succ, List.getElem_cons_zero, List.setIfInBounds_toArray, List.set_cons_zero, List.set_cons_succ])
      refine wpAnyH_take (i := 8) (v := ?_) rfl (by kernel_rfl) (by kernel_rfl) (by kernel_rfl) (fun _ _ _ h => h) (Or.inl ⟨by rfl, ?_⟩) hH0 ?_
      rotate_left
      · (intro wS hSw; (try dsimp only at hSw); go_simp; try with_reducible rfl)
      (try simp only [Act.put, List.getElem_toArray, List.getElem_cons_succ, List.getElem_cons_zero, List.setIfInBounds_toArray, List.set_cons_zero, List.set_cons_succ])
      refine wpAnyH_take (i := 9) (v := ?_) rfl (by kernel_rfl) (by kernel_rfl) (by kernel_rfl) (fun _ _ _ h => h) (Or.inl ⟨by rfl, ?_⟩) hH0 ?_
      rotate_left
      · (intro wS hSw; (try dsimp only at hSw); go_simp; try with_reducible rfl)
      (try simp only [Act.put, List.getElem_toArray, List.getElem_cons_succ, List.getElem_cons_zero, List.setIfInBounds_toArray, List.set_cons_zero, List.set_cons_succ])
      refine wpAnyH_take (i := 10) (v := ?_) rfl (by kernel_rfl) (by kernel_rfl) (by kernel_rfl) (fun _ _ _ h => h) (Or.inl ⟨by rfl, ?_⟩) hH0 ?_
      rotate_left
      · (intro wS hSw; (try dsimp only at hSw); go_simp; try with_reducible rfl)
      (try simp only [Act.put, List.getElem_toArray, List.getElem_cons_succ, List.getElem_cons_zero, List.setIfInBounds_toArray, List.set_cons_zero, List.set_cons_succ])
      refine wpAnyH_take (i := 11) (v := ?_) rfl (by kernel_rfl) (by kernel_rfl) (by kernel_rfl) (fun _ _ _ h => h) (Or.inl ⟨by rfl, ?_⟩) hH0 ?_
      rotate_left
      · (intro wS hSw; (try dsimp only at hSw); go_simp; try with_reducible rfl)
      (try simp only [Act.put, List.getElem_toArray, List.getElem_cons_succ, List.getElem_cons_zero, List.setIfInBounds_toArray, List.set_cons_zero, List.set_cons_succ])
      refine wpAnyH_take (i := 12) (v := ?_) rfl (by kernel_rfl) (by kernel_rfl) (by kernel_rfl) (fun _ _ _ h => h) (Or.inl ⟨by rfl, ?_⟩) hH0 ?_
      rotate_left
      · (intro wS hSw; (try dsimp only at hSw); go_simp; try with_reducible rfl)
      (try simp only [Act.put, List.getElem_toArray, List.getElem_cons_succ, List.getElem_cons_zero, List.setIfInBounds_toArray, List.set_cons_zero, List.set_cons_succ])
      refine wpAnyH_take (i := 13) (v := ?_) rfl (by kernel_rfl) (by kernel_rfl) (by kernel_rfl) (fun _ _ _ h => h) (Or.inl ⟨by rfl, ?_⟩) hH0 ?_
      rotate_left
      · (intro wS hSw; (try dsimp only at hSw); go_simp; try with_reducible rfl)
      (try simp only [Act.put, List.getElem_toArray, List.getElem_cons_succ, List.getElem_cons_zero, List.setIfInBounds_toArray, List.set_cons_zero, List.set_cons_succ])
      refine wpAnyH_take (i := 14) (v := ?_) rfl (by kernel_rfl) (by kernel_rfl) (by kernel_rfl) (fun _ _ _ h => h) (Or.inl ⟨by rfl, ?_⟩) hH0 ?_
      rotate_left
      · (intro wS hSw; (try dsimp only at hSw); go_simp; try with_reducible rfl)
      (try simp only [Act.put, List.getElem_toArray, List.getElem_cons_succ, List.getElem_cons_zero, List.setIfInBounds_toArray, List.set_cons_zero, List.set_cons_succ])
      refine wpAnyH_ready (rs := [15]) (by kernel_rfl) (by simp) (AllReadyH.cons rfl (fun K hK => ?_) AllReadyH.nil)
      (try simp only [List.getElem_toArray, List.getElem_cons_succ, List.getElem_cons_zero])
      go_simp
      refine hK.out _ _ (by exact ⟨s4' _, s5' _, k1' _, a0' _, a1' _⟩) (fun hH1 => ?_)
      clear hK K hH0
      (try simp only [Act.put, List.getElem_toArray, List.getElem_cons_succ, List.getElem_cons_zero, List.setIfInBounds_toArray, List.set_cons_zero, List.set_cons_succ])
      refine wpAnyH_ready (rs := [16]) (by kernel_rfl) (by simp) (AllReadyH.cons rfl (fun K hK => ?_) AllReadyH.nil)
      (try simp only [List.getElem_toArray, List.getElem_cons_succ, List.getElem_cons_zero])
      go_simp
      have hl := HC.out.lit [a0, a1] _ rfl (by unfold maxLen; simp)
      refine (put_at hl.1.p.drew x.at_ 13 [] [a0, a1] hl.2.1 hl.2.2 (by simp) (ne_of HR.out HNE.out)).mono ?_
      intro e w2 hq2
      rcases (hl.1.drew).call hq2 HR.out with ⟨x2, st2, v2, U2, rfl, rfl, hc2, hf2, hr2⟩ | ⟨ln, cl, kd, rfl, hb2, hd2⟩
      rotate_left
      · clear hq2 hb2
        have HD := Lib.hid hd2; clear hd2
        go_wp2_with fail
        exact ⟨rfl, HD.out _⟩
      have h_ := HS.out.lit.drew.step hf2
      clear HS
      have HS := Lib.hid h_
      clear h_
      have h_ := HK.out.lit.drew.step hf2
      clear HK
      have HK := Lib.hid h_
      clear h_
      have h_ := HA.out.lit.drew.step hf2
      clear HA
      have HA := Lib.hid h_
      clear h_
      have HF2 := Lib.hid hf2
      clear HR HC hq2 hf2
      have HC := Lib.hid hc2
      have HR := Lib.hid hr2
      clear hc2 hr2
      clear hl
      go_wp2_with fail
      refine hK.out _ _ (by exact ⟨HS.out.cell 4 _ rfl, HS.out.cell 5 _ rfl, HK.out.cell 1 _ rfl, HA.out.at HQ.out.1, HA.out.at HQ.out.2.1⟩) (fun hH2 => ?_)
      clear hK K hH1
      (try simp only [Act.put, List.getElem_toArray, List.getElem_cons_succ, List.getElem_cons_zero, List.setIfInBounds_toArray, List.set_cons_zero, List.set_cons_succ])
      refine wpAnyH_take (i := 17) (v := ?_) rfl (by kernel_rfl) (by kernel_rfl) (by kernel_rfl) (fun _ _ _ h => h) (Or.inl ⟨by rfl, ?_⟩) hH2 ?_
      rotate_left
      · (intro wS hSw; (try dsimp only at hSw); go_simp; try with_reducible rfl)
      (try simp only [Act.put, List.getElem_toArray, List.getElem_cons_succ, List.getElem_cons_zero, List.setIfInBounds_toArray, List.set_cons_zero, List.set_cons_succ])
      refine wpAnyH_done (by kernel_rfl) ?_ _
      go_wp2_with fail
      go_meet
      exact ⟨x2, st2, U2, rfl, HC.out, HS.out, HK.out, HA.out, HR.out⟩
    case rest =>
      clear HC HR HS HK HA
      obtain ⟨x2, st2, U2, rfl, hc, hs, hk, ha, hr⟩ := hcut
      have HC := Lib.hid hc
      have HR := Lib.hid hr
      have HS := Lib.hid hs
      have HK := Lib.hid hk
      have HA := Lib.hid ha
      clear hc hr hs hk ha
      have s4 := HS.out.cell 4 _ rfl
      have s5 := HS.out.cell 5 _ rfl
      have k2 := HK.out.cell 2 _ rfl
      have s4' := cell_al s4
      have s5' := cell_al s5
      have k2' := cell_al k2
      have hw1 : IntKind.i64.wrap (n : Int) = n := IntWalk.i64_in _ (by omega)
      have hw3 : IntKind.i64.wrap ((n : Int) + 2 - 2) = n := by rw [IntWalk.i64_in _ (by omega)]; omega
      have hn0 : (0 : Int) ≤ (n : Int) := by omega
      have hnc : (n : Int) ≤ (cap : Int) := by omega
      have hnt : ((n : Int)).toNat = n := by omega
      obtain ⟨j0, hj, hj0, hj1, hj2⟩ := info_parts Tryz.infoInt
      have HJ := Lib.hid (And.intro hj (And.intro hj0 (And.intro hj1 hj2)))
      clear hj hj0 hj1 hj2
      go_wp2_with fail
      refine wp_region_held_drew (S := (fun W => W.cell? ⟨w.heap.size, 4, none⟩ = some (.int .i64 x.at_.1) ∧ W.cell? ⟨w.heap.size, 5, none⟩ = some (.int .i64 x.at_.2) ∧ W.cell? ⟨w.heap.size + 1, 2, none⟩ = some (.int .i64 17))) (by kernel_rfl) (by exact ⟨s4, s5, k2⟩) (fun hH0 => ?_)
      refine wpAnyH_take (i := 0) (v := ?_) rfl (by kernel_rfl) (by kernel_rfl) (by kernel_rfl) (fun _ _ _ h => h) (Or.inl ⟨by rfl, ?_⟩) hH0 ?_
      rotate_left
      · (intro wS hSw; (try dsimp only at hSw); go_simp; try with_reducible rfl)
      (try simp only [Act.put, List.getElem_toArray, List.getElem_cons_succ, List.getElem_cons_zero, List.setIfInBounds_toArray, List.set_cons_zero, List.set_cons_succ])
      refine wpAnyH_take (i := 1) (v := ?_) rfl (by kernel_rfl) (by kernel_rfl) (by kernel_rfl) (fun _ _ _ h => h) (Or.inl ⟨by rfl, ?_⟩) hH0 ?_
      rotate_left
      · (intro wS hSw; (try dsimp only at hSw); go_simp; try with_reducible rfl)
      (try simp only [Act.put, List.getElem_toArray, List.getElem_cons_succ, List.getElem_cons_zero, List.setIfInBounds_toArray, List.set_cons_zero, List.set_cons_succ])
      refine wpAnyH_take (i := 2) (v := ?_) rfl (by kernel_rfl) (by kernel_rfl) (by kernel_rfl) (fun _ _ _ h => h) (Or.inl ⟨by rfl, ?_⟩) hH0 ?_
      rotate_left
      · (intro wS hSw; (try dsimp only at hSw); go_simp; try with_reducible rfl)
      (try simp only [Act.put, List.getElem_toArray, List.getElem_cons_succ, List.getElem_cons_zero, List.setIfInBounds_toArray, List.set_cons_zero, List.set_cons_succ])
      refine wpAnyH_take (i := 3) (v := ?_) rfl (by kernel_rfl) (by kernel_rfl) (by kernel_rfl) (fun _ _ _ h => h) (Or.inl ⟨by rfl, ?_⟩) hH0 ?_
      rotate_left
      · (intro wS hSw; (try dsimp only at hSw); go_simp; try with_reducible rfl)
      (try simp only [Act.put, List.getElem_toArray, List.getElem_cons_succ, List.getElem_cons_zero, List.setIfInBounds_toArray, List.set_cons_zero, List.set_cons_succ])
      refine wpAnyH_take (i := 4) (v := ?_) rfl (by kernel_rfl) (by kernel_rfl) (by kernel_rfl) (fun _ _ _ h => h) (Or.inl ⟨by rfl, ?_⟩) hH0 ?_
      rotate_left
      · (intro wS hSw; (try dsimp only at hSw); go_simp; try with_reducible rfl)
      (try simp only [Act.put, List.getElem_toArray, List.getElem_cons_succ, List.getElem_cons_zero, List.setIfInBounds_toArray, List.set_cons_zero, List.set_cons_succ])
      refine wpAnyH_take (i := 5) (v := ?_) rfl (by kernel_rfl) (by kernel_rfl) (by kernel_rfl) (fun _ _ _ h => h) (Or.inl ⟨by rfl, ?_⟩) hH0 ?_
      rotate_left
      · (intro wS hSw; (try dsimp only at hSw); go_simp; try with_reducible rfl)
      (try simp only [Act.put, List.getElem_toArray, List.getElem_cons_succ, List.getElem_cons_zero, List.setIfInBounds_toArray, List.set_cons_zero, List.set_cons_succ])
      refine wpAnyH_take (i := 6) (v := ?_) rfl (by kernel_rfl) (by kernel_rfl) (by kernel_rfl) (fun _ _ _ h => h) (Or.inl ⟨by rfl, ?_⟩) hH0 ?_
      rotate_left
      · (intro wS hSw; (try dsimp only at hSw); go_simp; try with_reducible rfl)
      (try simp only [Act.put, List.getElem_toArray, List.getElem_cons_succ, List.getElem_cons_zero, List.setIfInBounds_toArray, List.set_cons_zero, List.set_cons_succ])
      refine wpAnyH_take (i := 7) (v := ?_) rfl (by kernel_rfl) (by kernel_rfl) (by kernel_rfl) (fun _ _ _ h => h) (Or.inl ⟨by rfl, ?_⟩) hH0 ?_
      rotate_left
      · (intro wS hSw; (try dsimp only at hSw); go_simp; try with_reducible rfl)
      (try simp only [Act.put, List.getElem_toArray, List.getElem_cons_succ, List.getElem_cons_zero, List.setIfInBounds_toArray, List.set_cons_zero, List.set_cons_succ])
      refine wpAnyH_take (i := 8) (v := ?_) rfl (by kernel_rfl) (by kernel_rfl) (by kernel_rfl) (fun _ _ _ h => h) (Or.inl ⟨by rfl, ?_⟩) hH0 ?_
      rotate_left
      · (intro wS hSw; (try dsimp only at hSw); go_simp; try with_reducible rfl)
      (try simp only [Act.put, List.getElem_toArray, List.getElem_cons_succ, List.getElem_cons_zero, List.setIfInBounds_toArray, List.set_cons_zero, List.set_cons_succ])
      refine wpAnyH_take (i := 9) (v := ?_) rfl (by kernel_rfl) (by kernel_rfl) (by kernel_rfl) (fun _ _ _ h => h) (Or.inl ⟨by rfl, ?_⟩) hH0 ?_
      rotate_left
      · (intro wS hSw; (try dsimp only at hSw); go_simp; try with_reducible rfl)
      (try simp only [Act.put, List.getElem_toArray, List.getElem_cons_succ, List.getElem_cons_zero, List.setIfInBounds_toArray, List.set_cons_zero, List.set_cons_succ])
      refine wpAnyH_take (i := 10) (v := ?_) rfl (by kernel_rfl) (by kernel_rfl) (by kernel_rfl) (fun _ _ _ h => h) (Or.inl ⟨by rfl, ?_⟩) hH0 ?_
      rotate_left
      · (intro wS hSw; (try dsimp only at hSw); go_simp; try with_reducible rfl)
      (try simp only [Act.put, List.getElem_toArray, List.getElem_cons_succ, List.getElem_cons_zero, List.setIfInBounds_toArray, List.set_cons_zero, List.set_cons_succ])
      refine wpAnyH_take (i := 11) (v := ?_) rfl (by kernel_rfl) (by kernel_rfl) (by kernel_rfl) (fun _ _ _ h => h) (Or.inl ⟨by rfl, ?_⟩) hH0 ?_
      rotate_left
      · (intro wS hSw; (try dsimp only at hSw); go_simp; try with_reducible rfl)
      (try simp only [Act.put, List.getElem_toArray, List.getElem_cons_succ, List.getElem_cons_zero, List.setIfInBounds_toArray, List.set_cons_zero, List.set_cons_succ])
      refine wpAnyH_take (i := 12) (v := ?_) rfl (by kernel_rfl) (by kernel_rfl) (by kernel_rfl) (fun _ _ _ h => h) (Or.inl ⟨by rfl, ?_⟩) hH0 ?_
      rotate_left
      · (intro wS hSw; (try dsimp only at hSw); go_simp; try with_reducible rfl)
      (try simp only [Act.put, List.getElem_toArray, List.getElem_cons_succ, List.getElem_cons_zero, List.setIfInBounds_toArray, List.set_cons_zero, List.set_cons_succ])
      refine wpAnyH_ready (rs := [13]) (by kernel_rfl) (by simp) (AllReadyH.cons rfl (fun K hK => ?_) AllReadyH.nil)
      (try simp only [List.getElem_toArray, List.getElem_cons_succ, List.getElem_cons_zero])
      go_simp
      refine hK.out _ _ (by exact ⟨s4' _, s5' _, k2' _⟩) (fun hH1 => ?_)
      clear hK K hH0
      (try simp only [Act.put, List.getElem_toArray, List.getElem_cons_succ, List.getElem_cons_zero, List.setIfInBounds_toArray, List.set_cons_zero, List.set_cons_succ])
      refine wpAnyH_ready (rs := [14]) (by kernel_rfl) (by simp) (AllReadyH.cons rfl (fun K hK => ?_) AllReadyH.nil)
      (try simp only [List.getElem_toArray, List.getElem_cons_succ, List.getElem_cons_zero])
      go_simp
      have hl := HC.out.lit [x1, x2] _ rfl (by unfold maxLen; simp)
      refine (put_at hl.1.p.drew x.at_ 17 [] [x1, x2] hl.2.1 hl.2.2 (by simp) (ne_of HR.out HNE.out)).mono ?_
      intro e w3 hq3
      rcases (hl.1.drew).call hq3 HR.out with ⟨x3, st3, v3, U3, rfl, rfl, hc3, hf3, hr3⟩ | ⟨ln, cl, kd, rfl, hb3, hd3⟩
      rotate_left
      · clear hq3 hb3
        have HD := Lib.hid hd3; clear hd3
        go_wp2_with fail
        exact ⟨rfl, HD.out _⟩
      have h_ := HS.out.lit.drew.step hf3
      clear HS
      have HS := Lib.hid h_
      clear h_
      have h_ := HK.out.lit.drew.step hf3
      clear HK
      have HK := Lib.hid h_
      clear h_
      have h_ := HA.out.lit.drew.step hf3
      clear HA
      have HA := Lib.hid h_
      clear h_
      have HF3 := Lib.hid hf3
      clear HR HC hq3 hf3
      have HC := Lib.hid hc3
      have HR := Lib.hid hr3
      clear hc3 hr3
      clear hl
      go_wp2_with fail
      refine hK.out _ _ (by exact ⟨HS.out.cell 4 _ rfl, HS.out.cell 5 _ rfl, HK.out.cell 2 _ rfl⟩) (fun hH2 => ?_)
      clear hK K hH1
      (try simp only [Act.put, List.getElem_toArray, List.getElem_cons_succ, List.getElem_cons_zero, List.setIfInBounds_toArray, List.set_cons_zero, List.set_cons_succ])
      refine wpAnyH_ready (rs := [15]) (by kernel_rfl) (by simp) (AllReadyH.cons rfl (fun K hK => ?_) AllReadyH.nil)
      (try simp only [List.getElem_toArray, List.getElem_cons_succ, List.getElem_cons_zero])
      go_simp
      refine hK.out _ _ (by exact ⟨(HS.out.alloc _).cell 4 _ rfl, (HS.out.alloc _).cell 5 _ rfl, (HK.out.alloc _).cell 2 _ rfl⟩) (fun hH3 => ?_)
      clear hK K hH2
      (try simp only [Act.put, List.getElem_toArray, List.getElem_cons_succ, List.getElem_cons_zero, List.setIfInBounds_toArray, List.set_cons_zero, List.set_cons_succ])
      refine wpAnyH_ready (rs := [16]) (by kernel_rfl) (by simp) (AllReadyH.cons rfl (fun K hK => ?_) AllReadyH.nil)
      -- law
      refine step_append_grows rfl (.tmp 48) (.tmp 58) 39 rfl 3 j0 (.int .i64 0) 1 8 Tryz.underlying39 HJ.out.1 HJ.out.2.1 HJ.out.2.2.1 HJ.out.2.2.2 rfl (by decide) (some ⟨ab, off, none⟩) n n (((args.take n).map Int.ofNat).map (Value.int .i64)) (by simp [Act.eval]) (fun h => by cases h) (by have := HQ.out.2.2; simp; omega) (HA.out.alloc _).olds ⟨w3.heap.size, 0, none⟩ 1 1 [.int .i64 x3] (by simp [Act.eval]) rfl (World.news_of_block (heap_alloc_new _ _)) (one_int _) (by omega) (by unfold maxLen; omega) (by omega) ?_
      intro v4 w4 hrow hgr
      have HC4 := Lib.hid ((HC.out.alloc _).grown0 hgr)
      have HS4 := Lib.hid ((HS.out.alloc _).below ((Below.refl _ _).grown hgr (Nat.le_refl _) (fun k e => by cases e)))
      have HK4 := Lib.hid ((HK.out.alloc _).below ((Below.refl _ _).grown hgr (Nat.le_refl _) (fun k e => by cases e)))
      have hlen := HQ.out.2.2
      have HV : RowKit.Hid (LR w.heap.size w4 U3 v4 ((args.take n ++ [x3]).map Int.ofNat)) := ⟨by
        have := row_low (B' := w.heap.size) hrow (by have := HC.out.size; simp; omega)
        simpa [hlen] using this, fun k e => HC.out.p.zero (by have := (hrow.lt k e).1; simp at this; omega)⟩
      clear hlen hrow hgr
      refine hK.out _ _ (by exact ⟨HS4.out.cell 4 _ rfl, HS4.out.cell 5 _ rfl, HK4.out.cell 2 _ rfl⟩) (fun hH4 => ?_)
      clear hK K hH3
      (try simp only [Act.put, List.getElem_toArray, List.getElem_cons_succ, List.getElem_cons_zero, List.setIfInBounds_toArray, List.set_cons_zero, List.set_cons_succ])
      refine wpAnyH_take (i := 17) (v := ?_) rfl (by kernel_rfl) (by kernel_rfl) (by kernel_rfl) (fun _ _ _ h => h) (Or.inl ⟨by rfl, ?_⟩) hH4 ?_
      rotate_left
      · (intro wS hSw; (try dsimp only at hSw); go_simp; try with_reducible rfl)
      (try simp only [Act.put, List.getElem_toArray, List.getElem_cons_succ, List.getElem_cons_zero, List.setIfInBounds_toArray, List.set_cons_zero, List.set_cons_succ])
      refine wpAnyH_done (by kernel_rfl) ?_ _
      go_wp2_with fail
      go_ret
      have hlen := HQ.out.2.2
      exact TPost.good HR.out rfl ⟨⟨HV.out, by simp; omega⟩, by simp⟩ HC4.out.p HC4.out.f


end
end Go.Proofs.YtbchkldhnjahaaaGreatDoor
