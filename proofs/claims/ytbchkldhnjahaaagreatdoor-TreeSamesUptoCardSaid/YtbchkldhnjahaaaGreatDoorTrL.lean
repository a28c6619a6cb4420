/- row: what the call returns, and what it leaves. Conditions: those of the theorem. -/
import Derived.Test.YtbchkldhnjahaaaGreatDoorTrK
import Derived.Deep.RegionHeld3
namespace Go.Proofs.YtbchkldhnjahaaaGreatDoor
open Go.RowKit Kiln
open Go.Proofs

section
variable {w0 : World} {tv : Value} {ts : List Tok} {b : Nat} {qs : List Nat} {w : World} {U : Rl} {st : PS} {L : Low}


theorem newKept {w w' : World} {o : Obj} (h : Below (w.alloc o).heap.size (w.alloc o) w') : w'.heap[w.heap.size]? = some o := (h.block _ (by simp)).trans (heap_alloc_new w o)
theorem newKeptD {w w' : World} {o : Obj} (h : Below (w.alloc o).drew.heap.size (w.alloc o).drew w') : w'.heap[w.heap.size]? = some o := (h.block _ (by show _ < (w.alloc o).heap.size; simp)).trans (heap_alloc_new w o)
theorem oldKept {w w' : World} {k : Nat} {o : Obj} (z : w.heap[k]? = some o) (h : Below w.heap.size w w') : w'.heap[k]? = some o := (h.block _ (Array.getElem?_eq_some_iff.1 z).1).trans z
theorem set6 {wr : World} {B : Nat} {T : TypeId} {a0 a1 a2 a3 a4 a5 : Value} (h : wr.heap[B]? = some (.cells #[a0, a1, a2, a3, a4, a5] T (0, 0))) (v0 v1 v2 v3 v4 v5 : Value) :
    ((((((wr.setCell ⟨B, 0, none⟩ v0).setCell ⟨B, 1, none⟩ v1).setCell ⟨B, 2, none⟩ v2).setCell ⟨B, 3, none⟩ v3).setCell ⟨B, 4, none⟩ v4).setCell ⟨B, 5, none⟩ v5).heap[B]? = some (.cells #[v0, v1, v2, v3, v4, v5] T (0, 0)) := by
  have h1 := heap_setCell_same wr B 0 _ T v0 h
  have h2 := heap_setCell_same _ B 1 _ T v1 h1
  have h3 := heap_setCell_same _ B 2 _ T v2 h2
  have h4 := heap_setCell_same _ B 3 _ T v3 h3
  have h5 := heap_setCell_same _ B 4 _ T v4 h4
  have h6 := heap_setCell_same _ B 5 _ T v5 h5
  exact h6
section
variable {wc : World} {Uc : Rl} {stc : PS}
theorem LR.setb {B : Nat} {v : Value} {l : List Int} (h : LR B wc Uc v l) (hc : Cur w0 tv ts b qs w U wc Uc stc) (i : Nat) (x : Value) : LR B (wc.setCell ⟨b, i, none⟩ x) Uc v l := h.step (hc.p.frame i x)
theorem LkR.setb {B : Nat} {v : Value} {l : List Link} (h : LkR B wc Uc v l) (hc : Cur w0 tv ts b qs w U wc Uc stc) (i : Nat) (x : Value) : LkR B (wc.setCell ⟨b, i, none⟩ x) Uc v l := h.step (hc.p.frame i x)
end
theorem ahead_t (x y : Link) (hp : TSt w0 tv ts b qs w U st) :
    Calls Tryz.prog 257 #[ptrV b, .agg #[.int .i64 x.fx.level, .bool x.fx.right, .bool x.fx.infx, str x.text, .int .i64 x.at_.1, .int .i64 x.at_.2], .agg #[.int .i64 y.fx.level, .bool y.fx.right, .bool y.fx.infx, str y.text, .int .i64 y.at_.1, .int .i64 y.at_.2]] w (TPost w0 tv ts b qs boolR (aheadM x y st) w U) :=
  (ahead_any x y w (st := st)).mono fun e w' h => by
    rcases h with ⟨z, hz, rfl, hb⟩ | ⟨hz, rfl, hb⟩
    · exact TPost.good hz rfl rfl (hp.below hb) ((Fr.refl w U).below hb)
    · exact TPost.bad hz rfl (hp.base.trans (hb.mono hp.base.size))
theorem Tryz.infoLink : (Tryz.prog.info? 217).map (fun i => (i.zero, i.size, i.bytes)) = some (some (.agg #[.int .i64 0, .bool false, .bool false, .string ⟨#[]⟩, .int .i64 0, .int .i64 0]), 6, 48) := by kernel_rfl
theorem one_link (x : Link) : ∀ u ∈ lkVals x, u.oneCell' = true := by simp [lkVals, Value.oneCell', str]
theorem low_one {l : List Link} {x : Link} : lkAll (l ++ [x]) = lkAll l ++ lkVals x := by rw [lkAll_app]; simp [lkAll]
theorem LR.drew {B : Nat} {wc : World} {Uc : Rl} {v : Value} {l : List Int} (h : LR B wc Uc v l) : LR B wc.drew Uc v l := h
theorem LkR.drew {B : Nat} {wc : World} {Uc : Rl} {v : Value} {l : List Link} (h : LkR B wc Uc v l) : LkR B wc.drew Uc v l := h
theorem rows_apart {w : World} {B B' n n' s s' : Nat} {e e' : TypeId} {v v' : Value} {xs xs' : List Value} (h : w.ownsRow B e s v n xs) (h' : w.ownsRow B' e' s' v' n' xs') (he : e ≠ e') : ∀ k, v.ownBlock = some k → v'.ownBlock ≠ some k := by
  intro k hk hk'
  rcases h.2 with ⟨rfl, _⟩ | ⟨g, cap, cur, rfl, _, hg, _⟩
  · cases hk
  rcases h'.2 with ⟨rfl, _⟩ | ⟨g', cap', cur', rfl, _, hg', _⟩
  · cases hk'
  simp only [Value.ownBlock, Option.some.injEq] at hk hk'
  subst hk; subst hk'
  rw [hg] at hg'
  simp only [Option.some.injEq, Obj.cells.injEq] at hg'
  exact he hg'.2.1
theorem LR.beside {B : Nat} {wc w2 : World} {Uc : Rl} {v v' : Value} {l : List Int} {l' : List Link} (h : LR B wc Uc v l) (h' : LkR B wc Uc v' l') (hg : wc.grownBy w2 v'.ownBlock) : LR B w2 Uc v l :=
  ⟨row_keep h.1 fun k e => hg.block k (h.lt k e).2 (fun e2 => rows_apart h.1 h'.1 (by decide) k e e2.symm), h.2⟩
theorem LkR.beside {B : Nat} {wc w2 : World} {Uc : Rl} {v v' : Value} {l : List Link} {l' : List Int} (h : LkR B wc Uc v l) (h' : LR B wc Uc v' l') (hg : wc.grownBy w2 v'.ownBlock) : LkR B w2 Uc v l :=
  ⟨row_keep h.1 fun k e => hg.block k (h.lt k e).2 (fun e2 => rows_apart h.1 h'.1 (by decide) k e e2.symm), h.2⟩
theorem Tryz.uLinks : Tryz.prog.underlying 215 = some (.slice 217) := by kernel_rfl
theorem nil_or_last {α : Type} (l : List α) : l = [] ∨ ∃ m x, l = m ++ [x] := by
  rcases List.eq_nil_or_concat l with h | ⟨m, x, h⟩
  · exact .inl h
  · exact .inr ⟨m, x, by rw [h, List.concat_eq_append]⟩
theorem LkR.sl {B : Nat} {w : World} {U : Rl} {v : Value} {l : List Link} (h : LkR B w U v l) : ∃ ao cap, v = .slice ao l.length cap := by
  rcases h.1.2 with ⟨h1, h0⟩ | ⟨g, cap, cur, hv, _, _, hle, _⟩
  · exact ⟨none, 0, by rw [h1, h0]⟩
  · exact ⟨_, _, hv⟩
theorem LR.low {B B' : Nat} {w : World} {U : Rl} {v : Value} {l : List Int} (h : LR B w U v l) (hB : B' ≤ B) : LR B' w U v l := ⟨row_low h.1 hB, h.2⟩

set_option maxRecDepth 100000 in
set_option maxHeartbeats 8000000 in
theorem row_any (HT : Tks w0 tv ts) (F : Nat) (operand : M Nat) (ex : Bool) (eg : ∀ (args : Array Value) (w : World), (callFunc F args).run Tryz.prog w = .ok (.enter F args) w) (hF : Ok w0 tv ts b F operand) (hp : TSt w0 tv ts b qs w U st) (hne : rowM ts operand ex st ≠ .error .out) :
    Calls Tryz.prog 211 #[ptrV b, .func (.func F) #[ptrV b] #[], .bool ex] w (TPost w0 tv ts b qs idR (rowM ts operand ex st) w U) := by
  obtain ⟨R, hR⟩ : ∃ R, rowM ts operand ex st = R := ⟨_, rfl⟩
  rw [hR] at hne ⊢
  have HNE := Lib.hid hne
  unfold rowM at hR
  have HR := Lib.hid hR.symm
  have HC := Lib.hid (Cur.start hp)
  clear hR hne hp
  go_enter Tryz.func211, Tryz.ntmps211
  go_wp2_with fail
  refine (hF _ _ _ _ HC.out.p (ne_of HR.out HNE.out)).mono ?_
  intro e w1 hq1
  rcases (HC.out).call hq1 HR.out with ⟨x1, st1, v1, U1, rfl, rfl, hc1, hf1, hr1⟩ | ⟨ln, cl, kd, rfl, hb1, hd1⟩
  rotate_left
  · clear hq1 hb1
    have HD := Lib.hid hd1; clear hd1
    go_wp2_with fail
    exact ⟨rfl, HD.out _⟩
  have HF1 := Lib.hid hf1
  clear HR HC hq1 hf1
  have HC := Lib.hid hc1
  have HR := Lib.hid hr1
  clear hc1 hr1
  clear HF1
  go_wp2_with fail
  have HL := Lib.hid (LR.lit (B := w.heap.size) (w := w1) (U := U1) [(x1 : Int)] #[.int .i64 x1] rfl HC.out.size (HC.out.p.zero (Nat.le_refl _)) (by unfold maxLen; simp))
  go_loopg [7, 8] (ts.length + 1) (fun g v7 v8 wr => ∃ args ops st' U', LR w.heap.size wr U' v7 (args.map Int.ofNat) ∧ args.length ≤ 1099511627776 ∧ args ≠ [] ∧ LkR w.heap.size wr U' v8 ops ∧ ops.length ≤ 1099511627776 ∧ Cur w0 tv ts b qs w U wr U' st' ∧ R = (rowL ts operand ex g args ops >>= fun p => foldM ex (p.2.length + 1) p.1 p.2 >>= fun args => pure (args.getD 0 0)) st')
  case atStart => exact ⟨[x1], [], st1, U1, HL.out, by simp, by simp, LkR.nil _ _ _, by simp, HC.out.alloc _, HR.out⟩
  case round =>
    clear HL HC HR
    obtain ⟨args, ops, st', U', hl, hll, hln, hk, hkl, hc, hr⟩ := hrel
    cases gk with
    | zero => exact absurd hr HNE.out
    | succ fu =>
      have HR := Lib.hid hr
      have HC := Lib.hid hc
      have HL := Lib.hid hl
      have HLL := Lib.hid (And.intro hll hln)
      have HK := Lib.hid hk
      have HKL := Lib.hid hkl
      clear hr hc hl hll hln hk hkl
      go_wp2_with fail
      refine (token_any HT HC.out.p 0 (by omega)).mono ?_
      rintro e w2 ⟨⟨pv, rfl, hs⟩, hb2⟩
      have hc2 := HC.out.below hb2
      have hl2 := HL.out.below hb2
      have hk2 := HK.out.below hb2
      clear HC HL HK hb2
      obtain ⟨t, ht⟩ : ∃ t, tokAt ts 0 st' = t := ⟨_, rfl⟩
      rw [ht] at hs ⊢
      have HTE := Lib.hid ht
      have HTS := Lib.hid (ht ▸ tokAt_siz HT 0 st')
      clear ht
      have HP := Lib.hid hs
      obtain ⟨a, cap, rfl, -⟩ := hs
      unfold tkV
      have HTK := Lib.hid (Loc.new hc2 #[.int .i64 t.kind, str t.text, .slice a t.path.length cap, .int .i64 t.line, .int .i64 t.col] 32)
      have HC := Lib.hid (hc2.alloc (.cells #[.int .i64 t.kind, str t.text, .slice a t.path.length cap, .int .i64 t.line, .int .i64 t.col] 32))
      have HL := Lib.hid (hl2.alloc (.cells #[.int .i64 t.kind, str t.text, .slice a t.path.length cap, .int .i64 t.line, .int .i64 t.col] 32))
      have HK := Lib.hid (hk2.alloc (.cells #[.int .i64 t.kind, str t.text, .slice a t.path.length cap, .int .i64 t.line, .int .i64 t.col] 32))
      clear hc2 hl2 hk2
      go_upto_region 4 with fail
      obtain ⟨wt, hwt⟩ : ∃ wt, w2.alloc (.cells #[.int .i64 t.kind, str t.text, .slice a t.path.length cap, .int .i64 t.line, .int .i64 t.col] 32) = wt := ⟨_, rfl⟩
      rw [hwt] at HTK HC HL HK ⊢
      clear hwt
      obtain ⟨Q, hQ⟩ : ∃ Q, isP ts 0 [61] st' = Q := ⟨_, rfl⟩
      obtain ⟨I, hI⟩ : ∃ I, infixP t st' = I := ⟨_, rfl⟩
      have HQ := Lib.hid hQ
      have HI := Lib.hid hI
      clear hQ hI
      go_cut [10] (fun v wx => v = .bool (ex && Q) ∧ Below wt.heap.size wt wx)
      case first =>
        have HIS := Lib.hid (is_any HT HC.out.p 0 (by omega) [61])
        rw [HQ.out] at HIS
        cases ex
        · go_wp2_with fail
          go_meet
          exact ⟨rfl, Below.refl _ _⟩
        · go_wp2_with fail
          refine HIS.out.mono ?_
          rintro e w3 ⟨rfl, hb3⟩
          have HB3 := Lib.hid hb3; clear hb3
          go_wp2_with fail
          go_meet
          exact ⟨rfl, HB3.out⟩
      case rest =>
        obtain ⟨rfl, hb⟩ := hcut
        have hc3 := HC.out.below hb
        have hl3 := HL.out.below hb
        have hk3 := HK.out.below hb
        have ht3 := HTK.out.below hb
        clear HC HL HK HTK hb
        have HC := Lib.hid hc3
        have HL := Lib.hid hl3
        have HK := Lib.hid hk3
        have HTK := Lib.hid ht3
        clear hc3 hl3 hk3 ht3
        obtain ⟨wq, hwq⟩ : ∃ wq, wc = wq := ⟨_, rfl⟩
        rw [hwq] at HTK HC HL HK ⊢
        clear hwq wc
        obtain ⟨E, hE⟩ : ∃ E, (ex && Q) = E := ⟨_, rfl⟩
        rw [hE]
        have HE := Lib.hid hE
        clear hE
        go_upto_region 5 with fail
        go_cut [30] (fun v wx => v = .bool (!(E || I)) ∧ Below wq.heap.size wq wx)
        case first =>
          have HIN := Lib.hid (infix_any HC.out.p t _ HP.out HTS.out)
          rw [HI.out] at HIN
          unfold tkV at HIN
          have c0 := HTK.out.cell 0 _ rfl
          have c1 := HTK.out.cell 1 _ rfl
          have c2 := HTK.out.cell 2 _ rfl
          have c3 := HTK.out.cell 3 _ rfl
          have c4 := HTK.out.cell 4 _ rfl
          cases E
          · go_wp2_with fail
            refine HIN.out.mono ?_
            rintro e w3 ⟨rfl, hb3⟩
            have HB3 := Lib.hid hb3; clear hb3
            go_wp2_with fail
            go_meet
            exact ⟨rfl, HB3.out⟩
          · go_wp2_with fail
            go_meet
            exact ⟨rfl, Below.refl _ _⟩
        case rest =>
          obtain ⟨rfl, hb⟩ := hcut
          have hc3 := HC.out.below hb
          have hl3 := HL.out.below hb
          have hk3 := HK.out.below hb
          have ht3 := HTK.out.below hb
          clear HC HL HK HTK hb
          have HC := Lib.hid hc3
          have HL := Lib.hid hl3
          have HK := Lib.hid hk3
          have HTK := Lib.hid ht3
          clear hc3 hl3 hk3 ht3
          obtain ⟨wz, hwz⟩ : ∃ wz, wc = wz := ⟨_, rfl⟩
          rw [hwz] at HTK HC HL HK ⊢
          clear hwz wc
          have hgo_ : goesOn ts ex st' = (E || I) := by rw [← HE.out, ← HQ.out, ← HI.out, ← HTE.out]; rfl
          rcases rowL_step HR.out with ⟨hgo, hr_⟩ | ⟨hgo, hr_⟩
          · rw [hgo_] at hgo
            rw [hgo]
            clear HR
            have HR := Lib.hid hr_
            clear hr_ hgo hgo_ HE HQ HI HTK HTE HTS HP
            obtain ⟨ao8, cap8, rfl⟩ := HK.out.sl
            have hkl_ := HKL.out
            go_wp2_with fail
            go_loopg [7, 12] (ops.length + 1) (fun g v7 v12 wr => ∃ args2 ops2 rest st2 U2, ops = ops2 ++ rest ∧ ops2.length < g ∧ v12 = .int .i64 ((ops2.length : Int) - 1) ∧ LR w.heap.size wr U2 v7 (args2.map Int.ofNat) ∧ args2.length ≤ 1099511627776 ∧ args2 ≠ [] ∧ LkR w.heap.size wr U2 (.slice ao8 ops.length cap8) ops ∧ Cur w0 tv ts b qs w U wr U2 st2 ∧ R = (foldM ex (ops2.length + 1) args2 ops2 >>= fun args => pure (args.getD 0 0)) st2)
            case atStart => 
              refine ⟨args, ops, [], st', U', by simp, Nat.lt_succ_self _, ?_, HL.out, HLL.out.1, HLL.out.2, HK.out, HC.out, HR.out⟩
              rfl
            case round =>
              clear HC HL HK HR HLL
              obtain ⟨args2, ops2, rest, st2, U2, hops, hlt, rfl, hl, hll, hln, hk, hc, hr⟩ := hrel
              rcases nil_or_last ops2 with rfl | ⟨ops3, o, rfl⟩
              · have HR := Lib.hid (foldM_nil hr)
                have HC := Lib.hid hc
                have hlp : 0 < args2.length := List.length_pos_iff.2 hln
                obtain ⟨y, hy⟩ : ∃ y, args2[0]? = some y := ⟨_, List.getElem?_eq_getElem hlp⟩
                rw [show args2.getD 0 0 = y by simp [List.getD, hy]] at HR
                obtain ⟨ab, off, cap2, rfl⟩ : ∃ ab off cap2, u7 = .slice (some ⟨ab, off, none⟩) args2.length cap2 := by
                  obtain ⟨ao, cap2, e, _⟩ := hl.arg.ints
                  rw [List.length_map] at e
                  subst e
                  obtain ⟨ab, off, rfl⟩ := hl.arg.addr hy
                  exact ⟨ab, off, cap2, rfl⟩
                have hcell := hl.arg.at hy
                rw [Nat.add_zero] at hcell
                have hlpi : (0 : Int) < (args2.length : Int) := by omega
                clear hc hr hk hlt hops hkl_
                go_wp2_with fail
                go_ret
                exact TPost.good HR.out rfl rfl HC.out.p HC.out.f
              · rw [show (ops3 ++ [o]).length + 1 = (ops3.length + 1) + 1 by simp] at hr
                have HR := Lib.hid (foldM_last hr)
                obtain ⟨fu2, rfl⟩ : ∃ fu2, gk = fu2 + 1 := ⟨gk - 1, by omega⟩
                have HC := Lib.hid hc
                have HL := Lib.hid hl
                have HK := Lib.hid hk
                have HLL := Lib.hid (And.intro hll hln)
                have hop : ops[ops3.length]? = some o := by rw [hops]; simp
                have hol : (ops3.length : Int) < (ops.length : Int) := by rw [hops]; simp; omega
                have HOP := Lib.hid (And.intro hops (And.intro hop hlt))
                obtain ⟨g8, cap9, he8, -⟩ := HK.out.form (by intro e; rw [e] at hop; simp at hop)
                simp only [Value.slice.injEq, true_and] at he8
                obtain ⟨rfl, rfl⟩ := he8
                have c0 := HK.out.at hop 0 _ rfl
                have c1 := HK.out.at hop 1 _ rfl
                have c2 := HK.out.at hop 2 _ rfl
                have c3 := HK.out.at hop 3 _ rfl
                have c4 := HK.out.at hop 4 _ rfl
                have c5 := HK.out.at hop 5 _ rfl
                rw [Nat.add_zero] at c0
                clear hr hc hl hk hll hln hops hop hlt
                rw [List.length_append, List.length_singleton]
                rw [show ((ops3.length + 1 : Nat) : Int) - 1 = (ops3.length : Int) by omega]
                have hz : (0 : Int) ≤ (ops3.length : Int) := by omega
                have HC0 := HC.out.size
                go_wp2_with fail
                refine (join_any HT o args2 ex _ HL.out.arg HLL.out.1 HC.out.p (ne_of HR.out HNE.out)).mono ?_
                intro e w9 hq9
                rcases (HC.out).call hq9 HR.out with ⟨x9, st9, v9, U9, rfl, hv9, hc9, hf9, hr9⟩ | ⟨ln, cl, kd, rfl, hb9, hd9⟩
                rotate_left
                · clear hq9 hb9
                  have HD := Lib.hid hd9; clear hd9
                  go_wp2_with fail
                  exact ⟨rfl, HD.out _⟩
                have h_ := HK.out.step hf9
                clear HK
                have HK := Lib.hid h_
                clear h_
                have HF9 := Lib.hid hf9
                clear HR HC hq9 hf9
                have HC := Lib.hid hc9
                have HR := Lib.hid hr9
                clear hc9 hr9
                clear HL HLL
                obtain ⟨⟨hl9, hll9⟩, hln9⟩ := hv9
                have HL9 := Lib.hid (hl9.low HC0)
                have hkl9 := HKL.out
                have hw9 : IntKind.i64.wrap ((ops3.length : Int) - 1) = (ops3.length : Int) - 1 := IntWalk.i64_in _ (by omega)
                go_wp2_with fail
                go_roundg fu2
                case measure => omega
                case rel =>
                  refine ⟨x9, ops3, o :: rest, st9, U9, ?_, ?_, rfl, HL9.out, hll9, hln9, HK.out, HC.out, HR.out⟩
                  · rw [HOP.out.1]; simp
                  · have := HOP.out.2.2; simp at this; omega
          · rw [hgo_] at hgo
            rw [hgo]
            clear HR
            have HR := Lib.hid hr_
            clear hr_ hgo hgo_
            obtain ⟨X, hX⟩ : ∃ X, lkOf ts st' = X := ⟨_, rfl⟩
            rw [hX] at HR
            have hXt : X.text = t.text := by rw [← hX, ← HTE.out]; rfl
            have hXf : fxV (lookP X.text st'.sc) = .agg #[.int .i64 X.fx.level, .bool X.fx.right, .bool X.fx.infx] := by rw [hXt, ← HTE.out, ← hX]; rfl
            have hXs : spotV (hereP ts st') = .agg #[.int .i64 X.at_.1, .int .i64 X.at_.2] := by rw [← hX]; rfl
            have hXl : X.text.length ≤ maxLen := hXt ▸ HTS.out
            have HTX : RowKit.Hid (wz.cell? ⟨w2.heap.size, 1, none⟩ = some (str X.text)) := hXt ▸ HTK.out.cell 1 _ rfl
            have HLK : RowKit.Hid (∀ W, Below wz.heap.size wz W → Calls Tryz.prog 215 #[qsV qs, str X.text] W fun e w' => e = .returned (.agg #[.int .i64 X.fx.level, .bool X.fx.right, .bool X.fx.infx]) ∧ Below wz.heap.size wz w' ∧ Below W.heap.size W w') := fun W hW => (look_at (HC.out.below hW).p X.text hXl).mono fun e w' h => ⟨hXf ▸ h.1, hW.trans (h.2.mono hW.size), h.2⟩
            have HHE : RowKit.Hid (∀ W, Below wz.heap.size wz W → Calls Tryz.prog 56 #[ptrV b] W fun e w' => e = .returned (.agg #[.int .i64 X.at_.1, .int .i64 X.at_.2]) ∧ Below wz.heap.size wz w' ∧ Below W.heap.size W w') := fun W hW => (here_any HT (HC.out.below hW).p).mono fun e w' h => ⟨hXs ▸ h.1, hW.trans (h.2.mono hW.size), h.2⟩
            have KS : RowKit.Hid (∀ W, Below wz.heap.size wz W → W.cell? ⟨b, 5, none⟩ = some (qsV qs) ∧ W.cell? ⟨w2.heap.size, 1, none⟩ = some (str X.text) ∧ Below wz.heap.size wz W) := fun W hW => by
              obtain ⟨nv_, dv_, -, -, -, -, -, c5_, -⟩ := (HC.out.below hW).p.reads
              exact ⟨c5_, (hW.cell (World.block_lt_of_cell? _ _ HTX.out)).trans HTX.out, hW⟩
            clear hX hXt hXf hXs hXl HTK HTE HTS HP HE HQ HI
            go_upto_region 6 with fail
            go_cut [11] (fun v wx => ∃ l, v = .pointer (some ⟨l, 0, none⟩) ∧ wz.heap.size ≤ l ∧ wx.heap[l]? = some (.cells #[.int .i64 X.fx.level, .bool X.fx.right, .bool X.fx.infx, str X.text, .int .i64 X.at_.1, .int .i64 X.at_.2] 217 (0, 0)) ∧ Below wz.heap.size wz wx)
            case first =>
              have k0 := KS.out _ (Below.refl _ _)
              go_wp2_with fail
              go_region_held3 (fun W => W.cell? ⟨b, 5, none⟩ = some (qsV qs) ∧ W.cell? ⟨w2.heap.size, 1, none⟩ = some (str X.text) ∧ Below wz.heap.size wz W) (first | (refine KS.out _ ?_; (repeat (first | with_reducible exact Below.refl _ _ | with_reducible refine bl_al ?_ _ | with_reducible refine bl_drN ?_ _ | with_reducible refine bl_dr ?_ | (with_reducible refine bl_set ?_ (by first | exact Nat.le_refl _ | omega | (simp; done) | (simp; omega)) _) | assumption)))) (first | (go_at_call 215; refine (HLK.out _ ?_).mono ?_; (repeat (first | with_reducible exact Below.refl _ _ | with_reducible refine bl_al ?_ _ | with_reducible refine bl_drN ?_ _ | with_reducible refine bl_dr ?_ | (with_reducible refine bl_set ?_ (by first | exact Nat.le_refl _ | omega | (simp; done) | (simp; omega)) _) | assumption)); rintro e w5 ⟨rfl, hb5, hW5⟩; have hs5 := hb5.size; (first | (have z5 := newKeptD hW5) | skip)) | (go_at_call 56; refine (HHE.out _ ?_).mono ?_; (repeat (first | with_reducible exact Below.refl _ _ | with_reducible refine bl_al ?_ _ | with_reducible refine bl_drN ?_ _ | with_reducible refine bl_dr ?_ | (with_reducible refine bl_set ?_ (by first | exact Nat.le_refl _ | omega | (simp; done) | (simp; omega)) _) | assumption)); rintro e w6 ⟨rfl, hb6, hW6⟩; have hs6 := hb6.size; (first | (have z6 := newKept hW6) | (have z6 := oldKept z5 hW6) | skip); (try (have y0 := cell3 z6 0 _ rfl; have y1 := cell3 z6 1 _ rfl; have y2 := cell3 z6 2 _ rfl; have y3 := cell3 z6 3 _ rfl; have y4 := cell3 z6 4 _ rfl; have y5 := cell3 z6 5 _ rfl; have yf := fun i => frozen_of_row w6 _ i _ _ z6))))
              · rename_i hHeld
                go_wp2_with fail
                go_meet
                exact ⟨_, rfl, hs6, heap_alloc_new w6 _, hHeld.2.2⟩
              · rename_i hHeld
                go_wp2_with fail
                go_meet
                exact ⟨_, rfl, hs5, set6 z6 _ _ _ _ _ _, hHeld.2.2⟩
              · rename_i hHeld
                go_wp2_with fail
                go_meet
                exact ⟨_, rfl, Nat.le_refl _, set6 z6 _ _ _ _ _ _, hHeld.2.2⟩
            case rest =>
              obtain ⟨lx, rfl, hlx, hlb, hb⟩ := hcut
              have hx3 : Loc _ U' lx #[.int .i64 X.fx.level, .bool X.fx.right, .bool X.fx.infx, str X.text, .int .i64 X.at_.1, .int .i64 X.at_.2] 217 := ⟨hlb, HC.out.p.zero hlx⟩
              have hc3 := HC.out.below hb
              have hl3 := HL.out.below hb
              have hk3 := HK.out.below hb
              clear HC HL HK HTX HLK HHE KS hb hlb hlx
              have HC := Lib.hid hc3
              have HL := Lib.hid hl3
              have HK := Lib.hid hk3
              have HX := Lib.hid hx3
              clear hc3 hl3 hk3 hx3
              obtain ⟨wy, hwy⟩ : ∃ wy, wc = wy := ⟨_, rfl⟩
              rw [hwy] at HX HC HL HK ⊢
              clear hwy wc
              obtain ⟨nv_, dv_, -, c1_, -, -, -, -, hf_⟩ := HC.out.p.reads
              have hf1_ := hf_ 1
              have hpos_ := HC.out.p.pos
              have hlen_ := HT.len
              clear hf_
              go_upto_block 2 with fail
              clear c1_ hf1_ hpos_ hlen_
              have hl3 := HL.out.setb HC.out 1 (.int .i64 ((st'.pos : Int) + (1 : Nat)))
              have hk3 := HK.out.setb HC.out 1 (.int .i64 ((st'.pos : Int) + (1 : Nat)))
              have hx3 := HX.out.setb HC.out (i := 1) (.int .i64 ((st'.pos : Int) + (1 : Nat)))
              have hk_ := HC.out.skip 1 HR.out HNE.out
              clear HC HR
              have HC := Lib.hid hk_.1
              have HR := Lib.hid hk_.2
              clear hk_
              clear HL HK HX
              have HL := Lib.hid hl3
              have HK := Lib.hid hk3
              have HX := Lib.hid hx3
              clear hl3 hk3 hx3
              go_cut [7, 8] (fun v7 v8 wx => ∃ args2 ops2 st2 U2, LR w.heap.size wx U2 v7 (args2.map Int.ofNat) ∧ args2.length ≤ 1099511627776 ∧ args2 ≠ [] ∧ LkR w.heap.size wx U2 v8 ops2 ∧ ops2.length ≤ 1099511627776 ∧ Loc wx U2 lx #[.int .i64 X.fx.level, .bool X.fx.right, .bool X.fx.infx, str X.text, .int .i64 X.at_.1, .int .i64 X.at_.2] 217 ∧ Cur w0 tv ts b qs w U wx U2 st2 ∧ R = (operand >>= fun i => roomM args2 >>= fun _ => roomM ops2 >>= fun _ => rowL ts operand ex fu (args2 ++ [i]) (ops2 ++ [X]) >>= fun p => foldM ex (p.2.length + 1) p.1 p.2 >>= fun args => pure (args.getD 0 0)) st2)
              case first =>
                go_wp2_with fail
                go_loopg [7, 8] (ops.length + 1) (fun g v7 v8 wr => ∃ args2 ops2 st2 U2, ops2.length < g ∧ LR w.heap.size wr U2 v7 (args2.map Int.ofNat) ∧ args2.length ≤ 1099511627776 ∧ args2 ≠ [] ∧ LkR w.heap.size wr U2 v8 ops2 ∧ ops2.length ≤ 1099511627776 ∧ Loc wr U2 lx #[.int .i64 X.fx.level, .bool X.fx.right, .bool X.fx.infx, str X.text, .int .i64 X.at_.1, .int .i64 X.at_.2] 217 ∧ Cur w0 tv ts b qs w U wr U2 st2 ∧ R = (popM X ex (ops2.length + 1) args2 ops2 >>= fun p => operand >>= fun i => roomM p.1 >>= fun _ => roomM p.2 >>= fun _ => rowL ts operand ex fu (p.1 ++ [i]) (p.2 ++ [X]) >>= fun p => foldM ex (p.2.length + 1) p.1 p.2 >>= fun args => pure (args.getD 0 0)) st2)
                case atStart => exact ⟨args, ops, _, U', Nat.lt_succ_self _, HL.out, HLL.out.1, HLL.out.2, HK.out, HKL.out, HX.out, HC.out, HR.out⟩
                case round =>
                  clear HC HL HK HX HR HLL HKL
                  obtain ⟨args2, ops2, st2, U2, hlt, hl, hll, hln, hk, hkl, hx, hc, hr⟩ := hrel
                  rcases nil_or_last ops2 with rfl | ⟨ops3, o, rfl⟩
                  · have hr := popM_nil hr
                    obtain ⟨ao8, cap8, rfl⟩ := hk.sl
                    go_wp2_with fail
                    go_quiet (fail)
                    go_wp2_with fail
                    go_meet
                    exact ⟨args2, [], st2, U2, hl, hll, hln, hk, hkl, hx, hc.drewN _, hr⟩
                  · rw [show (ops3 ++ [o]).length + 1 = (ops3.length + 1) + 1 by simp] at hr
                    have HR := Lib.hid (popM_last hr)
                    obtain ⟨fu2, rfl⟩ : ∃ fu2, gk = fu2 + 1 := ⟨gk - 1, by omega⟩
                    obtain ⟨g8, cap8, rfl, hle8⟩ := hk.form (by simp)
                    have hlt2 : ops3.length < fu2 := by simp at hlt; omega
                    obtain ⟨n, hn⟩ : ∃ n, ops3.length = n := ⟨_, rfl⟩
                    have hlen : (ops3 ++ [o]).length = n + 1 := by simp [hn]
                    rw [hlen] at hk hkl hle8 ⊢
                    have HOP := Lib.hid (show (ops3 ++ [o])[n]? = some o by rw [← hn]; simp)
                    have HC := Lib.hid hc
                    have HL := Lib.hid hl
                    have HK := Lib.hid hk
                    have HX := Lib.hid hx
                    have HN := Lib.hid (And.intro hn (And.intro hlt2 (And.intro hkl (And.intro hll (And.intro hln hlen)))))
                    clear hc hl hk hx hr hll hln hlt hlt2 hn hlen
                    have hw1 : IntKind.i64.wrap (n : Int) = n := IntWalk.i64_in _ (by omega)
                    have hw2 : IntKind.i64.wrap ((n : Int) + 1 - 1) = n := by rw [IntWalk.i64_in _ (by omega)]; omega
                    have hz : (0 : Int) ≤ (n : Int) := by omega
                    have hz1 : (n : Int) < (n : Int) + 1 := by omega
                    have hz2 : (0 : Int) < (n : Int) + 1 := by omega
                    have hnt : ((n : Int)).toNat = n := by omega
                    have hnc : (n : Int) ≤ (cap8 : Int) := by omega
                    have c0 := HK.out.at HOP.out 0 _ rfl
                    rw [Nat.add_zero] at c0
                    have c1 := HK.out.at HOP.out 1 _ rfl
                    have c2 := HK.out.at HOP.out 2 _ rfl
                    have c3 := HK.out.at HOP.out 3 _ rfl
                    have c4 := HK.out.at HOP.out 4 _ rfl
                    have c5 := HK.out.at HOP.out 5 _ rfl
                    have y0 := HX.out.cell 0 _ rfl
                    have y1 := HX.out.cell 1 _ rfl
                    have y2 := HX.out.cell 2 _ rfl
                    have y3 := HX.out.cell 3 _ rfl
                    have y4 := HX.out.cell 4 _ rfl
                    have y5 := HX.out.cell 5 _ rfl
                    go_wp2_with fail
                    refine wp_region_held_drew (S := (fun W => W.cell? ⟨g8, n * 6, none⟩ = some (.int .i64 o.fx.level) ∧ W.cell? ⟨g8, n * 6 + 1, none⟩ = some (.bool o.fx.right) ∧ W.cell? ⟨g8, n * 6 + 2, none⟩ = some (.bool o.fx.infx) ∧ W.cell? ⟨g8, n * 6 + 3, none⟩ = some (str o.text) ∧ W.cell? ⟨g8, n * 6 + 4, none⟩ = some (.int .i64 o.at_.1) ∧ W.cell? ⟨g8, n * 6 + 5, none⟩ = some (.int .i64 o.at_.2) ∧ W.cell? ⟨lx, 0, none⟩ = some (.int .i64 X.fx.level) ∧ W.cell? ⟨lx, 1, none⟩ = some (.bool X.fx.right) ∧ W.cell? ⟨lx, 2, none⟩ = some (.bool X.fx.infx) ∧ W.cell? ⟨lx, 3, none⟩ = some (str X.text) ∧ W.cell? ⟨lx, 4, none⟩ = some (.int .i64 X.at_.1) ∧ W.cell? ⟨lx, 5, none⟩ = some (.int .i64 X.at_.2))) (by kernel_rfl) (by exact ⟨c0, c1, c2, c3, c4, c5, y0, y1, y2, y3, y4, y5⟩) (fun hH0 => ?_)
                    refine wpAnyH_take (i := 0) (v := ?_) rfl (by kernel_rfl) (by kernel_rfl) (by kernel_rfl) (fun _ _ _ h => h) (Or.inl ⟨by rfl, ?_⟩) hH0 ?_
                    rotate_left
                    · (intro wS hSw; (try dsimp only at hSw); go_simp; try with_reducible rfl)
                    (try simp only [Act.put, List.getElem_toArray, List.getElem_cons_succ, List.getElem_cons_zero, List.setIfInBounds_toArray, List.set_cons_zero, List.set_cons_succ])
                    refine wpAnyH_take (i := 1) (v := ?_) rfl (by kernel_rfl) (by kernel_rfl) (by kernel_rfl) (fun _ _ _ h => h) (Or.inl ⟨by rfl, ?_⟩) hH0 ?_
                    rotate_left
                    · (intro wS hSw; (try dsimp only at hSw); go_simp; try with_reducible rfl)
                    (try simp only [Act.put, List.getElem_toArray, List.getElem_cons_succ, List.getElem_cons_zero, List.setIfInBounds_toArray, List.set_cons_zero, List.set_cons_succ])
                    refine wpAnyH_take (i := 2) (v := ?_) rfl (by kernel_rfl) (by kernel_rfl) (by kernel_rfl) (fun _ _ _ h => h) (Or.inl ⟨by rfl, ?_⟩) hH0 ?_
                    rotate_left
                    · (intro wS hSw; (try dsimp only at hSw); go_simp; try with_reducible rfl)
                    (try simp only [Act.put, List.getElem_toArray, List.getElem_cons_succ, List.getElem_cons_zero, List.setIfInBounds_toArray, List.set_cons_zero, List.set_cons_succ])
                    refine wpAnyH_take (i := 3) (v := ?_) rfl (by kernel_rfl) (by kernel_rfl) (by kernel_rfl) (fun _ _ _ h => h) (Or.inl ⟨by rfl, ?_⟩) hH0 ?_
                    rotate_left
                    · (intro wS hSw; (try dsimp only at hSw); go_simp; try with_reducible rfl)
                    (try simp only [Act.put, List.getElem_toArray, List.getElem_cons_succ, List.getElem_cons_zero, List.setIfInBounds_toArray, List.set_cons_zero, List.set_cons_succ])
                    refine wpAnyH_take (i := 4) (v := ?_) rfl (by kernel_rfl) (by kernel_rfl) (by kernel_rfl) (fun _ _ _ h => h) (Or.inl ⟨by rfl, ?_⟩) hH0 ?_
                    rotate_left
                    · (intro wS hSw; (try dsimp only at hSw); go_simp; try with_reducible rfl)
                    (try simp only [Act.put, List.getElem_toArray, List.getElem_cons_succ, List.getElem_cons_zero, List.setIfInBounds_toArray, List.set_cons_zero, List.set_cons_succ])
                    refine wpAnyH_take (i := 5) (v := ?_) rfl (by kernel_rfl) (by kernel_rfl) (by kernel_rfl) (fun _ _ _ h => h) (Or.inl ⟨by rfl, ?_⟩) hH0 ?_
                    rotate_left
                    · (intro wS hSw; (try dsimp only at hSw); go_simp; try with_reducible rfl)
                    (try simp only [Act.put, List.getElem_toArray, List.getElem_cons_succ, List.getElem_cons_zero, List.setIfInBounds_toArray, List.set_cons_zero, List.set_cons_succ])
                    refine wpAnyH_take (i := 6) (v := ?_) rfl (by kernel_rfl) (by kernel_rfl) (by kernel_rfl) (fun _ _ _ h => h) (Or.inl ⟨by rfl, ?_⟩) hH0 ?_
                    rotate_left
                    · (intro wS hSw; (try dsimp only at hSw); go_simp; try with_reducible rfl)
                    (try simp only [Act.put, List.getElem_toArray, List.getElem_cons_succ, List.getElem_cons_zero, List.setIfInBounds_toArray, List.set_cons_zero, List.set_cons_succ])
                    refine wpAnyH_take (i := 7) (v := ?_) rfl (by kernel_rfl) (by kernel_rfl) (by kernel_rfl) (fun _ _ _ h => h) (Or.inl ⟨by rfl, ?_⟩) hH0 ?_
                    rotate_left
                    · (intro wS hSw; (try dsimp only at hSw); go_simp; try with_reducible rfl)
                    (try simp only [Act.put, List.getElem_toArray, List.getElem_cons_succ, List.getElem_cons_zero, List.setIfInBounds_toArray, List.set_cons_zero, List.set_cons_succ])
                    refine wpAnyH_take (i := 8) (v := ?_) rfl (by kernel_rfl) (by kernel_rfl) (by kernel_rfl) (fun _ _ _ h => h) (Or.inl ⟨by rfl, ?_⟩) hH0 ?_
                    rotate_left
                    · (intro wS hSw; (try dsimp only at hSw); go_simp; try with_reducible rfl)
                    (try simp only [Act.put, List.getElem_toArray, List.getElem_cons_succ, List.getElem_cons_zero, List.setIfInBounds_toArray, List.set_cons_zero, List.set_cons_succ])
                    refine wpAnyH_take (i := 9) (v := ?_) rfl (by kernel_rfl) (by kernel_rfl) (by kernel_rfl) (fun _ _ _ h => h) (Or.inl ⟨by rfl, ?_⟩) hH0 ?_
                    rotate_left
                    · (intro wS hSw; (try dsimp only at hSw); go_simp; try with_reducible rfl)
                    (try simp only [Act.put, List.getElem_toArray, List.getElem_cons_succ, List.getElem_cons_zero, List.setIfInBounds_toArray, List.set_cons_zero, List.set_cons_succ])
                    refine wpAnyH_take (i := 10) (v := ?_) rfl (by kernel_rfl) (by kernel_rfl) (by kernel_rfl) (fun _ _ _ h => h) (Or.inl ⟨by rfl, ?_⟩) hH0 ?_
                    rotate_left
                    · (intro wS hSw; (try dsimp only at hSw); go_simp; try with_reducible rfl)
                    (try simp only [Act.put, List.getElem_toArray, List.getElem_cons_succ, List.getElem_cons_zero, List.setIfInBounds_toArray, List.set_cons_zero, List.set_cons_succ])
                    refine wpAnyH_take (i := 11) (v := ?_) rfl (by kernel_rfl) (by kernel_rfl) (by kernel_rfl) (fun _ _ _ h => h) (Or.inl ⟨by rfl, ?_⟩) hH0 ?_
                    rotate_left
                    · (intro wS hSw; (try dsimp only at hSw); go_simp; try with_reducible rfl)
                    (try simp only [Act.put, List.getElem_toArray, List.getElem_cons_succ, List.getElem_cons_zero, List.setIfInBounds_toArray, List.set_cons_zero, List.set_cons_succ])
                    refine wpAnyH_ready (rs := [12]) (by kernel_rfl) (by simp) (AllReadyH.cons rfl (fun K hK => ?_) AllReadyH.nil)
                    (try simp only [List.getElem_toArray, List.getElem_cons_succ, List.getElem_cons_zero])
                    go_simp
                    refine (ahead_t o X HC.out.p.drew).mono ?_
                    intro e w5 hq5
                    rcases (HC.out.drew).call hq5 HR.out with ⟨x5, st5, v5, U5, rfl, rfl, hc5, hf5, hr5⟩ | ⟨ln, cl, kd, rfl, hb5, hd5⟩
                    rotate_left
                    · clear hq5 hb5
                      have HD := Lib.hid hd5; clear hd5
                      go_wp2_with fail
                      exact ⟨rfl, HD.out _⟩
                    have h_ := HL.out.drew.step hf5
                    clear HL
                    have HL := Lib.hid h_
                    clear h_
                    have h_ := HK.out.drew.step hf5
                    clear HK
                    have HK := Lib.hid h_
                    clear h_
                    have h_ := HX.out.drew.step hf5
                    clear HX
                    have HX := Lib.hid h_
                    clear h_
                    have HF5 := Lib.hid hf5
                    clear HR HC hq5 hf5
                    have HC := Lib.hid hc5
                    have HR := Lib.hid hr5
                    clear hc5 hr5
                    go_wp2_with fail
                    refine hK.out _ _ (by exact ⟨Nat.add_zero (n * 6) ▸ HK.out.at HOP.out 0 _ rfl, HK.out.at HOP.out 1 _ rfl, HK.out.at HOP.out 2 _ rfl, HK.out.at HOP.out 3 _ rfl, HK.out.at HOP.out 4 _ rfl, HK.out.at HOP.out 5 _ rfl, HX.out.cell 0 _ rfl, HX.out.cell 1 _ rfl, HX.out.cell 2 _ rfl, HX.out.cell 3 _ rfl, HX.out.cell 4 _ rfl, HX.out.cell 5 _ rfl⟩) (fun hH1 => ?_)
                    clear hK K hH0
                    (try simp only [Act.put, List.getElem_toArray, List.getElem_cons_succ, List.getElem_cons_zero, List.setIfInBounds_toArray, List.set_cons_zero, List.set_cons_succ])
                    refine wpAnyH_take (i := 13) (v := ?_) rfl (by kernel_rfl) (by kernel_rfl) (by kernel_rfl) (fun _ _ _ h => h) (Or.inl ⟨by rfl, ?_⟩) hH1 ?_
                    rotate_left
                    · (intro wS hSw; (try dsimp only at hSw); go_simp; try with_reducible rfl)
                    (try simp only [Act.put, List.getElem_toArray, List.getElem_cons_succ, List.getElem_cons_zero, List.setIfInBounds_toArray, List.set_cons_zero, List.set_cons_succ])
                    refine wpAnyH_done (by kernel_rfl) ?_ _
                    clear c0 c1 c2 c3 c4 c5 y0 y1 y2 y3 y4 y5
                    cases x5
                    · have hr_ := HR.out
                      simp only [Bool.false_eq_true, ↓reduceIte] at hr_
                      clear HR
                      have HR := Lib.hid hr_
                      clear hr_
                      go_wp2_with fail
                      go_meet
                      exact ⟨args2, ops3 ++ [o], st5, U5, HL.out, HN.out.2.2.2.1, HN.out.2.2.2.2.1, HK.out, by rw [HN.out.2.2.2.2.2]; exact HN.out.2.2.1, HX.out, HC.out, HR.out⟩
                    · have hr_ := HR.out
                      simp only [Bool.false_eq_true, ↓reduceIte] at hr_
                      clear HR
                      have HR := Lib.hid hr_
                      clear hr_
                      have c0 := HK.out.at HOP.out 0 _ rfl
                      rw [Nat.add_zero] at c0
                      have c1 := HK.out.at HOP.out 1 _ rfl
                      have c2 := HK.out.at HOP.out 2 _ rfl
                      have c3 := HK.out.at HOP.out 3 _ rfl
                      have c4 := HK.out.at HOP.out 4 _ rfl
                      have c5 := HK.out.at HOP.out 5 _ rfl
                      go_wp2_with fail
                      have HS5 := HC.out.size
                      refine (join_any HT o args2 ex _ HL.out.arg HN.out.2.2.2.1 HC.out.p (ne_of HR.out HNE.out)).mono ?_
                      intro e w9 hq9
                      rcases (HC.out).call hq9 HR.out with ⟨x9, st9, v9, U9, rfl, hv9, hc9, hf9, hr9⟩ | ⟨ln, cl, kd, rfl, hb9, hd9⟩
                      rotate_left
                      · clear hq9 hb9
                        have HD := Lib.hid hd9; clear hd9
                        go_wp2_with fail
                        exact ⟨rfl, HD.out _⟩
                      have h_ := HK.out.step hf9
                      clear HK
                      have HK := Lib.hid h_
                      clear h_
                      have h_ := HX.out.step hf9
                      clear HX
                      have HX := Lib.hid h_
                      clear h_
                      have HF9 := Lib.hid hf9
                      clear HR HC hq9 hf9
                      have HC := Lib.hid hc9
                      have HR := Lib.hid hr9
                      clear hc9 hr9
                      clear HL c0 c1 c2 c3 c4 c5
                      obtain ⟨⟨hl9, hll9⟩, hln9⟩ := hv9
                      have HL9 := Lib.hid (hl9.low HS5)
                      go_wp2_with fail
                      go_roundg fu2
                      case measure => omega
                      case rel =>
                        refine ⟨x9, ops3, st9, U9, HN.out.2.1, HL9.out, hll9, hln9, ?_, ?_, HX.out, HC.out, HR.out⟩
                        · have h_ := HK.out.cut
                          rw [HN.out.1] at h_
                          exact h_
                        · have h1_ := HN.out.1
                          have h2_ := HN.out.2.2.1
                          omega
              case rest =>
                clear HC HL HK HX HR HLL HKL
                obtain ⟨args2, ops2, st2, U2, hl, hll, hln, hk, hkl, hx, hc, hr⟩ := hcut
                have HC := Lib.hid hc
                have HL := Lib.hid hl
                have HK := Lib.hid hk
                have HX := Lib.hid hx
                have HR := Lib.hid hr
                have HLL := Lib.hid (And.intro hll (And.intro hln hkl))
                clear hc hl hk hx hr hll hln hkl
                obtain ⟨wv, hwv⟩ : ∃ wv, wc = wv := ⟨_, rfl⟩
                rw [hwv] at HX HC HL HK ⊢
                clear hwv wc
                have x0 := HX.out.cell 0 _ rfl
                have x1_ := HX.out.cell 1 _ rfl
                have x2_ := HX.out.cell 2 _ rfl
                have x3_ := HX.out.cell 3 _ rfl
                have x4_ := HX.out.cell 4 _ rfl
                have x5_ := HX.out.cell 5 _ rfl
                obtain ⟨j0, hj, hj0, hj1, hj2⟩ := info_parts Tryz.infoLink
                have HJ := Lib.hid (And.intro hj (And.intro hj0 (And.intro hj1 hj2)))
                clear hj hj0 hj1 hj2
                have hbs := HC.out.size
                have hkl := HLL.out.2.2
                go_wp2_with (first | (at_builtin; refine wpList_append_lies _ rfl (.tmp 79) (.tmp 81) 215 rfl w.heap.size 217 j0 _ 6 48 Tryz.uLinks HJ.out.1 HJ.out.2.1 HJ.out.2.2.1 HJ.out.2.2.2 rfl (by decide) _ ops2.length _ rfl (HK.out.1.alloc _) ⟨wv.heap.size, 0, none⟩ 1 1 (lkVals X) rfl rfl (World.news_of_block (heap_alloc_new _ _)) (one_link X) (by decide) (by unfold maxLen; omega) (by omega) (by simp; omega) _ rfl ?_; intro g2 cap2 w5 hrow2 hgr2 hgb2 hgl2))
                have hpu := (HC.out.alloc _).push (n := ops2.length + 1) (cap := cap2) (fun k e => (HK.out.lt k e).1) HK.out.2 (Nat.le_refl _) hgr2 hgb2
                have hl5 := (HL.out.step ((Fr.refl wv U2).alloc _)).beside (HK.out.alloc _) hgr2
                have hk5 : LkR w.heap.size w5 U2 (.slice (some ⟨g2, 0, none⟩) (ops2.length + 1) cap2) (ops2 ++ [X]) := ⟨by
                  rw [low_one, List.length_append, List.length_singleton]; exact hrow2, hpu.2⟩
                clear hrow2 hgr2 hgb2 hgl2 HC HL HK HX hbs HJ x0 x1_ x2_ x3_ x4_ x5_
                have HC := Lib.hid hpu.1
                have HL := Lib.hid hl5
                have HK := Lib.hid hk5
                clear hpu hl5 hk5
                refine (hF _ _ _ _ HC.out.p (ne_of HR.out HNE.out)).mono ?_
                intro e w6 hq6
                rcases (HC.out).call hq6 HR.out with ⟨x6, st6, v6, U6, rfl, rfl, hc6, hf6, hr6⟩ | ⟨ln, cl, kd, rfl, hb6, hd6⟩
                rotate_left
                · clear hq6 hb6
                  have HD := Lib.hid hd6; clear hd6
                  go_wp2_with fail
                  exact ⟨rfl, HD.out _⟩
                have h_ := HL.out.step hf6
                clear HL
                have HL := Lib.hid h_
                clear h_
                have h_ := HK.out.step hf6
                clear HK
                have HK := Lib.hid h_
                clear h_
                have HF6 := Lib.hid hf6
                clear HR HC hq6 hf6
                have HC := Lib.hid hc6
                have HR := Lib.hid hr6
                clear hc6 hr6
                clear HF6
                have hroom_ := room_step HR.out HNE.out
                have hroom := hroom_.1
                have hr_ := hroom_.2
                clear HR
                have HR := Lib.hid hr_
                clear hr_
                clear hroom_
                have hroom2_ := room_step HR.out HNE.out
                have hroom2 := hroom2_.1
                have hr_ := hroom2_.2
                clear HR
                have HR := Lib.hid hr_
                clear hr_
                clear hroom2_
                obtain ⟨j0, hj, hj0, hj1, hj2⟩ := info_parts Tryz.infoInt
                have HJ := Lib.hid (And.intro hj (And.intro hj0 (And.intro hj1 hj2)))
                clear hj hj0 hj1 hj2
                have hbs := HC.out.size
                go_wp2_with (first | (at_builtin; refine wpList_append_lies _ rfl (.tmp 83) (.tmp 86) 39 rfl w.heap.size 3 j0 (.int .i64 0) 1 8 Tryz.underlying39 HJ.out.1 HJ.out.2.1 HJ.out.2.2.1 HJ.out.2.2.2 rfl (by decide) _ (args2.map Int.ofNat).length _ rfl (HL.out.1.alloc _) ⟨w6.heap.size, 0, none⟩ 1 1 [.int .i64 x6] rfl rfl (World.news_of_block (heap_alloc_new _ _)) (one_int _) (by decide) (by simp; unfold maxLen; omega) (by simp; omega) (by simp; omega) _ rfl ?_; intro g3 cap3 w7 hrow3 hgr3 hgb3 hgl3))
                have hpu := (HC.out.alloc _).push (n := args2.length + 1) (cap := cap3) (fun k e => (HL.out.lt k e).1) HL.out.2 (Nat.le_refl _) hgr3 hgb3
                have hk7 := (HK.out.alloc _).beside (HL.out.step ((Fr.refl w6 U6).alloc _)) hgr3
                have HL7 : RowKit.Hid (LR w.heap.size w7 U6 (.slice (some ⟨g3, 0, none⟩) (args2.length + 1) cap3) ((args2 ++ [x6]).map Int.ofNat)) := ⟨by simpa using hrow3, hpu.2⟩
                go_roundg fu
                case measure => omega
                case rel => exact ⟨args2 ++ [x6], ops2 ++ [X], _, U6, HL7.out, by simp; omega, by simp, hk7, by simp; omega, hpu.1, HR.out⟩


end
end Go.Proofs.YtbchkldhnjahaaaGreatDoor
