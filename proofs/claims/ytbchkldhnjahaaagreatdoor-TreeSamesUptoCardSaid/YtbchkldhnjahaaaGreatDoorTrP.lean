/- The parser's put: what the call returns, and what it leaves. Conditions: those of each theorem. -/
import Derived.Test.YtbchkldhnjahaaaGreatDoorTrB
import Derived.Deep.AppendLies
import Derived.Deep.RegionLaw
namespace Go.Proofs.YtbchkldhnjahaaaGreatDoor
open Go.RowKit Kiln
open Go.Proofs

theorem Tryz.infoNode : (Tryz.prog.info? 41).map (fun i => (i.zero, i.size, i.bytes)) = some (some (.agg #[.int .i64 0, .string ⟨#[]⟩, .slice none 0 0, .slice none 0 0, .int .i64 0, .int .i64 0]), 6, 88) := by kernel_rfl
theorem Tryz.infoInt : (Tryz.prog.info? 3).map (fun i => (i.zero, i.size, i.bytes)) = some (some (.int .i64 0), 1, 8) := by kernel_rfl

section
variable {w0 : World} {tv : Value} {ts : List Tok} {b : Nat} {qs : List Nat} {w : World} {U : Rl} {st : PS} {nv dv : Value} {xs : List Value}

/-- a node is put in -/
theorem TSm.addNode (h : TSm w0 tv ts b qs w U st nv dv xs) {n : Nd} {pv kv : Value} {g cap : Nat} {w2 : World} (hpv : Strs w pv n.path) (ip : Im U pv 4) (hkv : Ints w kv n.kids) (ik : Im U kv 4) (hlt : st.nodes.length < 262144)
    (hrow : w2.ownsRow w0.heap.size 41 6 (.slice (some ⟨g, 0, none⟩) (st.nodes.length + 1) cap) (st.nodes.length + 1) (xs ++ ndVals n pv kv)) (hg : w.grownBy w2 nv.ownBlock) (hgb : nv.ownBlock = some g ∨ w.heap.size ≤ g) (hgl : g < w2.heap.size) :
    TSm w0 tv ts b qs (w2.setCell ⟨b, 2, none⟩ (.slice (some ⟨g, 0, none⟩) (st.nodes.length + 1) cap)) (U.set g 2) { st with nodes := st.nodes ++ [n] } (.slice (some ⟨g, 0, none⟩) (st.nodes.length + 1) cap) dv (xs ++ ndVals n pv kv) := by
  have hub := h.ub
  have hbb := h.hi b (by rw [hub]; decide)
  have hsz := hg.size
  have hnb : nv.ownBlock ≠ some b := fun e => by have := h.nim b e; omega
  have hg2 : U g = 2 ∨ w.heap.size ≤ g := hgb.imp (fun e => h.nim g e) id
  have hU : ∀ i, U i ≠ 0 → U i ≠ 2 → U.set g 2 i = U i := fun i h0 h2 => Rl.set_other (by
    rintro rfl
    rcases hg2 with h3 | h3
    · exact h2 h3
    · have := (h.hi _ h0).2; omega)
  have hgw : w0.heap.size ≤ g := by
    rcases hg2 with h3 | h3
    · exact (h.hi g (by rw [h3]; decide)).1
    · have := h.base.size; omega
  have hk : ∀ i, U i ≠ 0 → U i ≠ 2 → i ≠ b → (w2.setCell ⟨b, 2, none⟩ (.slice (some ⟨g, 0, none⟩) (st.nodes.length + 1) cap)).heap[i]? = w.heap[i]? := fun i h0 h2 hb =>
    (heap_setCell_other w2 _ i _ hb).trans (hg.block i (h.hi i h0).2 fun e => h2 (h.nim i e.symm))
  have hgb' : g ≠ b := by
    rintro rfl
    rcases hg2 with h3 | h3 <;> omega
  refine ⟨(h.base.trans ((Below.refl _ w).grown hg h.base.size fun k e => (h.hi k (by rw [h.nim k e]; decide)).1)).setCell hbb.1 _, fun k hu => ?_, (hU b (by omega) (by omega)).trans hub, ?_, ?_, ?_, ?_, ?_, ?_, ?_, h.deep, h.pos, h.opn, by simp; omega, h.dle⟩
  · by_cases e : k = g
    · subst e; exact ⟨hgw, by simpa [World.setCell] using hgl⟩
    · rw [Rl.set_other e] at hu
      have := h.hi k hu
      exact ⟨this.1, by simp [World.setCell]; omega⟩
  · have h1 := heap_setCell_same w2 b 2 _ 76 (.slice (some ⟨g, 0, none⟩) (st.nodes.length + 1) cap) ((hg.block b hbb.2 (fun e => hnb e.symm)).trans h.blk)
    exact h1
  · simp only [List.length_append, List.length_cons, List.length_nil]
    exact row_keep hrow fun k e => by
      simp only [Value.ownBlock, Option.some.injEq] at e; subst e
      exact heap_setCell_other w2 _ _ _ hgb'
  · have hk4 : ∀ k, U k = 4 → (w2.setCell ⟨b, 2, none⟩ (.slice (some ⟨g, 0, none⟩) (st.nodes.length + 1) cap)).heap[k]? = w.heap[k]? ∧ U.set g 2 k = 4 := fun k e => ⟨hk k (by omega) (by omega) (by rintro rfl; omega), (hU k (by omega) (by omega)).trans e⟩
    exact (h.nds.keep hk4).snoc (hpv.stay fun k e => (hk4 k (ip k e)).1) (fun k e => (hk4 k (ip k e)).2) (hkv.keep fun k e => (hk4 k (ik k e)).1) (fun k e => (hk4 k (ik k e)).2)
  · intro k e
    simp only [Value.ownBlock, Option.some.injEq] at e; subst e
    exact Rl.set_same U _ 2
  · exact row_keep h.drow fun k e => hk k (by rw [h.dim k e]; decide) (by rw [h.dim k e]; decide) (by rintro rfl; have := h.dim _ e; omega)
  · exact fun k e => (hU k (by rw [h.dim k e]; decide) (by rw [h.dim k e]; decide)).trans (h.dim k e)
  · exact h.sc.keep fun k e _ => ⟨hk k (by omega) (by omega) (by rintro rfl; omega), hU k (by omega) (by omega)⟩

/-- its depth is put in -/
theorem TSm.addDeep (h : TSm w0 tv ts b qs w U st nv dv xs) {d : Nat} {g cap : Nat} {w2 : World} (hd : d ≤ 1000) (hlt : st.deep.length < 262144)
    (hrow : w2.ownsRow w0.heap.size 3 1 (.slice (some ⟨g, 0, none⟩) (st.deep.length + 1) cap) (st.deep.length + 1) (st.deep.map (fun d => Value.int .i64 (d : Nat)) ++ [.int .i64 (d : Nat)])) (hg : w.grownBy w2 dv.ownBlock) (hgb : dv.ownBlock = some g ∨ w.heap.size ≤ g) (hgl : g < w2.heap.size) :
    TSm w0 tv ts b qs (w2.setCell ⟨b, 3, none⟩ (.slice (some ⟨g, 0, none⟩) (st.deep.length + 1) cap)) (U.set g 3) { st with deep := st.deep ++ [d] } nv (.slice (some ⟨g, 0, none⟩) (st.deep.length + 1) cap) xs := by
  have hub := h.ub
  have hbb := h.hi b (by rw [hub]; decide)
  have hsz := hg.size
  have hnb : dv.ownBlock ≠ some b := fun e => by have := h.dim b e; omega
  have hg2 : U g = 3 ∨ w.heap.size ≤ g := hgb.imp (fun e => h.dim g e) id
  have hU : ∀ i, U i ≠ 0 → U i ≠ 3 → U.set g 3 i = U i := fun i h0 h2 => Rl.set_other (by
    rintro rfl
    rcases hg2 with h3 | h3
    · exact h2 h3
    · have := (h.hi _ h0).2; omega)
  have hgw : w0.heap.size ≤ g := by
    rcases hg2 with h3 | h3
    · exact (h.hi g (by rw [h3]; decide)).1
    · have := h.base.size; omega
  have hk : ∀ i, U i ≠ 0 → U i ≠ 3 → i ≠ b → (w2.setCell ⟨b, 3, none⟩ (.slice (some ⟨g, 0, none⟩) (st.deep.length + 1) cap)).heap[i]? = w.heap[i]? := fun i h0 h2 hb =>
    (heap_setCell_other w2 _ i _ hb).trans (hg.block i (h.hi i h0).2 fun e => h2 (h.dim i e.symm))
  have hgb' : g ≠ b := by
    rintro rfl
    rcases hg2 with h3 | h3 <;> omega
  refine ⟨(h.base.trans ((Below.refl _ w).grown hg h.base.size fun k e => (h.hi k (by rw [h.dim k e]; decide)).1)).setCell hbb.1 _, fun k hu => ?_, (hU b (by omega) (by omega)).trans hub, ?_, ?_, ?_, ?_, ?_, ?_, ?_, by simp; omega, h.pos, h.opn, h.many, ?_⟩
  · by_cases e : k = g
    · subst e; exact ⟨hgw, by simpa [World.setCell] using hgl⟩
    · rw [Rl.set_other e] at hu
      have := h.hi k hu
      exact ⟨this.1, by simp [World.setCell]; omega⟩
  · have h1 := heap_setCell_same w2 b 3 _ 76 (.slice (some ⟨g, 0, none⟩) (st.deep.length + 1) cap) ((hg.block b hbb.2 (fun e => hnb e.symm)).trans h.blk)
    exact h1
  · exact row_keep h.nrow fun k e => hk k (by rw [h.nim k e]; decide) (by rw [h.nim k e]; decide) (by rintro rfl; have := h.nim _ e; omega)
  · exact h.nds.keep fun k e => ⟨hk k (by omega) (by omega) (by rintro rfl; omega), (hU k (by omega) (by omega)).trans e⟩
  · exact fun k e => (hU k (by rw [h.nim k e]; decide) (by rw [h.nim k e]; decide)).trans (h.nim k e)
  · simp only [List.length_append, List.length_cons, List.length_nil, List.map_append, List.map_cons, List.map_nil]
    exact row_keep hrow fun k e => by
      simp only [Value.ownBlock, Option.some.injEq] at e; subst e
      exact heap_setCell_other w2 _ _ _ hgb'
  · intro k e
    simp only [Value.ownBlock, Option.some.injEq] at e; subst e
    exact Rl.set_same U _ 3
  · exact h.sc.keep fun k e _ => ⟨hk k (by omega) (by omega) (by rintro rfl; omega), hU k (by omega) (by omega)⟩
  · intro x hx
    rcases List.mem_append.1 hx with h1 | h1
    · exact h.dle x h1
    · simp at h1; omega

theorem grown_dr {X w2 : World} {row : Option Nat} (hg : X.drew.grownBy w2 row) : X.grownBy w2 row := ⟨hg.os, hg.tape, hg.output, hg.size, hg.block⟩
theorem TSm.nfar (h : TSm w0 tv ts b qs w U st nv dv xs) {W w2 : World} (hg : W.grownBy w2 nv.ownBlock) (hW : W.heap = w.heap) : w2.cell? ⟨b, 2, none⟩ = some nv ∧ w2.frozen? ⟨b, 2, none⟩ = false := by
  have hb := h.hi b (by rw [h.ub]; decide)
  have h1 := hg.block b (by rw [hW]; exact hb.2) (fun e => by have := h.nim b e.symm; have := h.ub; omega)
  rw [hW, h.blk] at h1
  exact ⟨by simp [World.cell?, h1], frozen_of_row w2 b 2 _ _ h1⟩
theorem TSm.dfar (h : TSm w0 tv ts b qs w U st nv dv xs) {W w2 : World} (hg : W.grownBy w2 dv.ownBlock) (hW : W.heap = w.heap) : w2.cell? ⟨b, 3, none⟩ = some dv ∧ w2.frozen? ⟨b, 3, none⟩ = false ∧ w2.cell? ⟨b, 2, none⟩ = some nv := by
  have hb := h.hi b (by rw [h.ub]; decide)
  have h1 := hg.block b (by rw [hW]; exact hb.2) (fun e => by have := h.dim b e.symm; have := h.ub; omega)
  rw [hW, h.blk] at h1
  exact ⟨by simp [World.cell?, h1], frozen_of_row w2 b 3 _ _ h1, by simp [World.cell?, h1]⟩

theorem deepOf_ge : ∀ (deep kids : List Nat) (d : Nat), d ≤ deepOf deep kids d
  | _, [], _ => Nat.le_refl _
  | _, _ :: l, _ => Nat.le_trans (Nat.le_max_left _ _) (deepOf_ge _ l _)

theorem ints_cell {w : World} {v : Value} {l : List Int} (h : Ints w v l) : ∃ a cap, v = .slice a l.length cap ∧ ∀ (i : Nat) x, l[i]? = some x → ∃ b off, a = some ⟨b, off, none⟩ ∧ w.cell? ⟨b, off + i, none⟩ = some (.int .i64 x) := by
  obtain ⟨a, cap, rfl, -, -, hl⟩ := h
  refine ⟨a, cap, rfl, fun i x hi => ?_⟩
  obtain ⟨b, off, rfl, hx⟩ := hl (by rintro rfl; simp at hi)
  exact ⟨b, off, rfl, hx i x hi⟩

theorem heap_new2 (w : World) (o1 o2 : Obj) : ((w.alloc o1).alloc o2).heap[w.heap.size + 1]? = some o2 := by
  have := heap_alloc_new (w.alloc o1) o2
  simpa using this
theorem one_nd (a b c : Int) (t : Bytes) (o : Option Addr) (n cap : Nat) : ∀ u ∈ [Value.int .i64 a, str t, .slice none 0 0, .slice o n cap, .int .i64 b, .int .i64 c], u.oneCell' = true := by
  intro u hu
  simp only [List.mem_cons, List.not_mem_nil, or_false] at hu
  rcases hu with rfl | rfl | rfl | rfl | rfl | rfl <;> rfl
theorem one_int (a : Int) : ∀ u ∈ [Value.int .i64 a], u.oneCell' = true := by
  intro u hu
  simp only [List.mem_cons, List.not_mem_nil, or_false] at hu
  subst hu; rfl

theorem row_form {w : World} {B n size : Nat} {e : TypeId} {v : Value} {ys : List Value} (h : w.ownsRow B e size v n ys) : ∃ a cap, v = .slice a n cap := by
  rcases id h.2 with ⟨rfl, h0⟩ | ⟨g, cap, cur, rfl, _⟩
  · exact ⟨none, 0, by rw [h0]⟩
  · exact ⟨_, _, rfl⟩

set_option maxRecDepth 100000 in
set_option maxHeartbeats 4000000 in
theorem put_any (hp : TSt w0 tv ts b qs w U st) (s : Int × Int) (k : Int) (text : Bytes) (kids : List Nat) (kv : Value) (hi : Ints w kv (kids.map Int.ofNat)) (im : Im U kv 4) (hkl : kids.length ≤ 2199023255552) (hne : putM s k text kids st ≠ .error .out) :
    Calls Tryz.prog 63 #[ptrV b, spotV s, .int .i64 k, str text, kv] w (TPost w0 tv ts b qs idR (putM s k text kids st) w U) := by
  obtain ⟨nv, dv, xs, hm⟩ := hp
  have HM := Lib.hid hm
  obtain ⟨ka, kcap, rfl, hkc⟩ := ints_cell hi
  rw [List.length_map] at hi im
  have HI := Lib.hid hi
  have HIM := Lib.hid im
  have HKC := Lib.hid hkc; clear hkc hi im
  simp only [List.length_map]
  obtain ⟨R, hR⟩ : ∃ R, putM s k text kids st = R := ⟨_, rfl⟩
  rw [hR] at hne ⊢
  unfold putM at hR
  by_cases hk : kids.any fun i => !(decide (i < st.nodes.length) && decide (i < st.deep.length))
  · rw [if_pos hk] at hR; exact absurd hR.symm hne
  rw [if_neg hk] at hR
  have HK : RowKit.Hid (∀ i ∈ kids, i < st.deep.length) := fun i hi => by
    simp only [List.any_eq_true, not_exists, not_and, Bool.not_eq_true, Bool.not_eq_false'] at hk
    have := hk i hi
    simp at this; omega
  clear hk
  have HNE := Lib.hid hne; clear hne
  obtain ⟨D, hD⟩ : ∃ D, deepOf st.deep kids 1 = D := ⟨_, rfl⟩
  rw [hD] at hR
  have HR := Lib.hid hR.symm; clear hR
  have HD := Lib.hid hD.symm; clear hD
  have hdl := hm.deep
  have hml := hm.many
  have c2 : w.cell? ⟨b, 2, none⟩ = some nv := by simp [World.cell?, hm.blk]
  have c3 : w.cell? ⟨b, 3, none⟩ = some dv := by simp [World.cell?, hm.blk]
  have d2 := cell_al c2
  have d3 := cell_al c3
  clear c2 c3 hm
  unfold spotV
  go_enter Tryz.func63, Tryz.ntmps63
  go_wp2_with fail
  go_loop [11, 16] (fun d i => ∃ n dn : Nat, i = .int .i64 n ∧ d = .int .i64 dn ∧ n ≤ kids.length ∧ dn ≤ 1001 ∧ D = deepOf st.deep (kids.drop n) dn) (fun _ i => kids.length - (intOf i).toNat)
  case atStart => exact ⟨0, 1, rfl, rfl, Nat.zero_le _, by omega, HD.out⟩
  case round =>
    obtain ⟨n, dn, rfl, rfl, hn, hdn, hd⟩ := hrel
    have HDN := Lib.hid hd; clear hd
    by_cases hlt : n < kids.length
    · obtain ⟨c, hc⟩ : ∃ c, kids[n]? = some c := ⟨_, List.getElem?_eq_getElem hlt⟩
      have hcd := HK.out c (List.mem_of_getElem? hc)
      obtain ⟨kb, koff, rfl, hkc⟩ := HKC.out n c (by simp [hc])
      have e1 := cell_al hkc
      obtain ⟨x, hx⟩ : ∃ x, st.deep[c]? = some x := ⟨_, List.getElem?_eq_getElem hcd⟩
      have hx1 := HM.out.dle x (List.mem_of_getElem? hx)
      rcases id HM.out.drow.2 with ⟨_, h0⟩ | ⟨g, cap, cur, rfl, _⟩
      · omega
      have hdc := HM.out.drow.cells (g := g) rfl c (.int .i64 (x : Nat)) (by simp [hx])
      rw [addr_add0] at hdc
      have e2 := cell_al hdc
      have HDN1 : RowKit.Hid (D = deepOf st.deep (kids.drop (n + 1)) (max dn (x + 1))) := by
        show _ = _
        rw [HDN.out, List.drop_eq_getElem_cons hlt]
        have : kids[n] = c := by rw [List.getElem?_eq_getElem hlt] at hc; simpa using hc
        rw [this]
        simp [deepOf, hx]
      have hni : (n : Int) < (kids.length : Int) := by omega
      have hci : (c : Int) < (st.deep.length : Int) := by omega
      clear hkc hdc hx hc HDN hlt HKC
      by_cases hmx : dn < x + 1
      · have hmi : max (dn : Int) ((x : Int) + 1) = (x : Int) + 1 := by omega
        rw [Nat.max_eq_right (by omega)] at HDN1
        clear hmx
        go_wp2_with fail
        go_round
        case rel => exact ⟨n + 1, x + 1, by go_num, by go_num, by omega, by omega, HDN1.out⟩
        case measure => simp [intOf]; omega
      · have hmi : max (dn : Int) ((x : Int) + 1) = dn := by omega
        rw [Nat.max_eq_left (by omega)] at HDN1
        clear hmx
        go_wp2_with fail
        go_round
        case rel => exact ⟨n + 1, dn, by go_num, rfl, by omega, by omega, HDN1.out⟩
        case measure => simp [intOf]; omega
    · have hni : ¬ (n : Int) < (kids.length : Int) := by omega
      have HDD : RowKit.Hid (D = dn) := by
        show _ = _
        rw [HDN.out, List.drop_of_length_le (by omega)]; rfl
      clear HDN hlt HK
      by_cases h1 : 1000 < dn
      · have hi1 : (1000 : Int) < (dn : Int) := by omega
        have HE : RowKit.Hid (R = .error (.stop s.1 s.2 52)) := HR.out.trans (if_pos (by rw [HDD.out]; exact h1))
        go_wp2_with fail
        refine (stop_any s 52 _).mono ?_
        rintro e w2 ⟨rfl, hb2⟩
        have HB2 := Lib.hid hb2; clear hb2
        go_wp2_with fail
        exact ⟨rfl, TPost.bad HE.out rfl (HM.out.base.trans ((((Below.refl _ w).alloc HM.out.base.size _)).trans (HB2.out.mono (by have := HM.out.base.size; simp; omega))))⟩
      · have hi1 : ¬ (1000 : Int) < (dn : Int) := by omega
        have HR1 := Lib.hid (HR.out.trans (if_neg (by rw [HDD.out]; exact h1)))
        clear HR
        by_cases h2 : 262144 ≤ st.nodes.length
        · have hi2 : (262144 : Int) ≤ (st.nodes.length : Int) := by omega
          have HE : RowKit.Hid (R = .error (.stop s.1 s.2 3)) := HR1.out.trans (if_pos h2)
          obtain ⟨na, ncap, hnv⟩ := row_form HM.out.nrow
          subst hnv
          go_wp2_with fail
          refine (stop_any s 3 _).mono ?_
          rintro e w2 ⟨rfl, hb2⟩
          have HB2 := Lib.hid hb2; clear hb2
          go_wp2_with fail
          exact ⟨rfl, TPost.bad HE.out rfl (HM.out.base.trans ((((Below.refl _ w).alloc HM.out.base.size _)).trans (HB2.out.mono (by have := HM.out.base.size; simp; omega))))⟩
        · have hi2 : ¬ (262144 : Int) ≤ (st.nodes.length : Int) := by omega
          have HR2 := Lib.hid (HR1.out.trans (if_neg h2))
          clear HR1
          by_cases h3 : 262144 ≤ st.deep.length
          · exact absurd (HR2.out.trans (if_pos h3)) HNE.out
          have HR3 := Lib.hid (HR2.out.trans (if_neg h3))
          clear HR2
          obtain ⟨na, ncap, hnv⟩ := row_form HM.out.nrow
          subst hnv
          obtain ⟨da, dcap, hdv⟩ := row_form HM.out.drow
          subst hdv
          obtain ⟨i0, hq, hq0, hq1, hq2⟩ := info_parts Tryz.infoNode
          obtain ⟨j0, hj, hj0, hj1, hj2⟩ := info_parts Tryz.infoInt
          have HQ := Lib.hid (And.intro hq (And.intro hq0 (And.intro hq1 hq2)))
          have HJ := Lib.hid (And.intro hj (And.intro hj0 (And.intro hj1 hj2)))
          clear hq hq0 hq1 hq2 hj hj0 hj1 hj2
          go_wp2_with fail
          have HN1 := Lib.hid (fun o1 o2 => ((HM.out.alloc o1).alloc o2))
          have d22 := fun o1 => cell_al (d2 o1)
          have hbs := HM.out.base.size
          have HI2 := Lib.hid (fun o1 o2 => HI.out.keep (w' := (w.alloc o1).alloc o2) (fun k e => ((Below.heap_alloc (w.alloc o1) o2 k (by simp; have := (HM.out.hi k (by rw [HIM.out k e]; decide)).2; omega)).trans (Below.heap_alloc w o1 k (HM.out.hi k (by rw [HIM.out k e]; decide)).2))))
          go_region_law ((refine step_append_lies _ rfl (.tmp 49) (.tmp 58) 33 rfl w0.heap.size 41 i0 (.agg #[.int .i64 0, .string ⟨#[]⟩, .slice none 0 0, .slice none 0 0, .int .i64 0, .int .i64 0]) 6 88 Tryz.underlying33 HQ.out.1 HQ.out.2.1 HQ.out.2.2.1 HQ.out.2.2.2 rfl (by decide) (.slice na st.nodes.length ncap) st.nodes.length xs (by simp [Act.eval]) (by exact (HN1.out _ _).nrow) ⟨w.heap.size + 1, 0, none⟩ 1 1 [.int .i64 k, str text, .slice none 0 0, .slice ka kids.length kcap, .int .i64 s.1, .int .i64 s.2] (by simp [Act.eval]) rfl (by exact World.news_of_block (heap_new2 _ _ _)) (one_nd _ _ _ _ _ _ _) (by decide) (by unfold maxLen; omega) (by omega) (by simp [World.drew]; omega) _ rfl ?_); intro g cap w2 hrow hgr hgb hgl; have hfar := (HN1.out _ _).nfar hgr rfl; have hfc := hfar.1; have hff := hfar.2; clear hfar)
          all_goals
            have HM2 := Lib.hid ((HN1.out _ _).addNode (n := ⟨k, text, [], kids.map Int.ofNat, s.1, s.2⟩) (pv := .slice none 0 0) (kv := .slice ka kids.length kcap) (Strs.nil _) (Im.nil U 4) (HI2.out _ _) HIM.out (by omega) hrow (grown_dr hgr) (hgb.imp id (fun e => by subst e; simp)) hgl)
            have HF2 := Lib.hid (((((Fr.refl w U).alloc _).alloc _).grown (grown_dr hgr) (fun k e => .inr (by rw [HM.out.nim k e]; decide))).setCell (p := ⟨b, 2, none⟩) (.inr (by rw [show U (⟨b, 2, none⟩ : Addr).block = 1 from HM.out.ub]; decide)) (.slice (some ⟨g, 0, none⟩) (st.nodes.length + 1) cap) |>.set (k := g) (r := 2) (by rcases hgb with e | e; exact .inr (by rw [HM.out.nim _ e]; decide); exact .inl (by rw [e]; simp [World.drew]; omega)))
            have HD2 : RowKit.Hid (∀ k, (Value.slice da st.deep.length dcap).ownBlock = some k → U k ≠ 0) := fun k e => by rw [HM.out.dim k e]; decide
            clear hrow hgr hgb hgl hfc hff
            obtain ⟨W2, hW2⟩ : ∃ W, w2.setCell ⟨b, 2, none⟩ (.slice (some ⟨g, 0, none⟩) (st.nodes.length + 1) cap) = W := ⟨_, rfl⟩
            rw [hW2] at HM2 HF2 ⊢
            clear hW2
            have c3 : W2.cell? ⟨b, 3, none⟩ = some (.slice da st.deep.length dcap) := by simp [World.cell?, HM2.out.blk]
            have HM3 := Lib.hid (fun o => HM2.out.alloc o)
            have hbs2 := HM2.out.base.size
            go_wp2_with (first | (at_builtin; refine wpList_append_lies _ rfl (.tmp 66) (.tmp 68) 39 rfl w0.heap.size 3 j0 (.int .i64 0) 1 8 Tryz.underlying39 HJ.out.1 HJ.out.2.1 HJ.out.2.2.1 HJ.out.2.2.2 rfl (by decide) (.slice da st.deep.length dcap) st.deep.length _ rfl (HM3.out _).drow ⟨W2.heap.size, 0, none⟩ 1 1 [.int .i64 dn] rfl rfl (World.news_of_block (heap_alloc_new _ _)) (one_int _) (by decide) (by unfold maxLen; omega) (by omega) (by simp; omega) _ rfl ?_; intro g2 cap2 w5 hrow2 hgr2 hgb2 hgl2; have hfar := (HM3.out _).dfar hgr2 rfl; have hfc := hfar.1; have hff := hfar.2.1; have hfn := hfar.2.2; clear hfar))
            go_ret
            have HR4 := HR3.out
            rw [HDD.out] at HR4
            have hm4 := (HM3.out _).addDeep (d := dn) (by omega) (by show st.deep.length < _; omega) hrow2 hgr2 (hgb2.imp id (fun e => by rw [e]; exact Nat.le_refl _)) hgl2
            refine TPost.good HR4 rfl (show _ = _ by simp) ⟨_, _, _, hm4⟩ ((((HF2.out.alloc _).grown hgr2 (fun k e => .inr (HD2.out k e))).setCell (p := ⟨b, 3, none⟩) (.inr (by rw [show U (⟨b, 3, none⟩ : Addr).block = 1 from HM.out.ub]; decide)) _).set (k := g2) (r := 3) ?_)
            rcases hgb2 with e | e
            · exact .inr (HD2.out _ e)
            · exact .inl (by rw [e]; have := HF2.out.size; simp; omega)

end
end Go.Proofs.YtbchkldhnjahaaaGreatDoor
