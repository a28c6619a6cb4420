/- Part of the proof. Conditions: those of each theorem. -/
import Derived.WalkKit
import Derived.KernelRfl
import Derived.Deep.RegionHeld3
import Derived.Lib.Hide
import Derived.Deep.AppendLies
import Derived.Lib.Strings
set_option maxRecDepth 100000
set_option maxHeartbeats 40000000
namespace Go.Proofs
open Go Go.RowKit
theorem _root_.ξa : type_of% @AllReadyH.cons := @AllReadyH.cons
theorem _root_.ξb : type_of% @AllReadyH.nil := @AllReadyH.nil
theorem _root_.ξc : type_of% @And.intro := @And.intro
theorem _root_.ξd : type_of% @Array.getElem?_eq_some_iff := @Array.getElem?_eq_some_iff
theorem _root_.ξe : type_of% @Below.heap_alloc := @Below.heap_alloc
theorem _root_.ξf : type_of% @Below.refl := @Below.refl
theorem _root_.ξg : type_of% @Bool.and_eq_true := @Bool.and_eq_true
theorem _root_.ξh : type_of% @Bool.false_eq_true := @Bool.false_eq_true
theorem _root_.ξi : type_of% @Bool.not_eq_true := @Bool.not_eq_true
theorem _root_.ξj : type_of% @Bool.or_eq_true := @Bool.or_eq_true
theorem _root_.ξk : type_of% @Classical.byContradiction := @Classical.byContradiction
theorem _root_.ξl : type_of% @Except.error.injEq := @Except.error.injEq
theorem _root_.ξm : type_of% @Except.ok.injEq := @Except.ok.injEq
theorem _root_.ξn : type_of% @Lib.size_eq := @Lib.size_eq
theorem _root_.ξo : type_of% @List.append_assoc := @List.append_assoc
theorem _root_.ξp : type_of% @List.drop_eq_getElem_cons := @List.drop_eq_getElem_cons
theorem _root_.ξq : type_of% @List.eq_nil_of_length_eq_zero := @List.eq_nil_of_length_eq_zero
theorem _root_.ξr : type_of% @List.getD_eq_getElem?_getD := @List.getD_eq_getElem?_getD
theorem _root_.ξs : type_of% @List.getElem?_append_left := @List.getElem?_append_left
theorem _root_.ξt : type_of% @List.getElem?_append_right := @List.getElem?_append_right
theorem _root_.ξu : type_of% @List.getElem?_cons_succ := @List.getElem?_cons_succ
theorem _root_.ξv : type_of% @List.getElem?_cons_zero := @List.getElem?_cons_zero
theorem _root_.ξw : type_of% @List.getElem?_eq_getElem := @List.getElem?_eq_getElem
theorem _root_.ξx : type_of% @List.getElem?_eq_none := @List.getElem?_eq_none
theorem _root_.ξy : type_of% @List.getElem?_eq_none_iff := @List.getElem?_eq_none_iff
theorem _root_.ξz : type_of% @List.getElem?_eq_some_iff := @List.getElem?_eq_some_iff
theorem _root_.ξ0 : type_of% @List.getElem?_map := @List.getElem?_map
theorem _root_.ξ1 : type_of% @List.length_append := @List.length_append
theorem _root_.ξ2 : type_of% @List.length_cons := @List.length_cons
theorem _root_.ξ3 : type_of% @List.length_drop := @List.length_drop
theorem _root_.ξ4 : type_of% @List.length_map := @List.length_map
theorem _root_.ξ5 : type_of% @List.length_nil := @List.length_nil
theorem _root_.ξ6 : type_of% @List.length_pos_iff := @List.length_pos_iff
theorem _root_.ξ7 : type_of% @List.length_take := @List.length_take
theorem _root_.ξ8 : type_of% @List.map_append := @List.map_append
theorem _root_.ξ9 : type_of% @List.mem_append := @List.mem_append
theorem _root_.ξA : type_of% @List.mem_cons_of_mem := @List.mem_cons_of_mem
theorem _root_.ξB : type_of% @List.mem_of_getElem? := @List.mem_of_getElem?
theorem _root_.ξC : type_of% @List.mem_singleton := @List.mem_singleton
theorem _root_.ξF : type_of% @Nat.le_refl := @Nat.le_refl
theorem _root_.ξG : type_of% @Nat.le_trans := @Nat.le_trans
theorem _root_.ξH : type_of% @Nat.lt_of_lt_of_le := @Nat.lt_of_lt_of_le
theorem _root_.ξJ : type_of% @Nat.lt_succ_self := @Nat.lt_succ_self
theorem _root_.ξK : type_of% @Nat.min_eq_left := @Nat.min_eq_left
theorem _root_.ξM : type_of% @Nat.zero_le := @Nat.zero_le
theorem _root_.ξN : type_of% @Option.map_eq_some_iff := @Option.map_eq_some_iff
theorem _root_.ξO : type_of% @Option.some.injEq := @Option.some.injEq
theorem _root_.ξP : type_of% @Prod.mk.injEq := @Prod.mk.injEq
theorem _root_.ξQ : type_of% @True.intro := @True.intro
theorem _root_.ξR : type_of% @Value.slice.injEq := @Value.slice.injEq
theorem _root_.ξS : type_of% @World.block_lt_of_cell? := @World.block_lt_of_cell?
theorem _root_.ξT : type_of% @World.cell?_setCell_other := @World.cell?_setCell_other
theorem _root_.ξU : type_of% @World.cell?_setCell_same := @World.cell?_setCell_same
theorem _root_.ξV : type_of% @World.frozen?_setCell := @World.frozen?_setCell
theorem _root_.ξW : type_of% @World.news_of_block := @World.news_of_block
theorem _root_.ξX : type_of% @World.ownsRow_nil := @World.ownsRow_nil
theorem _root_.ξY : type_of% @beq_eq_false_iff_ne := @beq_eq_false_iff_ne
theorem _root_.ξZ : type_of% @beq_iff_eq := @beq_iff_eq
theorem _root_.ψa : type_of% @bne_iff_ne := @bne_iff_ne
theorem _root_.ψb : type_of% @bodyPost_ret := @bodyPost_ret
theorem _root_.ψc : type_of% @decide_eq_true_eq := @decide_eq_true_eq
theorem _root_.ψe : type_of% @heap_alloc_new := @heap_alloc_new
theorem _root_.ψf : type_of% @heap_setCell_other := @heap_setCell_other
theorem _root_.ψg : type_of% @heap_setCell_same := @heap_setCell_same
theorem _root_.ψh : type_of% @if_neg := @if_neg
theorem _root_.ψi : type_of% @if_pos := @if_pos
theorem _root_.ψj : type_of% @step_append_lies := @step_append_lies
theorem _root_.ψk : type_of% @wpAnyH_done := @wpAnyH_done
theorem _root_.ψl : type_of% @wpAnyH_ready := @wpAnyH_ready
theorem _root_.ψm : type_of% @wpList_append_lies := @wpList_append_lies
theorem _root_.ψn : type_of% @wp_region_held_drew := @wp_region_held_drew
end Go.Proofs
namespace Go.Proofs.YtbchkldhnjahaaaGreatDoor
open Go.RowKit
open Go.Proofs
theorem κ {p : Prop} (h : p) : RowKit.Hid p := h
theorem z0 (a : Act) (d : Tmp) (v : Value) : Act.put a (some d) v = { a with tmps := a.tmps.setIfInBounds d v } := rfl
theorem z1 : type_of% @List.getElem_toArray := @List.getElem_toArray
theorem z2 : type_of% @List.getElem_cons_succ := @List.getElem_cons_succ
theorem z3 : type_of% @List.getElem_cons_zero := @List.getElem_cons_zero
theorem z4 : type_of% @List.setIfInBounds_toArray := @List.setIfInBounds_toArray
theorem z5 : type_of% @List.set_cons_zero := @List.set_cons_zero
theorem z6 : type_of% @List.set_cons_succ := @List.set_cons_succ
section
variable {P : Program} {ops : Array Oper} {Q : Exit → Act → World → Prop} {md : Region.Mode} {S : World → Prop}
theorem tk {oi : Oper} {v : Value} {fuel : Nat} {listed : Array Bool} {a : Act} {w : World} (i : Nat) (hS : S w)
 (h : wpAnyH P md ops Q S fuel (listed.setIfInBounds i true) (a.put oi.dst v) w) (hi : ops[i]? = some oi := by rfl)
 (hs : Region.noSelect ops = true := by kernel_rfl) (hf : Region.free md ops listed i = true := by kernel_rfl) (hr : (Region.ready md ops listed).contains i = true := by kernel_rfl)
 (hQ : ∀ c a w, Q (.panic c) (a.put oi.dst v) w → Q (.panic c) a w := by exact fun _ _ _ h => h)
 (hw : Region.wanted oi (yielded ops a.tmps) = true := by rfl) (hy : ∀ w, S w → (execOp a.eval oi).run P w = .ok (.value v) w := by (intro wS hSw; (try dsimp only at hSw); go_simp; try with_reducible rfl)) : wpAnyH P md ops Q S (fuel + 1) listed a w :=
 wpAnyH_take hi hs hf hr hQ (.inl ⟨hw, hy⟩) hS h
theorem rk {o : Oper} {fuel : Nat} {listed : Array Bool} {a : Act} {w : World} (i : Nat)
 (h : ∀ K' : Act → World → Prop, Shut (∀ a w, S w → (S w → wpAnyH P md ops Q S fuel (listed.setIfInBounds i true) a w) → K' a w) → if Region.wanted o (yielded ops a.tmps) = true then Oper.wp P o a w K' Q else K' (a.put o.dst undef) w)
 (ho : ops[i]? = some o := by rfl) (hr : Region.ready md ops listed = [i] := by kernel_rfl) : wpAnyH P md ops Q S (fuel + 1) listed a w :=
 ψl hr (by simp) (ξa ho h ξb)
end
end Go.Proofs.YtbchkldhnjahaaaGreatDoor
