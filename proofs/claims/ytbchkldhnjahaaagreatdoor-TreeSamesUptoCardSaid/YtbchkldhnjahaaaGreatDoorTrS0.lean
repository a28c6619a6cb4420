/- Parse's deferred function: what it makes of a fault, and of none. Conditions: those of each theorem. -/
import Derived.Test.YtbchkldhnjahaaaGreatDoorLexEsc
import Derived.WalkKit
import Derived.Defers
import Derived.Recover
namespace Go.Proofs.YtbchkldhnjahaaaGreatDoor
open Go.RowKit
open Go.Proofs

set_option maxRecDepth 100000 in
set_option maxHeartbeats 1000000 in
theorem idle_any (p1 p2 p3 p4 p5 : Addr) (w : World) :
    CallsD Tryz.prog 29 #[.pointer (some p1), .pointer (some p2), .pointer (some p3), .pointer (some p4), .pointer (some p5)] .returning w fun e u' w' => e = .returned (.tuple #[]) ∧ u' = .returning ∧ w' = w := by
  have q1 : ∀ (w : World), (binOp .eql 20 .nilIface .nilIface).run Tryz.prog w = .ok (.bool true) w := fun _ => by kernel_rfl
  refine callsD_of_wpS Tryz.func29 rfl fun c₀ cs hu => ?_
  simp only [Tryz.ntmps29, List.size_toArray, List.length_cons, List.length_nil, Nat.reduceAdd, Nat.reduceSub, Array.replicate_succ, Array.replicate_zero, List.push_toArray, List.append_toArray, List.nil_append, List.cons_append]
  apply wpS_seq
  apply wpS_region
  simp [wpOpsS, go_sem, recoverD, hu, Exit.thenS]
  refine wpS_of_wp (wp_mono (Q := fun e a' w' => e = .ret ∧ a'.defers = [] ∧ w' = w) ?_ ?_)
  · clear hu
    go_wp2_with fail
  · rintro e a' w' ⟨rfl, hd, rfl⟩
    cases c₀
    simp_all [bodyPostS, results, Tryz.results29]

set_option maxRecDepth 100000 in
set_option maxHeartbeats 2000000 in
theorem catch_any (B b : Nat) (l c k : Int) (x1 x2 x3 x4 x5 : Value) (older : List PanicEntry) (w : World) (hB : B ≤ b) (hbw : b + 4 < w.heap.size) (h1 : w.cell? ⟨b, 0, none⟩ = some x1) (h2 : w.cell? ⟨b + 1, 0, none⟩ = some x2) (h3 : w.cell? ⟨b + 2, 0, none⟩ = some x3) (h4 : w.cell? ⟨b + 3, 0, none⟩ = some x4) (h5 : w.cell? ⟨b + 4, 0, none⟩ = some x5)
    (hf : ∀ i, i ≤ 4 → w.frozen? ⟨b + i, 0, none⟩ = false) :
    CallsD Tryz.prog 29 #[.pointer (some ⟨b, 0, none⟩), .pointer (some ⟨b + 1, 0, none⟩), .pointer (some ⟨b + 2, 0, none⟩), .pointer (some ⟨b + 3, 0, none⟩), .pointer (some ⟨b + 4, 0, none⟩)]
      (.panicking ({ v := .iface 70 (.agg #[.int .i64 l, .int .i64 c, .int .i64 k]), recovered := false } :: older)) w
      fun e u' w' => e = .returned (.tuple #[]) ∧ u' = .panicking ({ v := .iface 70 (.agg #[.int .i64 l, .int .i64 c, .int .i64 k]), recovered := true } :: older) ∧
        (w'.cell? ⟨b, 0, none⟩ = some (.slice none 0 0) ∧ w'.cell? ⟨b + 1, 0, none⟩ = some (.int .i64 0) ∧ w'.cell? ⟨b + 2, 0, none⟩ = some (.int .i64 l) ∧ w'.cell? ⟨b + 3, 0, none⟩ = some (.int .i64 c) ∧ w'.cell? ⟨b + 4, 0, none⟩ = some (.int .i64 k)) ∧ Below B w w' := by
  have q1 : ∀ (u : TypeId) (v : Value) (w : World), (binOp .eql 20 (.iface u v) .nilIface).run Tryz.prog w = .ok (.bool false) w := fun _ _ _ => by kernel_rfl
  have q2 : ∀ (v : Value) (w : World), (Instr.typeAssert (.iface 70 v) 20 70 true).run Tryz.prog w = .ok (.tuple #[v, .bool true]) w := fun _ _ => by kernel_rfl
  have d1 := cell_al h1
  have d2 := cell_al h2
  have d3 := cell_al h3
  have d4 := cell_al h4
  have d5 := cell_al h5
  refine callsD_of_wpS Tryz.func29 rfl fun c₀ cs hu => ?_
  simp only [Tryz.ntmps29, List.size_toArray, List.length_cons, List.length_nil, Nat.reduceAdd, Nat.reduceSub, Array.replicate_succ, Array.replicate_zero, List.push_toArray, List.append_toArray, List.nil_append, List.cons_append]
  apply wpS_seq
  apply wpS_region
  simp [wpOpsS, go_sem, recoverD, hu, Exit.thenS]
  refine wpS_of_wp (wp_mono (Q := fun e a' w' => e = .normal ∧ a'.defers = [] ∧ (w'.cell? ⟨b, 0, none⟩ = some (.slice none 0 0) ∧ w'.cell? ⟨b + 1, 0, none⟩ = some (.int .i64 0) ∧ w'.cell? ⟨b + 2, 0, none⟩ = some (.int .i64 l) ∧ w'.cell? ⟨b + 3, 0, none⟩ = some (.int .i64 c) ∧ w'.cell? ⟨b + 4, 0, none⟩ = some (.int .i64 k)) ∧ Below B w w') ?_ ?_)
  · clear hu
    go_wp2_with fail
    obtain ⟨w1, hw1⟩ : ∃ w1, w.alloc (.cells #[.int .i64 l, .int .i64 c, .int .i64 k] 70) = w1 := ⟨_, rfl⟩
    have e1 : w1.cell? ⟨b, 0, none⟩ = some x1 := by rw [← hw1]; exact d1 _
    have e2 : w1.cell? ⟨b + 1, 0, none⟩ = some x2 := by rw [← hw1]; exact d2 _
    have e3 : w1.cell? ⟨b + 2, 0, none⟩ = some x3 := by rw [← hw1]; exact d3 _
    have e4 : w1.cell? ⟨b + 3, 0, none⟩ = some x4 := by rw [← hw1]; exact d4 _
    have e5 : w1.cell? ⟨b + 4, 0, none⟩ = some x5 := by rw [← hw1]; exact d5 _
    have g : ∀ i, i ≤ 4 → w1.frozen? ⟨b + i, 0, none⟩ = false := fun i hi => by rw [← hw1]; exact (World.frozen?_alloc_old w _ _ (by simp; omega)).trans (hf i hi)
    have g1 : w1.frozen? ⟨b, 0, none⟩ = false := g 0 (by omega)
    have g2 := g 1 (by omega)
    have g3 := g 2 (by omega)
    have g4 := g 3 (by omega)
    have g5 := g 4 (by omega)
    have hh : w1.heap[w.heap.size]? = some (.cells #[.int .i64 l, .int .i64 c, .int .i64 k] 70 (0, 0)) := by rw [← hw1]; exact heap_alloc_new w _
    have k0 : w1.cell? ⟨w.heap.size, 0, none⟩ = some (.int .i64 l) := by simp [World.cell?, hh]
    have k1 : w1.cell? ⟨w.heap.size, 1, none⟩ = some (.int .i64 c) := by simp [World.cell?, hh]
    have k2 : w1.cell? ⟨w.heap.size, 2, none⟩ = some (.int .i64 k) := by simp [World.cell?, hh]
    have HB1 := Lib.hid (show Below B w w1 by rw [← hw1]; exact (Below.refl B w).alloc (by omega) _)
    obtain ⟨N, hN⟩ : ∃ N, w.heap.size = N := ⟨_, rfl⟩
    rw [hw1, hN]
    rw [hN] at k0 k1 k2 hbw
    clear g hw1 hh h1 h2 h3 h4 h5 d1 d2 d3 d4 d5 hf hN q1 q2
    go_region
    refine ⟨rfl, rfl, ⟨?_, ?_, ?_, ?_, ?_⟩, ?_⟩
    · simp [go_sem, e1]
    · simp [go_sem, e2]
    · simp [go_sem, e3]
    · simp [go_sem, e4]
    · simp [go_sem, e5]
    · have := (((((HB1.out.setCell (p := ⟨b, 0, none⟩) hB (.slice none 0 0)).setCell (p := ⟨b + 1, 0, none⟩) (by simp; omega) (.int .i64 0)).setCell (p := ⟨b + 2, 0, none⟩) (by simp; omega) (.int .i64 l)).setCell (p := ⟨b + 3, 0, none⟩) (by simp; omega) (.int .i64 c)).setCell (p := ⟨b + 4, 0, none⟩) (by simp; omega) (.int .i64 k))
      exact ⟨this.os, this.tape, this.output, this.size, this.block⟩
  · rintro e a' w' ⟨rfl, hd, hw, hb⟩
    cases c₀
    simp_all [bodyPostS, results, Tryz.results29]
end Go.Proofs.YtbchkldhnjahaaaGreatDoor
