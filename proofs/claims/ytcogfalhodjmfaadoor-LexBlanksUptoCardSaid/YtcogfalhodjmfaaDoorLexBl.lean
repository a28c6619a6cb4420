/- Plain law: blanks and comments between tokens change nothing but places. No program in sight. -/
import Derived.Test.YtcogfalhodjmfaaDoorLexI
import Derived.Test.YtcogfalhodjmfaaDoorLexC
namespace Go.Proofs.YtcogfalhodjmfaaDoor
open Kiln

def key (u : Tok) : Int × Bytes × List Bytes := (u.kind, u.text, u.path)
theorem alike_key {u v : Tok} : alikeB u v = true ↔ key u = key v := by
  simp [alikeB, key, and_assoc]
theorem same_key : ∀ {l m : List Tok}, sameL false l m = true ↔ l.map key = m.map key
  | [], [] => by simp [sameL]
  | [], _ :: _ => by simp [sameL]
  | _ :: _, [] => by simp [sameL]
  | u :: l, v :: m => by
    simp only [sameL, Bool.not_false, Bool.true_or, Bool.and_true, Bool.and_eq_true, List.map_cons, List.cons.injEq]
    rw [alike_key, same_key]

/-- a word that may stand in a comment -/
def Free (word : Bytes) : Prop := ∀ c ∈ word, c ≠ 42 ∧ c ≠ 40 ∧ c ≠ 41
def tailSeg (word : Bytes) : Bytes := 40 :: 42 :: (word ++ (40 :: 42 :: 42 :: 41 :: (word ++ [42, 41])))
def seg (word W : Bytes) : Bytes := 9 :: (W ++ 13 :: 10 :: tailSeg word)

theorem comm_word (d : Nat) : ∀ (word : Bytes) (n : Nat) (R : Bytes), Free word → commC d n (word ++ R) = commC d (n + word.length) R
  | [], n, R, _ => by simp
  | c :: word, n, R, h => by
    obtain ⟨h1, h2, _⟩ := h c (by simp)
    rw [List.cons_append, commC_step (by simp [List.isPrefixOf]; intro e; exact absurd e.symm h2) (by simp [List.isPrefixOf]; intro e; exact absurd e.symm h1), comm_word d word (n + 1) R (fun x hx => h x (by simp [hx]))]
    rw [List.length_cons, show n + 1 + word.length = n + (word.length + 1) by omega]

theorem comm_seg {word : Bytes} (h : Free word) (R : Bytes) : commC 0 0 (tailSeg word ++ R) = some (tailSeg word).length := by
  unfold tailSeg
  have e : (40 :: 42 :: (word ++ (40 :: 42 :: 42 :: 41 :: (word ++ [42, 41])))) ++ R = 40 :: 42 :: (word ++ (40 :: 42 :: 42 :: 41 :: (word ++ (42 :: 41 :: R)))) := by simp
  rw [e, commC_open (by rfl)]
  rw [show List.drop 1 (42 :: (word ++ (40 :: 42 :: 42 :: 41 :: (word ++ (42 :: 41 :: R))))) = word ++ (40 :: 42 :: 42 :: 41 :: (word ++ (42 :: 41 :: R))) from rfl]
  rw [comm_word _ _ _ _ h, commC_open (by rfl)]
  rw [show List.drop 1 (42 :: 42 :: 41 :: (word ++ (42 :: 41 :: R))) = 42 :: 41 :: (word ++ (42 :: 41 :: R)) from rfl]
  rw [commC_close (by rfl) (by rfl) (by omega)]
  rw [show List.drop 1 (41 :: (word ++ (42 :: 41 :: R))) = word ++ (42 :: 41 :: R) from rfl]
  rw [comm_word _ _ _ _ h, show 0 + 1 + 1 - 1 = 1 from rfl, commC_last (by rfl) (by rfl)]
  simp only [List.length_cons, List.length_append, List.length_nil]
  congr 1
  omega

theorem scan_seg {word W : Bytes} (hw : Free word) {k : Nat} {t : Bytes} {pa : List Bytes} (hne : W ≠ []) (h : readP W = .ok (k, t, pa, W.length)) (R : Bytes) (p : Nat × Nat) (acc : List Tok) :
    ∃ q ln col, scanC (seg word W ++ R) p acc = scanC R q (acc ++ [⟨k, t, pa, ln, col⟩]) := by
  have e : seg word W ++ R = 9 :: (W ++ (13 :: 10 :: (tailSeg word ++ R))) := by simp [seg]
  rw [e, scanC_blank (by decide), scan_tok hne h (.inr ⟨13, _, rfl, by decide⟩), scanC_blank (by decide), scanC_blank (by decide)]
  have ht : tailSeg word ++ R = 40 :: ((42 :: (word ++ (40 :: 42 :: 42 :: 41 :: (word ++ [42, 41])))) ++ R) := rfl
  rw [ht, scanC_comm (by decide) (by rfl), ← ht]
  have hc : commP ((tailSeg word ++ R).length + 1) 0 0 (tailSeg word ++ R) = some (tailSeg word).length := comm_seg hw R
  rw [hc]
  simp only []
  rw [List.drop_left]
  exact ⟨_, _, _, rfl⟩

theorem scan_segs {word : Bytes} (hw : Free word) : ∀ (l : List Tok) (Ws : List Bytes) (p : Nat × Nat) (acc : List Tok), Rels l Ws → ∃ m, scanC (Ws.flatMap (seg word)) p acc = .ok (acc ++ m) ∧ sameL false l m = true
  | [], [], p, acc, _ => ⟨[], by simp [scanC_nil], rfl⟩
  | [], _ :: _, _, _, h => h.elim
  | _ :: _, [], _, _, h => h.elim
  | u :: l, W :: Ws, p, acc, ⟨⟨k, hk, hne, hr⟩, hR⟩ => by
    obtain ⟨q, ln, col, hq⟩ := scan_seg hw hne hr (Ws.flatMap (seg word)) p acc
    rw [List.flatMap_cons, hq]
    obtain ⟨m, h1, h2⟩ := scan_segs hw l Ws q (acc ++ [⟨k, u.text, u.path, ln, col⟩]) hR
    refine ⟨_ :: m, by rw [h1, List.append_assoc]; rfl, ?_⟩
    simp only [sameL, h2, Bool.not_false, Bool.true_or, Bool.and_true]
    simp [alikeB, hk]

/-- P4.6 -/
theorem blanks_law {word : Bytes} (hw : Free word) {l : List Tok} {Ws : List Bytes} (hR : Rels l Ws) {T : Bytes} (hj : joinP l = .ok T) (hl : (Ws.flatMap (seg word)).length ≤ 1048576) :
    ∃ a b, scanP T = .ok a ∧ scanP (Ws.flatMap (seg word)) = .ok b ∧ sameL false a b = true := by
  obtain ⟨a, ha, hsa⟩ := join_back hj
  obtain ⟨b, hb, hsb⟩ := scan_segs hw l Ws (1, 1) [] hR
  refine ⟨a, b, ha, ?_, ?_⟩
  · unfold scanP
    rw [if_neg (by omega)]
    show scanC (Ws.flatMap (seg word)) (1, 1) [] = _
    rw [hb, List.nil_append]
  · rw [same_key] at hsa hsb ⊢
    rw [← hsa, hsb]

theorem rels_snoc : ∀ {l : List Tok} {Ws : List Bytes} {u : Tok} {W : Bytes}, Rels l Ws → Rel u W → Rels (l ++ [u]) (Ws ++ [W])
  | [], [], _, _, _, h => ⟨h, trivial⟩
  | [], _ :: _, _, _, h, _ => h.elim
  | _ :: _, [], _, _, h, _ => h.elim
  | _ :: _, _ :: _, _, _, ⟨h1, h2⟩, h => ⟨h1, rels_snoc h2 h⟩

end Go.Proofs.YtcogfalhodjmfaaDoor
