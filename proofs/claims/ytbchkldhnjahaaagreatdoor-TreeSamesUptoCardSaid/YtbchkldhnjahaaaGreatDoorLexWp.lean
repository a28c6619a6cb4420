/- The writing of tokens as plain functions: what the program's quote, Write and Join compute. No program in sight. -/
import Derived.Test.YtbchkldhnjahaaaGreatDoorLexPl
import Derived.Lib.Join
namespace Kiln

def quoteB (c : UInt8) : Bytes :=
  if c == 34 || c == 92 then [92, c] else if decide (c.toNat < 32) || decide (126 < c.toNat) then [92, 48 + c / 100, 48 + c / 10 % 10, 48 + c % 10] else [c]
def quoteP (t : Bytes) : Bytes := 34 :: t.flatMap quoteB ++ [34]

/-- the text that Write tries -/
def wtext (k : Int) (t : Bytes) (pa : List Bytes) : Bytes :=
  if k == 6 then quoteP t else if k == 7 then 35 :: quoteP t else if k == 2 then Go.Lib.join (pa ++ [t]) [46] else t

def tokIs (r : Scanned) (k : Int) (t : Bytes) (pa : List Bytes) : Bool :=
  match r with
  | .ok [u] => u.kind == k && u.text == t && u.path == pa
  | _ => false

def writeP (k : Int) (t : Bytes) (pa : List Bytes) : Except Nat Bytes := if tokIs (scanP (wtext k t pa)) k t pa then .ok (wtext k t pa) else .error 1

def joinG : Bool → Bytes → List Tok → Except Nat Bytes
  | _, acc, [] => if 1048576 < acc.length then .error 2 else .ok acc
  | first, acc, u :: l =>
    match writeP u.kind u.text u.path with
    | .error e => .error e
    | .ok s => joinG false (if acc.length ≤ 1048576 then acc ++ (if first then s else 32 :: s) else acc) l
def joinP (l : List Tok) : Except Nat Bytes := joinG true [] l

theorem quoteB_len (c : UInt8) : (quoteB c).length ≤ 4 := by unfold quoteB; split <;> (try split) <;> simp
theorem quote_len (t : Bytes) : (t.flatMap quoteB).length ≤ 4 * t.length := by
  induction t with
  | nil => simp
  | cons c t ih => have := quoteB_len c; simp only [List.flatMap_cons, List.length_append, List.length_cons]; omega

theorem scanP_size {l : Bytes} {ts : List Tok} (h : scanP l = .ok ts) : l.length ≤ 1048576 := by
  refine Classical.byContradiction fun hk => ?_
  unfold scanP at h
  rw [if_pos (by omega)] at h; cases h

theorem writeP_size {k : Int} {t : Bytes} {pa : List Bytes} {s : Bytes} (h : writeP k t pa = .ok s) : s.length ≤ 1048576 := by
  unfold writeP at h
  split at h
  · rename_i h1
    simp only [Except.ok.injEq] at h
    subst h
    cases hs : scanP (wtext k t pa) with
    | error e => rw [hs] at h1; simp [tokIs] at h1
    | ok ts => exact scanP_size hs
  · cases h

theorem writeP_ok {k : Int} {t : Bytes} {pa : List Bytes} {s : Bytes} (h : writeP k t pa = .ok s) : s = wtext k t pa ∧ ∃ ln col, scanP s = .ok [⟨k, t, pa, ln, col⟩] := by
  unfold writeP at h
  split at h
  · rename_i h1
    simp only [Except.ok.injEq] at h
    subst h
    refine ⟨rfl, ?_⟩
    revert h1
    unfold tokIs
    split
    · rename_i u hu
      intro h1
      simp only [Bool.and_eq_true, beq_iff_eq] at h1
      obtain ⟨⟨h1, h2⟩, h3⟩ := h1
      refine ⟨u.line, u.col, ?_⟩
      rw [hu, ← h1, ← h2, ← h3]
    · intro h1; cases h1
  · cases h

end Kiln
