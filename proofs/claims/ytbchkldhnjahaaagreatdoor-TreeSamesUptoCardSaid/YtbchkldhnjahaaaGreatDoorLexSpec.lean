/- The scanner as plain functions on lists of bytes: what the package lex of the given program computes. No condition, no program in sight. -/
import Derived.Lib.Strings
import Derived.Lib.Bytealg
import Derived.Lib.IndexMore
namespace Kiln

abbrev Bytes := List UInt8

/- kinds of bytes, over Int: as the walk shows them -/
def digitI (c : Int) : Bool := decide (48 ≤ c) && decide (c ≤ 57)
def letterI (c : Int) : Bool := (decide (97 ≤ c) && decide (c ≤ 122)) || (decide (65 ≤ c) && decide (c ≤ 90))
def wordI (c : Int) : Bool := letterI c || digitI c || c == 95 || c == 39
def hexI (c : Int) : Bool := digitI c || (decide (97 ≤ c) && decide (c ≤ 102)) || (decide (65 ≤ c) && decide (c ≤ 70))
def signL : Bytes := [33, 37, 38, 36, 35, 43, 45, 47, 58, 60, 61, 62, 63, 64, 92, 126, 96, 94, 124, 42]
def blankI (c : Int) : Bool := c == 9 || c == 10 || c == 12 || c == 13 || c == 32

def digitB (c : UInt8) : Bool := digitI c.toNat
def letterB (c : UInt8) : Bool := letterI c.toNat
def wordB (c : UInt8) : Bool := wordI c.toNat
def hexB (c : UInt8) : Bool := hexI c.toNat
def signB (c : UInt8) : Bool := signL.contains c
def blankB (c : UInt8) : Bool := blankI c.toNat

/-- how many bytes of a kind stand at the head -/
def cntB (p : UInt8 → Bool) : Bytes → Nat
  | [] => 0
  | c :: l => if p c then cntB p l + 1 else 0

theorem cntB_le (p : UInt8 → Bool) (l : Bytes) : cntB p l ≤ l.length := by
  induction l with
  | nil => simp [cntB]
  | cons c l ih => simp only [cntB]; split <;> simp <;> omega

theorem take_cntB (p : UInt8 → Bool) (l : Bytes) : l.take (cntB p l) = l.takeWhile p := by
  induction l with
  | nil => simp [cntB]
  | cons c l ih => by_cases h : p c <;> simp [cntB, h, ih]

theorem drop_cntB (p : UInt8 → Bool) (l : Bytes) : l.drop (cntB p l) = l.dropWhile p := by
  induction l with
  | nil => simp [cntB]
  | cons c l ih => by_cases h : p c <;> simp [cntB, h, ih]

theorem indexByte_contains (l : Bytes) (c : UInt8) : l.contains c = decide (0 ≤ Go.Lib.indexByte l c) := by
  induction l with
  | nil => simp [Go.Lib.indexByte]
  | cons b l ih =>
    have hg := Go.Lib.indexByte_ge l c
    rw [List.contains_cons, ih]
    rw [show Go.Lib.indexByte (b :: l) c = if b == c then 0 else if Go.Lib.indexByte l c == -1 then -1 else Go.Lib.indexByte l c + 1 from rfl]
    by_cases h : b = c
    · subst h; simp
    · have h' : (c == b) = false := by simpa using fun e : c = b => h e.symm
      have h2 : (b == c) = false := by simpa using h
      simp only [h', h2, Bool.false_or]
      by_cases h3 : Go.Lib.indexByte l c = -1
      · simp [h3]
      · have h4 : (Go.Lib.indexByte l c == -1) = false := by simpa using h3
        simp only [h4]
        simp only [Bool.false_eq_true, if_false]
        apply decide_eq_decide.2; omega

theorem indexByte_lt (l : Bytes) (c : UInt8) : Go.Lib.indexByte l c < l.length := by
  induction l with
  | nil => simp [Go.Lib.indexByte]
  | cons b l ih =>
    rw [show Go.Lib.indexByte (b :: l) c = if b == c then 0 else if Go.Lib.indexByte l c == -1 then -1 else Go.Lib.indexByte l c + 1 from rfl]
    simp only [List.length_cons]
    split
    · omega
    · split <;> omega

theorem byte_back (x : UInt8) : (((x.toNat : Nat) : Int)).toNat.toUInt8 = x := by simp

/-- the reserved words and signs, in the reference's order -/
def resWords : List Bytes := [[97, 98, 115, 116, 121, 112, 101], [97, 110, 100], [97, 110, 100, 97, 108, 115, 111], [97, 115], [99, 97, 115, 101], [100, 97, 116, 97, 116, 121, 112, 101], [100, 111], [101, 108, 115, 101], [101, 110, 100], [101, 113, 116, 121, 112, 101], [101, 120, 99, 101, 112, 116, 105, 111, 110], [102, 110], [102, 117, 110], [102, 117, 110, 99, 116, 111, 114], [104, 97, 110, 100, 108, 101], [105, 102], [105, 110], [105, 110, 99, 108, 117, 100, 101], [105, 110, 102, 105, 120], [105, 110, 102, 105, 120, 114], [108, 101, 116], [108, 111, 99, 97, 108], [110, 111, 110, 102, 105, 120], [111, 102], [111, 112], [111, 112, 101, 110], [111, 114, 101, 108, 115, 101], [114, 97, 105, 115, 101], [114, 101, 99], [115, 104, 97, 114, 105, 110, 103], [115, 105, 103], [115, 105, 103, 110, 97, 116, 117, 114, 101], [115, 116, 114, 117, 99, 116], [115, 116, 114, 117, 99, 116, 117, 114, 101], [116, 104, 101, 110], [116, 121, 112, 101], [118, 97, 108], [119, 104, 101, 114, 101], [119, 104, 105, 108, 101], [119, 105, 116, 104], [119, 105, 116, 104, 116, 121, 112, 101], [40], [41], [91], [93], [123], [125], [44], [59], [95], [46, 46, 46], [58], [58, 62], [124], [61], [61, 62], [45, 62], [35]]
def resB (s : Bytes) : Bool := resWords.contains s

theorem res_space {s : Bytes} (h : 0 ≤ Go.Lib.indexByte s 32) : resB s = false := by
  have h1 : s.contains 32 = true := by rw [indexByte_contains]; simpa using h
  have h2 : ∀ x ∈ resWords, x.contains 32 = false := by decide
  by_cases h3 : resB s = true
  · have := h2 s (by simpa [resB] using h3)
    rw [h1] at this; cases this
  · simpa using h3

/-- the program's own list of them, with blanks -/
def resText : Bytes := [32, 97, 98, 115, 116, 121, 112, 101, 32, 97, 110, 100, 32, 97, 110, 100, 97, 108, 115, 111, 32, 97, 115, 32, 99, 97, 115, 101, 32, 100, 97, 116, 97, 116, 121, 112, 101, 32, 100, 111, 32, 101, 108, 115, 101, 32, 101, 110, 100, 32, 101, 113, 116, 121, 112, 101, 32, 101, 120, 99, 101, 112, 116, 105, 111, 110, 32, 102, 110, 32, 102, 117, 110, 32, 102, 117, 110, 99, 116, 111, 114, 32, 104, 97, 110, 100, 108, 101, 32, 105, 102, 32, 105, 110, 32, 105, 110, 99, 108, 117, 100, 101, 32, 105, 110, 102, 105, 120, 32, 105, 110, 102, 105, 120, 114, 32, 108, 101, 116, 32, 108, 111, 99, 97, 108, 32, 110, 111, 110, 102, 105, 120, 32, 111, 102, 32, 111, 112, 32, 111, 112, 101, 110, 32, 111, 114, 101, 108, 115, 101, 32, 114, 97, 105, 115, 101, 32, 114, 101, 99, 32, 115, 104, 97, 114, 105, 110, 103, 32, 115, 105, 103, 32, 115, 105, 103, 110, 97, 116, 117, 114, 101, 32, 115, 116, 114, 117, 99, 116, 32, 115, 116, 114, 117, 99, 116, 117, 114, 101, 32, 116, 104, 101, 110, 32, 116, 121, 112, 101, 32, 118, 97, 108, 32, 119, 104, 101, 114, 101, 32, 119, 104, 105, 108, 101, 32, 119, 105, 116, 104, 32, 119, 105, 116, 104, 116, 121, 112, 101, 32, 40, 32, 41, 32, 91, 32, 93, 32, 123, 32, 125, 32, 44, 32, 59, 32, 95, 32, 46, 46, 46, 32, 58, 32, 58, 62, 32, 124, 32, 61, 32, 61, 62, 32, 45, 62, 32, 35, 32]

theorem contains_iff {s x : Bytes} : Go.Lib.contains s x = true ↔ ∃ i, i ≤ s.length ∧ x.isPrefixOf (s.drop i) = true := by
  constructor
  · intro h
    by_cases hn : ∀ j, j ≤ s.length → Go.Lib.occAt s x j = false
    · have := Go.Lib.index_none hn
      simp [Go.Lib.contains, this] at h
    · simp only [Classical.not_forall] at hn
      obtain ⟨i, hi, hx⟩ := hn
      exact ⟨i, hi, by simpa [Go.Lib.occAt] using hx⟩
  · rintro ⟨i, hi, hx⟩
    have : ∃ j, j ≤ s.length ∧ Go.Lib.occAt s x j = true ∧ ∀ k, k < j → Go.Lib.occAt s x k = false := by
      induction i using Nat.strongRecOn with
      | ind i ih =>
        by_cases hk : ∃ k, k < i ∧ Go.Lib.occAt s x k = true
        · obtain ⟨k, hk, hx'⟩ := hk
          exact ih k hk (by omega) (by simpa [Go.Lib.occAt] using hx')
        · exact ⟨i, hi, by simpa [Go.Lib.occAt] using hx, fun k hk' => by
            by_cases h : Go.Lib.occAt s x k = true
            · exact absurd ⟨k, hk', h⟩ hk
            · simpa using h⟩
    obtain ⟨j, hj, hx, hn⟩ := this
    have := Go.Lib.index_first hj hx hn
    simp only [Go.Lib.contains, this]
    simp

theorem word_of_prefix : ∀ {x l : Bytes}, x.contains 32 = false → (x ++ [32]).isPrefixOf l = true → l.takeWhile (· != 32) = x
  | [], l, _, h => by
    cases l with
    | nil => simp at h
    | cons c l => simp at h; simp [← h]
  | a :: x, l, hx, h => by
    cases l with
    | nil => simp at h
    | cons c l =>
      simp only [List.contains_cons, Bool.or_eq_false_iff] at hx
      simp only [List.cons_append, List.isPrefixOf, Bool.and_eq_true, beq_iff_eq] at h
      obtain ⟨rfl, h⟩ := h
      have ha : (a != 32) = true := by
        have := hx.1; simp at this; simp; exact fun e => this e.symm
      rw [List.takeWhile_cons, if_pos ha, word_of_prefix hx.2 h]

theorem resText_words : ∀ i, i ≤ resText.length → (resText.drop i).head? = some 32 → (resText.drop (i + 1)).takeWhile (· != 32) = [] ∨ resB ((resText.drop (i + 1)).takeWhile (· != 32)) = true := by
  intro i hi
  have h : ∀ i ∈ List.range (resText.length + 1), (resText.drop i).head? = some 32 → (resText.drop (i + 1)).takeWhile (· != 32) = [] ∨ resB ((resText.drop (i + 1)).takeWhile (· != 32)) = true := by decide +kernel
  exact h i (by simp; omega)

theorem resText_has : ∀ x ∈ resWords, Go.Lib.contains resText (32 :: x ++ [32]) = true := by decide +kernel

theorem res_contains {s : Bytes} (h0 : s ≠ []) (h1 : s.contains 32 = false) : Go.Lib.contains resText (32 :: s ++ [32]) = resB s := by
  by_cases h : resB s = true
  · rw [h]; exact resText_has s (by simpa [resB] using h)
  · by_cases hc : Go.Lib.contains resText (32 :: s ++ [32]) = true
    · obtain ⟨i, hi, hp⟩ := contains_iff.1 hc
      have hd : ∃ t, resText.drop i = 32 :: t ∧ (s ++ [32]).isPrefixOf t = true := by
        cases hr : resText.drop i with
        | nil => rw [hr] at hp; simp at hp
        | cons c t => rw [hr] at hp; simp only [List.cons_append, List.isPrefixOf, Bool.and_eq_true, beq_iff_eq] at hp; exact ⟨t, by rw [← hp.1], hp.2⟩
      obtain ⟨t, ht, hp⟩ := hd
      have ht' : resText.drop (i + 1) = t := by rw [← List.drop_drop, ht]; rfl
      have hw := resText_words i hi (by rw [ht]; rfl)
      rw [ht', word_of_prefix h1 hp] at hw
      rcases hw with hw | hw
      · exact absurd hw h0
      · exact absurd hw h
    · have e1 : resB s = false := by simpa using h
      have e2 : Go.Lib.contains resText (32 :: s ++ [32]) = false := by simpa using hc
      rw [e1, e2]

/-- the byte at a place; 0: there is none -/
def atB (l : Bytes) (i : Nat) : UInt8 := l.getD i 0

/-- a token without its place, and how many bytes it takes; or an error -/
abbrev Rd := Except Nat (Nat × Bytes × List Bytes × Nat)

/- THE PROGRAM's READERS. Each reads at the head of what is left. -/
def tyvarP (l : Bytes) : Rd := .ok (3, l.take (1 + cntB wordB (l.drop 1)), [], 1 + cntB wordB (l.drop 1))

def otherP (l : Bytes) : Rd :=
  let n := if [46, 46, 46].isPrefixOf l then 3 else 1
  if resB (l.take n) then .ok (1, l.take n, [], n) else .error 40

/-- path: the names so far; n: how far we are -/
def wordP : Nat → List Bytes → Nat → Bytes → Rd
  | 0, _, _, _ => .error 44
  | f + 1, path, n, l =>
    let k := cntB wordB l
    let s := l.take k
    if resB s then (if path = [] then .ok (1, s, [], n + k) else .error 44)
    else if atB l k == 46 then
      let r := l.drop (k + 1)
      if letterB (atB r 0) then wordP f (path ++ [s]) (n + k + 1) r
      else
        let g := cntB signB r
        if g = 0 || resB (r.take g) then .error 44 else .ok (2, r.take g, path ++ [s], n + k + 1 + g)
    else .ok (2, s, path, n + k)

/-- where a number ends, and its kind -/
def numEnd (l : Bytes) : Nat × Nat :=
  let f := if atB l 0 == 126 then 1 else 0
  let e0 := f + cntB digitB (l.drop f)
  if [48, 120].isPrefixOf (l.drop f) && decide (0 < cntB hexB (l.drop (f + 2))) then (f + 2 + cntB hexB (l.drop (f + 2)), 4)
  else
    let d := cntB digitB (l.drop (e0 + 1))
    let p : Nat × Nat := if atB l e0 == 46 && decide (0 < d) then (e0 + 1 + d, 5) else (e0, 4)
    let m := p.1 + 1 + (if atB l (p.1 + 1) == 126 then 1 else 0)
    if (atB l p.1 == 69 || atB l p.1 == 101) && decide (0 < cntB digitB (l.drop m)) then (m + cntB digitB (l.drop m), 5) else p

def numberP (l : Bytes) : Rd :=
  let p := numEnd l
  if wordB (atB l p.1) then .error 43 else if 4096 < p.1 then .error 2 else .ok (p.2, l.take p.1, [], p.1)

/-- the value of a byte as a digit; 255: none -/
def digVal (c : UInt8) : Nat := if digitB c then c.toNat - 48 else if 97 ≤ c.toNat && c.toNat ≤ 122 then c.toNat - 87 else if 65 ≤ c.toNat && c.toNat ≤ 90 then c.toNat - 55 else 255

/-- a number's value, read from the left -/
def numVal (base : Nat) : Nat → Bytes → Option Nat
  | n, [] => some n
  | n, c :: l => if digVal c < base then numVal base (n * base + digVal c) l else none

/-- the program's 'based': the value of n digits; below 0: none -/
def basedP (base n : Nat) (l : Bytes) : Int :=
  if l.length < n then -1 else match numVal base 0 (l.take n) with
    | none => -1
    | some v => if 255 < v then -1 else v

def escL : Bytes := [97, 98, 116, 110, 118, 102, 114]

/-- behind a backslash: the byte (below 0: none), how many bytes that takes (0: it may not be) -/
def escP (l : Bytes) : Int × Nat :=
  if l = [] then (-1, 0) else
  let c := atB l 0
  let k := Go.Lib.indexByte escL c
  if 0 ≤ k then (7 + k, 1)
  else if c == 34 || c == 92 then (c.toNat, 1)
  else if c == 94 then (if decide (64 ≤ (atB l 1).toNat) && decide ((atB l 1).toNat ≤ 95) then ((atB l 1).toNat - 64, 2) else (-1, 0))
  else if c == 117 then (if 0 ≤ basedP 16 4 (l.drop 1) then (basedP 16 4 (l.drop 1), 5) else (-1, 0))
  else if digitB c then (if 0 ≤ basedP 10 3 l then (basedP 10 3 l, 3) else (-1, 0))
  else if decide (0 < cntB blankB l) && atB l (cntB blankB l) == 92 then (-1, cntB blankB l + 1) else (-1, 0)

/-- what stands between quotes, from behind the first on: the bytes so far, how far we are -/
def quotedP : Nat → Bytes → Bytes → Nat → Option (Bytes × Nat)
  | 0, _, _, _ => none
  | _ + 1, [], _, _ => none
  | f + 1, c :: l, acc, n =>
    if c == 34 then some (acc, n + 1)
    else if decide (c.toNat < 32) || decide (126 < c.toNat) then none
    else if c != 92 then quotedP f l (acc ++ [c]) (n + 1)
    else
      let x := escP l
      if x.2 = 0 then none
      else quotedP f (l.drop x.2) (if 0 ≤ x.1 then acc ++ [x.1.toNat.toUInt8] else acc) (n + 1 + x.2)

def textP (l : Bytes) : Rd :=
  match quotedP (l.length + 1) (l.drop 1) [] 1 with
  | none => .error 42
  | some (s, n) => if 65536 < s.length then .error 2 else .ok (6, s, [], n)

def charP (l : Bytes) : Rd :=
  match quotedP (l.length + 1) (l.drop 2) [] 2 with
  | none => .error 42
  | some (s, n) => if s.length = 1 then .ok (7, s, [], n) else .error 42

def signP (l : Bytes) : Rd :=
  if atB l 0 == 126 && digitB (atB l 1) then numberP l
  else if [35, 34].isPrefixOf l then charP l
  else
    let k := cntB signB l
    .ok (if resB (l.take k) then 1 else 2, l.take k, [], k)

/-- the program's choice by the first byte -/
def readP (l : Bytes) : Rd :=
  let c := atB l 0
  if letterB c then wordP (l.length + 1) [] 0 l
  else if digitB c then numberP l
  else if c == 126 || signB c then signP l
  else if c == 34 then textP l
  else if c == 39 then tyvarP l
  else otherP l

/-- where a comment ends: depth, how far we are -/
def commP : Nat → Nat → Nat → Bytes → Option Nat
  | 0, _, _, _ => none
  | _ + 1, _, _, [] => none
  | f + 1, d, n, c :: l =>
    if [40, 42].isPrefixOf (c :: l) then commP f (d + 1) (n + 2) (l.drop 1)
    else if [42, 41].isPrefixOf (c :: l) then (if d = 1 then some (n + 2) else commP f (d - 1) (n + 2) (l.drop 1))
    else commP f d (n + 1) l

structure Tok where
  kind : Int
  text : Bytes
  path : List Bytes
  line : Int
  col : Int
deriving DecidableEq

/-- the place behind a byte -/
def adv1 (p : Nat × Nat) (c : UInt8) : Nat × Nat := if c == 10 then (p.1 + 1, 1) else (p.1, p.2 + 1)
def adv (p : Nat × Nat) (l : Bytes) : Nat × Nat := l.foldl adv1 p

abbrev Scanned := Except (Nat × Nat × Nat) (List Tok)

/-- tokens one behind the other: by a reader and a reader of comments -/
def scanG (rd : Bytes → Rd) (cm : Bytes → Option Nat) : Nat → Bytes → Nat × Nat → List Tok → Scanned
  | 0, _, _, acc => .ok acc
  | _ + 1, [], _, acc => .ok acc
  | f + 1, c :: l, p, acc =>
    if blankB c then scanG rd cm f l (adv1 p c) acc
    else if [40, 42].isPrefixOf (c :: l) then
      match cm (c :: l) with
      | none => .error (41, p.1, p.2)
      | some n => scanG rd cm f ((c :: l).drop n) (adv p ((c :: l).take n)) acc
    else
      match rd (c :: l) with
      | .error e => .error (e, p.1, p.2)
      | .ok (k, t, pa, n) => scanG rd cm f ((c :: l).drop n) (adv p ((c :: l).take n)) (acc ++ [⟨k, t, pa, p.1, p.2⟩])

def scanP (l : Bytes) : Scanned :=
  if 1048576 < l.length then .error (2, 0, 0) else scanG readP (fun l => commP (l.length + 1) 0 0 l) (l.length + 1) l (1, 1) []

end Kiln
