/- Part of the proof. Conditions: those of each theorem. -/
import Derived.Lib.Strings
import Derived.Lib.Bytealg
import Derived.Lib.IndexMore
import Derived.Test.YtbchkldhnjahaaaGreatDoorPoa
set_option maxRecDepth 100000
set_option maxHeartbeats 40000000
namespace Kiln
abbrev Bytes := List UInt8
def pR (c : Int) : Bool := decide (48 ≤ c) && decide (c ≤ 57)
def lJ (c : Int) : Bool := (decide (97 ≤ c) && decide (c ≤ 122)) || (decide (65 ≤ c) && decide (c ≤ 90))
def Dx (c : Int) : Bool := lJ c || pR c || c == 95 || c == 39
def MV (c : Int) : Bool := pR c || (decide (97 ≤ c) && decide (c ≤ 102)) || (decide (65 ≤ c) && decide (c ≤ 70))
def K9 : Bytes := [33, 37, 38, 36, 35, 43, 45, 47, 58, 60, 61, 62, 63, 64, 92, 126, 96, 94, 124, 42]
def BG (c : Int) : Bool := c == 9 || c == 10 || c == 12 || c == 13 || c == 32
def aM (c : UInt8) : Bool := pR c.toNat
def eU (c : UInt8) : Bool := lJ c.toNat
def bJ (c : UInt8) : Bool := Dx c.toNat
def tK (c : UInt8) : Bool := MV c.toNat
def dV (c : UInt8) : Bool := K9.contains c
def cg (c : UInt8) : Bool := BG c.toNat
def aT (p : UInt8 → Bool) : Bytes → Nat
 | [] => 0
 | c :: l => if p c then aT p l + 1 else 0
theorem gF (p : UInt8 → Bool) (l : Bytes) : aT p l ≤ l.length := by
 induction l with
 | nil => simp [aT]
 | cons c l ih => simp only [aT]; split <;> simp <;> omega
theorem dx (l : Bytes) (c : UInt8) : l.contains c = decide (0 ≤ Go.Lib.indexByte l c) := by
 induction l with
 | nil => simp [Go.Lib.indexByte]
 | cons b l ih =>
  have hg := Go.Lib.indexByte_ge l c;rw [List.contains_cons, ih];rw [show Go.Lib.indexByte (b :: l) c = if b == c then 0 else if Go.Lib.indexByte l c == -1 then -1 else Go.Lib.indexByte l c + 1 from rfl];by_cases h : b = c
  · subst h; simp
  · have h' : (c == b) = false := by simpa using fun e : c = b => h e.symm
    have h2 : (b == c) = false := by simpa using h
    simp only [h', h2, Bool.false_or];by_cases h3 : Go.Lib.indexByte l c = -1
    · simp [h3]
    · have h4 : (Go.Lib.indexByte l c == -1) = false := by simpa using h3
      simp only [h4];simp only [ξh, if_false];apply decide_eq_decide.2; omega
theorem pQ (l : Bytes) (c : UInt8) : Go.Lib.indexByte l c < l.length := by
 induction l with
 | nil => simp [Go.Lib.indexByte]
 | cons b l ih =>
  rw [show Go.Lib.indexByte (b :: l) c = if b == c then 0 else if Go.Lib.indexByte l c == -1 then -1 else Go.Lib.indexByte l c + 1 from rfl];simp only [ξ2];split
  · omega
  · split <;> omega
def vL : List Bytes := [[97, 98, 115, 116, 121, 112, 101], [97, 110, 100], [97, 110, 100, 97, 108, 115, 111], [97, 115], [99, 97, 115, 101], [100, 97, 116, 97, 116, 121, 112, 101], [100, 111], [101, 108, 115, 101], [101, 110, 100], [101, 113, 116, 121, 112, 101], [101, 120, 99, 101, 112, 116, 105, 111, 110], [102, 110], [102, 117, 110], [102, 117, 110, 99, 116, 111, 114], [104, 97, 110, 100, 108, 101], [105, 102], [105, 110], [105, 110, 99, 108, 117, 100, 101], [105, 110, 102, 105, 120], [105, 110, 102, 105, 120, 114], [108, 101, 116], [108, 111, 99, 97, 108], [110, 111, 110, 102, 105, 120], [111, 102], [111, 112], [111, 112, 101, 110], [111, 114, 101, 108, 115, 101], [114, 97, 105, 115, 101], [114, 101, 99], [115, 104, 97, 114, 105, 110, 103], [115, 105, 103], [115, 105, 103, 110, 97, 116, 117, 114, 101], [115, 116, 114, 117, 99, 116], [115, 116, 114, 117, 99, 116, 117, 114, 101], [116, 104, 101, 110], [116, 121, 112, 101], [118, 97, 108], [119, 104, 101, 114, 101], [119, 104, 105, 108, 101], [119, 105, 116, 104], [119, 105, 116, 104, 116, 121, 112, 101], [40], [41], [91], [93], [123], [125], [44], [59], [95], [46, 46, 46], [58], [58, 62], [124], [61], [61, 62], [45, 62], [35]]
def j6 (s : Bytes) : Bool := vL.contains s
theorem Eh {s : Bytes} (h : 0 ≤ Go.Lib.indexByte s 32) : j6 s = false := by
 have h1 : s.contains 32 = true := by rw [dx]; simpa using h
 have h2 : ∀ x ∈ vL, x.contains 32 = false := by decide
 by_cases h3 : j6 s = true
 · have := h2 s (by simpa [j6] using h3);rw [h1] at this; cases this
 · simpa using h3
def fq : Bytes := [32, 97, 98, 115, 116, 121, 112, 101, 32, 97, 110, 100, 32, 97, 110, 100, 97, 108, 115, 111, 32, 97, 115, 32, 99, 97, 115, 101, 32, 100, 97, 116, 97, 116, 121, 112, 101, 32, 100, 111, 32, 101, 108, 115, 101, 32, 101, 110, 100, 32, 101, 113, 116, 121, 112, 101, 32, 101, 120, 99, 101, 112, 116, 105, 111, 110, 32, 102, 110, 32, 102, 117, 110, 32, 102, 117, 110, 99, 116, 111, 114, 32, 104, 97, 110, 100, 108, 101, 32, 105, 102, 32, 105, 110, 32, 105, 110, 99, 108, 117, 100, 101, 32, 105, 110, 102, 105, 120, 32, 105, 110, 102, 105, 120, 114, 32, 108, 101, 116, 32, 108, 111, 99, 97, 108, 32, 110, 111, 110, 102, 105, 120, 32, 111, 102, 32, 111, 112, 32, 111, 112, 101, 110, 32, 111, 114, 101, 108, 115, 101, 32, 114, 97, 105, 115, 101, 32, 114, 101, 99, 32, 115, 104, 97, 114, 105, 110, 103, 32, 115, 105, 103, 32, 115, 105, 103, 110, 97, 116, 117, 114, 101, 32, 115, 116, 114, 117, 99, 116, 32, 115, 116, 114, 117, 99, 116, 117, 114, 101, 32, 116, 104, 101, 110, 32, 116, 121, 112, 101, 32, 118, 97, 108, 32, 119, 104, 101, 114, 101, 32, 119, 104, 105, 108, 101, 32, 119, 105, 116, 104, 32, 119, 105, 116, 104, 116, 121, 112, 101, 32, 40, 32, 41, 32, 91, 32, 93, 32, 123, 32, 125, 32, 44, 32, 59, 32, 95, 32, 46, 46, 46, 32, 58, 32, 58, 62, 32, 124, 32, 61, 32, 61, 62, 32, 45, 62, 32, 35, 32]
theorem contains_iff {s x : Bytes} : Go.Lib.contains s x = true ↔ ∃ i, i ≤ s.length ∧ x.isPrefixOf (s.drop i) = true := by
 constructor
 · intro h;by_cases hn : ∀ j, j ≤ s.length → Go.Lib.occAt s x j = false
   · have := Go.Lib.index_none hn;simp [Go.Lib.contains, this] at h
   · simp only [Classical.not_forall] at hn;obtain ⟨i, hi, hx⟩ := hn;exact ⟨i, hi, by simpa [Go.Lib.occAt] using hx⟩
 · rintro ⟨i, hi, hx⟩;have : ∃ j, j ≤ s.length ∧ Go.Lib.occAt s x j = true ∧ ∀ k, k < j → Go.Lib.occAt s x k = false := by
    induction i using Nat.strongRecOn with
    | ind i ih =>
     by_cases hk : ∃ k, k < i ∧ Go.Lib.occAt s x k = true
     · obtain ⟨k, hk, hx'⟩ := hk;exact ih k hk (by omega) (by simpa [Go.Lib.occAt] using hx')
     · exact ⟨i, hi, by simpa [Go.Lib.occAt] using hx, fun k hk' => by
        by_cases h : Go.Lib.occAt s x k = true
        · exact absurd ⟨k, hk', h⟩ hk
        · simpa using h⟩
   obtain ⟨j, hj, hx, hn⟩ := this;have := Go.Lib.index_first hj hx hn;simp only [Go.Lib.contains, this];simp
theorem mP : ∀ {x l : Bytes}, x.contains 32 = false → (x ++ [32]).isPrefixOf l = true → l.takeWhile (· != 32) = x
 | [], l, _, h => by
  cases l with
  | nil => simp at h
  | cons c l => simp at h; simp [← h]
 | a :: x, l, hx, h => by
  cases l with
  | nil => simp at h
  | cons c l =>
   simp only [List.contains_cons, Bool.or_eq_false_iff] at hx;simp only [List.cons_append, List.isPrefixOf, ξg, ξZ] at h;obtain ⟨rfl, h⟩ := h;have ha : (a != 32) = true := by
    have := hx.1; simp at this; simp; exact fun e => this e.symm
   rw [List.takeWhile_cons, ψi ha, mP hx.2 h]
theorem vM : ∀ i, i ≤ fq.length → (fq.drop i).head? = some 32 → (fq.drop (i + 1)).takeWhile (· != 32) = [] ∨ j6 ((fq.drop (i + 1)).takeWhile (· != 32)) = true := by
 intro i hi;have h : ∀ i ∈ List.range (fq.length + 1), (fq.drop i).head? = some 32 → (fq.drop (i + 1)).takeWhile (· != 32) = [] ∨ j6 ((fq.drop (i + 1)).takeWhile (· != 32)) = true := by decide +kernel
 exact h i (by simp; omega)
theorem zB : ∀ x ∈ vL, Go.Lib.contains fq (32 :: x ++ [32]) = true := by decide +kernel
theorem xE {s : Bytes} (h0 : s ≠ []) (h1 : s.contains 32 = false) : Go.Lib.contains fq (32 :: s ++ [32]) = j6 s := by
 by_cases h : j6 s = true
 · rw [h]; exact zB s (by simpa [j6] using h)
 · by_cases hc : Go.Lib.contains fq (32 :: s ++ [32]) = true
   · obtain ⟨i, hi, hp⟩ := contains_iff.1 hc;have hd : ∃ t, fq.drop i = 32 :: t ∧ (s ++ [32]).isPrefixOf t = true := by
      cases hr : fq.drop i with
      | nil => rw [hr] at hp; simp at hp
      | cons c t => rw [hr] at hp; simp only [List.cons_append, List.isPrefixOf, ξg, ξZ] at hp; exact ⟨t, by rw [← hp.1], hp.2⟩
     obtain ⟨t, ht, hp⟩ := hd;have ht' : fq.drop (i + 1) = t := by rw [← List.drop_drop, ht]; rfl
     have hw := vM i hi (by rw [ht]; rfl);rw [ht', mP h1 hp] at hw;rcases hw with hw | hw
     · exact absurd hw h0
     · exact absurd hw h
   · have e1 : j6 s = false := by simpa using h
     have e2 : Go.Lib.contains fq (32 :: s ++ [32]) = false := by simpa using hc
     rw [e1, e2]
def atB (l : Bytes) (i : Nat) : UInt8 := l.getD i 0
abbrev Rd := Except Nat (Nat × Bytes × List Bytes × Nat)
def nE (l : Bytes) : Rd := .ok (3, l.take (1 + aT bJ (l.drop 1)), [], 1 + aT bJ (l.drop 1))
def jU (l : Bytes) : Rd :=
 let n := if [46, 46, 46].isPrefixOf l then 3 else 1
 if j6 (l.take n) then .ok (1, l.take n, [], n) else .error 40
def fR : Nat → List Bytes → Nat → Bytes → Rd
 | 0, _, _, _ => .error 44
 | f + 1, path, n, l =>
  let k := aT bJ l
  let s := l.take k
  if j6 s then (if path = [] then .ok (1, s, [], n + k) else .error 44)
  else if atB l k == 46 then
   let r := l.drop (k + 1)
   if eU (atB r 0) then fR f (path ++ [s]) (n + k + 1) r
   else
    let g := aT dV r
    if g = 0 || j6 (r.take g) then .error 44 else .ok (2, r.take g, path ++ [s], n + k + 1 + g)
  else .ok (2, s, path, n + k)
def bT (l : Bytes) : Nat × Nat :=
 let f := if atB l 0 == 126 then 1 else 0
 let e0 := f + aT aM (l.drop f)
 if [48, 120].isPrefixOf (l.drop f) && decide (0 < aT tK (l.drop (f + 2))) then (f + 2 + aT tK (l.drop (f + 2)), 4)
 else
  let d := aT aM (l.drop (e0 + 1))
  let p : Nat × Nat := if atB l e0 == 46 && decide (0 < d) then (e0 + 1 + d, 5) else (e0, 4)
  let m := p.1 + 1 + (if atB l (p.1 + 1) == 126 then 1 else 0)
  if (atB l p.1 == 69 || atB l p.1 == 101) && decide (0 < aT aM (l.drop m)) then (m + aT aM (l.drop m), 5) else p
def cF (l : Bytes) : Rd :=
 let p := bT l
 if bJ (atB l p.1) then .error 43 else if 4096 < p.1 then .error 2 else .ok (p.2, l.take p.1, [], p.1)
def iy (c : UInt8) : Nat := if aM c then c.toNat - 48 else if 97 ≤ c.toNat && c.toNat ≤ 122 then c.toNat - 87 else if 65 ≤ c.toNat && c.toNat ≤ 90 then c.toNat - 55 else 255
def eX (base : Nat) : Nat → Bytes → Option Nat
 | n, [] => some n
 | n, c :: l => if iy c < base then eX base (n * base + iy c) l else none
def cB (base n : Nat) (l : Bytes) : Int :=
 if l.length < n then -1 else match eX base 0 (l.take n) with
  | none => -1
  | some v => if 255 < v then -1 else v
def Fe : Bytes := [97, 98, 116, 110, 118, 102, 114]
def iF (l : Bytes) : Int × Nat :=
 if l = [] then (-1, 0) else
 let c := atB l 0
 let k := Go.Lib.indexByte Fe c
 if 0 ≤ k then (7 + k, 1)
 else if c == 34 || c == 92 then (c.toNat, 1)
 else if c == 94 then (if decide (64 ≤ (atB l 1).toNat) && decide ((atB l 1).toNat ≤ 95) then ((atB l 1).toNat - 64, 2) else (-1, 0))
 else if c == 117 then (if 0 ≤ cB 16 4 (l.drop 1) then (cB 16 4 (l.drop 1), 5) else (-1, 0))
 else if aM c then (if 0 ≤ cB 10 3 l then (cB 10 3 l, 3) else (-1, 0))
 else if decide (0 < aT cg l) && atB l (aT cg l) == 92 then (-1, aT cg l + 1) else (-1, 0)
def bS : Nat → Bytes → Bytes → Nat → Option (Bytes × Nat)
 | 0, _, _, _ => none
 | _ + 1, [], _, _ => none
 | f + 1, c :: l, acc, n =>
  if c == 34 then some (acc, n + 1)
  else if decide (c.toNat < 32) || decide (126 < c.toNat) then none
  else if c != 92 then bS f l (acc ++ [c]) (n + 1)
  else
   let x := iF l
   if x.2 = 0 then none
   else bS f (l.drop x.2) (if 0 ≤ x.1 then acc ++ [x.1.toNat.toUInt8] else acc) (n + 1 + x.2)
def lg (l : Bytes) : Rd :=
 match bS (l.length + 1) (l.drop 1) [] 1 with
 | none => .error 42
 | some (s, n) => if 65536 < s.length then .error 2 else .ok (6, s, [], n)
def jw (l : Bytes) : Rd :=
 match bS (l.length + 1) (l.drop 2) [] 2 with
 | none => .error 42
 | some (s, n) => if s.length = 1 then .ok (7, s, [], n) else .error 42
def q8 (l : Bytes) : Rd :=
 if atB l 0 == 126 && aM (atB l 1) then cF l
 else if [35, 34].isPrefixOf l then jw l
 else
  let k := aT dV l
  .ok (if j6 (l.take k) then 1 else 2, l.take k, [], k)
def gL (l : Bytes) : Rd :=
 let c := atB l 0
 if eU c then fR (l.length + 1) [] 0 l
 else if aM c then cF l
 else if c == 126 || dV c then q8 l
 else if c == 34 then lg l
 else if c == 39 then nE l
 else jU l
def fK : Nat → Nat → Nat → Bytes → Option Nat
 | 0, _, _, _ => none
 | _ + 1, _, _, [] => none
 | f + 1, d, n, c :: l =>
  if [40, 42].isPrefixOf (c :: l) then fK f (d + 1) (n + 2) (l.drop 1)
  else if [42, 41].isPrefixOf (c :: l) then (if d = 1 then some (n + 2) else fK f (d - 1) (n + 2) (l.drop 1))
  else fK f d (n + 1) l
structure Tok where
 kind : Int
 text : Bytes
 path : List Bytes
 line : Int
 col : Int
deriving DecidableEq
def FY (p : Nat × Nat) (c : UInt8) : Nat × Nat := if c == 10 then (p.1 + 1, 1) else (p.1, p.2 + 1)
def adv (p : Nat × Nat) (l : Bytes) : Nat × Nat := l.foldl FY p
abbrev dS := Except (Nat × Nat × Nat) (List Tok)
def iL (rd : Bytes → Rd) (cm : Bytes → Option Nat) : Nat → Bytes → Nat × Nat → List Tok → dS
 | 0, _, _, acc => .ok acc
 | _ + 1, [], _, acc => .ok acc
 | f + 1, c :: l, p, acc =>
  if cg c then iL rd cm f l (FY p c) acc
  else if [40, 42].isPrefixOf (c :: l) then
   match cm (c :: l) with
   | none => .error (41, p.1, p.2)
   | some n => iL rd cm f ((c :: l).drop n) (adv p ((c :: l).take n)) acc
  else
   match rd (c :: l) with
   | .error e => .error (e, p.1, p.2)
   | .ok (k, t, pa, n) => iL rd cm f ((c :: l).drop n) (adv p ((c :: l).take n)) (acc ++ [⟨k, t, pa, p.1, p.2⟩])
def gJ (l : Bytes) : dS :=
 if 1048576 < l.length then .error (2, 0, 0) else iL gL (fun l => fK (l.length + 1) 0 0 l) (l.length + 1) l (1, 1) []
end Kiln
namespace Kiln
structure Nd where
 kind : Int
 text : Bytes
 path : List Bytes
 kids : List Int
 line : Int
 col : Int
deriving DecidableEq
structure Fx where
 level : Int
 right : Bool
 infx : Bool
deriving DecidableEq
abbrev Names := List (Bytes × Fx)
structure PS where
 pos : Nat
 nodes : List Nd
 deep : List Nat
 opn : Nat
 sc : List Names
deriving DecidableEq
inductive Flt where
 | stop (line col : Int) (e : Nat)
 | out
deriving DecidableEq
def M (α : Type) : Type := PS → Except Flt (α × PS)
def M.ret {α : Type} (a : α) : M α := fun st => .ok (a, st)
def M.bnd {α β : Type} (m : M α) (f : α → M β) : M β := fun st => match m st with
 | .error e => .error e
 | .ok x => f x.1 x.2
instance : Monad M where
 pure := M.ret
 bind := M.bnd
theorem bind_ok {α β : Type} {m : M α} {f : α → M β} {st st' : PS} {a : α} (h : m st = .ok (a, st')) : (m >>= f) st = f a st' := by
 show M.bnd m f st = _;unfold M.bnd;rw [h]
theorem dB {α β : Type} {m : M α} {f : α → M β} {st : PS} {e : Flt} (h : m st = .error e) : (m >>= f) st = .error e := by
 show M.bnd m f st = _;unfold M.bnd;rw [h]
def lF {α : Type} : M α := fun _ => .error .out
section
variable (ts : List Tok)
def qq : Tok := ⟨0, [], [], 0, 0⟩
def aB (k : Nat) (st : PS) : Tok := ts.getD (st.pos + k) qq
def ak (st : PS) : Int × Int := match ts[min st.pos (ts.length - 1)]? with
 | none => (0, 0)
 | some t => (t.line, t.col)
def dA : M (Int × Int) := fun st => .ok (ak ts st, st)
def jK {α : Type} : M α := fun st => .error (.stop (ak ts st).1 (ak ts st).2 50)
def gB : M Unit := fun st =>
 if 1000 < st.opn then .error .out
 else if 1000 < st.opn + 1 then .error (.stop (ak ts st).1 (ak ts st).2 52) else .ok ((), { st with opn := st.opn + 1 })
def dh : M Unit := fun st => if st.opn = 0 then .error .out else .ok ((), { st with opn := st.opn - 1 })
def ofP (i : Nat) (st : PS) : Int × Int := match st.nodes[i]? with
 | none => (0, 0)
 | some n => (n.line, n.col)
def ofM (i : Nat) : M (Int × Int) := fun st => if i < st.nodes.length then .ok (ofP i st, st) else .error .out
def cA {α : Type} (l : List α) : M Unit := fun st => if l.length < 1099511627776 then .ok ((), st) else .error .out
def iJ (deep : List Nat) : List Nat → Nat → Nat
 | [], d => d
 | i :: l, d => iJ deep l (max d (deep.getD i 0 + 1))
def aV (s : Int × Int) (k : Int) (text : Bytes) (kids : List Nat) : M Nat := fun st =>
 if kids.any fun i => !(decide (i < st.nodes.length) && decide (i < st.deep.length)) then .error .out
 else if 1000 < iJ st.deep kids 1 then .error (.stop s.1 s.2 52)
 else if 262144 ≤ st.nodes.length then .error (.stop s.1 s.2 3)
 else if 262144 ≤ st.deep.length then .error .out
 else .ok (st.nodes.length, { st with nodes := st.nodes ++ [⟨k, text, [], kids.map Int.ofNat, s.1, s.2⟩], deep := st.deep ++ [iJ st.deep kids 1] })
def mJ (k : Nat) : M Tok := fun st => .ok (aB ts k st, st)
def isP (k : Nat) (s : Bytes) (st : PS) : Bool := (aB ts k st).kind == 1 && (aB ts k st).text == s
def isM (k : Nat) (s : Bytes) : M Bool := fun st => .ok (isP ts k s st, st)
def cu (n : Nat) : M Unit := fun st => if st.pos + n ≤ ts.length then .ok ((), { st with pos := st.pos + n }) else .error .out
def aX (s : Bytes) : M Bool := fun st => if isP ts 0 s st then .ok (true, { st with pos := st.pos + 1 }) else .ok (false, st)
def bF (s : Bytes) : M Unit := fun st => if isP ts 0 s st then .ok ((), { st with pos := st.pos + 1 }) else jK ts st
def cJ (t : Tok) : Bool := t.kind == 2 && t.path.isEmpty
def Hf : Fx := ⟨0, false, false⟩
def eO (nm : Bytes) : Names → Option Fx
 | [] => none
 | p :: l => match eO nm l with
  | some f => some f
  | none => if p.1 == nm then some p.2 else none
def fP (nm : Bytes) : List Names → Fx
 | [] => Hf
 | s :: l => match eO nm s with
  | some f => f
  | none => fP nm l
def cO (t : Tok) (st : PS) : Bool := cJ t && (fP t.text st.sc).infx
def uP (t : Tok) : M Bool := fun st => .ok (cO t st, st)
def aW : M Bytes := fun st => if cJ (aB ts 0 st) then .ok ((aB ts 0 st).text, { st with pos := st.pos + 1 }) else jK ts st
def bM (k : Nat) (st : PS) : Bytes × Nat :=
 if cJ (aB ts k st) && !cO (aB ts k st) st then ((aB ts k st).text, 1)
 else if isP ts k [111, 112] st then
  (if cJ (aB ts (k + 1) st) then ((aB ts (k + 1) st).text, 2) else if isP ts (k + 1) [61] st then ([61], 2) else ([], 0))
 else ([], 0)
def xO (k : Nat) : M (Bytes × Nat) := fun st => .ok (bM ts k st, st)
def dF (st : PS) : Bytes :=
 let t := aB ts 0 st
 if cJ t then t.text
 else if t.kind == 4 && decide (49 ≤ (t.text.getD 0 0).toNat) && decide ((t.text.getD 0 0).toNat ≤ 57) then t.text else []
def qd (st : PS) : Bool := !((aB ts 0 st).kind == 4 && (aB ts 0 st).text == [])
def jm : M Bytes := fun st => if qd ts st then .ok (dF ts st, st) else .error .out
def cK : M Bytes := fun st => if qd ts st then (if dF ts st == [] then jK ts st else .ok (dF ts st, { st with pos := st.pos + 1 })) else .error .out
def setPath (i : Nat) (pa : List Bytes) : M Unit := fun st => .ok ((), { st with nodes := st.nodes.modify i fun n => { n with path := pa } })
def jV (k : Int) : M Nat := do
 let s ← dA ts
 let t ← mJ ts 0
 if t.kind == 2 then
  cu ts 1
  let i ← aV s k t.text []
  setPath i t.path
  pure i
 else jK ts
def dQ {α : Type} (m : M α) : M α := fun st => match m { st with sc := [] :: st.sc } with
 | .error e => .error e
 | .ok x => .ok (x.1, { x.2 with sc := x.2.sc.tail })
def dw (sign : Bytes) (one : M Nat) : Nat → List Nat → M (List Nat)
 | 0, _ => lF
 | f + 1, l => do
  if ← aX ts sign then
   let i ← one
   cA l
   dw sign one f (l ++ [i])
  else pure l
def qY (sign : Bytes) (one : M Nat) : M (List Nat) := do
 let i ← one
 dw ts sign one (ts.length + 1) [i]
def andM (one : M Nat) : M (List Nat) := qY ts [97, 110, 100] one
structure Low where
 exp : M Nat
 pat : M Nat
 ty : M Nat
 decs : M Nat
 str : M Nat
 sig : M Nat
variable (L : Low)
def rB : M Nat := do
 let a ← L.pat
 bF ts [61, 62]
 let e ← L.exp
 let s ← ofM a
 aV s 27 [] [a, e]
def kR : M (List Nat) := qY ts [124] (rB ts L)
def jq (sign : Bytes) (part : M Nat) : Nat → List Nat → M (List Nat)
 | 0, _ => lF
 | f + 1, l => do
  let s ← dA ts
  let text ← cK ts
  bF ts sign
  let e ← part
  let i ← aV s 28 text [e]
  cA l
  if ← aX ts [44] then jq sign part f (l ++ [i])
  else
   bF ts [125]
   pure (l ++ [i])
def jo (sign : Bytes) (part : M Nat) : M (List Nat) := do
 if ← aX ts [125] then pure []
 else jq ts sign part (ts.length + 1) []
def oF (end_ : Bytes) (part : M Nat) : M (List Nat) := do
 if ← aX ts end_ then pure []
 else
  let i ← part
  let l ← dw ts [44] part (ts.length + 1) [i]
  bF ts end_
  pure l
def mV (s : Int × Int) : M Nat := do
 if ← aX ts [41] then aV s 13 [] []
 else
  let i ← L.exp
  let semi ← isM ts 0 [59]
  let l ← dw ts (if semi then [59] else [44]) L.exp (ts.length + 1) [i]
  bF ts [41]
  if l.length == 1 then pure (l.getD 0 0) else aV s (if semi then 15 else 13) [] l
def Gc (s : Int × Int) : M Nat := do
 let l ← dQ (do
  let d ← L.decs
  bF ts [105, 110]
  let e ← L.exp
  let l ← dw ts [59] L.exp (ts.length + 1) [d, e]
  bF ts [101, 110, 100]
  pure l)
 aV s 16 [] l
def bZ (t : Tok) : Int := if t.kind == 4 then 1 else if t.kind == 5 then 2 else if t.kind == 6 then 3 else if t.kind == 7 then 4 else 0
def iG (st : PS) : Bool :=
 let t := aB ts 0 st
 if t.kind == 4 || t.kind == 5 || t.kind == 6 || t.kind == 7 then true
 else if t.kind == 2 then !cO t st
 else if t.kind == 1 then t.text == [111, 112] || t.text == [35] || t.text == [123] || t.text == [40] || t.text == [91] || t.text == [108, 101, 116]
 else false
def j4 : M Nat := do
 let s ← dA ts
 let t ← mJ ts 0
 if bZ t != 0 then
  cu ts 1
  aV s (bZ t) t.text []
 else
  let p ← xO ts 0
  if 0 < p.2 then
   cu ts p.2
   aV s 10 p.1 []
  else if t.kind == 2 && !t.path.isEmpty then jV ts 10
  else if ← aX ts [111, 112] then jK ts
  else if ← aX ts [35] then
   let text ← cK ts
   aV s 12 text []
  else if ← aX ts [123] then
   let l ← jo ts [61] L.exp
   aV s 11 [] l
  else if ← aX ts [40] then mV ts L s
  else if ← aX ts [91] then
   let l ← oF ts [93] L.exp
   aV s 14 [] l
  else if ← aX ts [108, 101, 116] then Gc ts L s
  else jK ts
def Gf : Nat → Nat → M Nat
 | 0, _ => lF
 | f + 1, e => do
  let b ← (fun st => .ok (iG ts st, st) : M Bool)
  if b then
   let s ← ofM e
   let a ← j4 ts L
   let e ← aV s 17 [] [e, a]
   Gf f e
  else pure e
def Dl : M Nat := do
 let e ← j4 ts L
 Gf ts L (ts.length + 1) e
structure Link where
 fx : Fx
 text : Bytes
 at_ : Int × Int
deriving DecidableEq
def kU (a b : Link) : M Bool := fun st =>
 if a.fx.level != b.fx.level then .ok (decide (b.fx.level < a.fx.level), st)
 else if a.fx.right != b.fx.right then .error (.stop b.at_.1 b.at_.2 51)
 else .ok (!a.fx.right, st)
def nu (args : List Nat) (x : Link) (exp : Bool) : M (List Nat) := if args.length < 2 then lF else do
 let f ← aV x.at_ (if exp then 10 else 31) x.text []
 let both ← aV x.at_ (if exp then 13 else 33) [] [args.getD (args.length - 2) 0, args.getD (args.length - 1) 0]
 let i ← aV x.at_ (if exp then 17 else 32) [] [f, both]
 pure (args.take (args.length - 2) ++ [i])
def zi (x : Link) (exp : Bool) : Nat → List Nat → List Link → M (List Nat × List Link)
 | 0, _, _ => lF
 | f + 1, args, ops => match ops.getLast? with
  | none => pure (args, ops)
  | some o => do
   if ← kU o x then
    let args ← nu args o exp
    zi x exp f args ops.dropLast
   else pure (args, ops)
def xD (operand : M Nat) (exp : Bool) : Nat → List Nat → List Link → M (List Nat × List Link)
 | 0, _, _ => lF
 | f + 1, args, ops => do
  let t ← mJ ts 0
  let eq ← isM ts 0 [61]
  let inf ← uP t
  if exp && eq || inf then
   let x ← (fun st => .ok (⟨fP t.text st.sc, t.text, ak ts st⟩, st) : M Link)
   cu ts 1
   let p ← zi x exp (ops.length + 1) args ops
   let i ← operand
   cA p.1
   cA p.2
   xD operand exp f (p.1 ++ [i]) (p.2 ++ [x])
  else pure (args, ops)
def foldM (exp : Bool) : Nat → List Nat → List Link → M (List Nat)
 | 0, _, _ => lF
 | f + 1, args, ops => match ops.getLast? with
  | none => pure args
  | some o => do
   let args ← nu args o exp
   foldM exp f args ops.dropLast
def zh (operand : M Nat) (exp : Bool) : M Nat := do
 let i ← operand
 let p ← xD ts operand exp (ts.length + 1) [i] []
 let args ← foldM exp (p.2.length + 1) p.1 p.2
 pure (args.getD 0 0)
def eD (k : Int) : Nat → Nat → M Nat
 | 0, _ => lF
 | f + 1, e => do
  if ← aX ts [58] then
   let s ← ofM e
   let t ← L.ty
   let e ← aV s k [] [e, t]
   eD k f e
  else pure e
def eG : M Nat := do
 let s ← dA ts
 if ← aX ts [105, 102] then
  let a ← L.exp
  bF ts [116, 104, 101, 110]
  let b ← L.exp
  bF ts [101, 108, 115, 101]
  let c ← L.exp
  aV s 23 [] [a, b, c]
 else if ← aX ts [119, 104, 105, 108, 101] then
  let a ← L.exp
  bF ts [100, 111]
  let b ← L.exp
  aV s 24 [] [a, b]
 else if ← aX ts [99, 97, 115, 101] then
  let a ← L.exp
  bF ts [111, 102]
  let l ← kR ts L
  aV s 25 [] (a :: l)
 else if ← aX ts [102, 110] then
  let l ← kR ts L
  aV s 26 [] l
 else if ← aX ts [114, 97, 105, 115, 101] then
  let a ← L.exp
  aV s 22 [] [a]
 else
  let e ← zh ts (Dl ts L) true
  eD ts L 18 (ts.length + 1) e
def jY (word : Bytes) (k : Int) (one : M Nat) : Nat → Nat → M Nat
 | 0, _ => lF
 | f + 1, e => do
  if ← aX ts word then
   let s ← ofM e
   let b ← one
   let e ← aV s k [] [e, b]
   jY word k one f e
  else pure e
def nY : M Nat := do
 let e ← eG ts L
 jY ts [97, 110, 100, 97, 108, 115, 111] 19 (eG ts L) (ts.length + 1) e
def orM : M Nat := do
 let e ← nY ts L
 jY ts [111, 114, 101, 108, 115, 101] 20 (nY ts L) (ts.length + 1) e
def gy : Nat → Nat → M Nat
 | 0, _ => lF
 | f + 1, e => do
  if ← aX ts [104, 97, 110, 100, 108, 101] then
   let s ← ofM e
   let l ← kR ts L
   let e ← aV s 21 [] (e :: l)
   gy f e
  else pure e
def Fa : M Nat := do
 gB ts
 let e ← orM ts L
 let e ← gy ts L (ts.length + 1) e
 dh
 pure e
end
end Kiln
namespace Kiln
section
variable (ts : List Tok) (L : Low)
def cN (st : PS) : Bool :=
 let t := aB ts 0 st
 if t.kind == 4 || t.kind == 6 || t.kind == 7 then true
 else if t.kind == 2 then !cO t st
 else if t.kind == 1 then t.text == [111, 112] || t.text == [95] || t.text == [123] || t.text == [40] || t.text == [91]
 else false
def vT : M Bool := fun st => .ok (cN ts st, st)
def eT (s : Int × Int) : M Nat := do
 let lb ← jm ts
 let eq ← isM ts 1 [61]
 if lb != [] && eq then
  let text ← cK ts
  cu ts 1
  let i ← L.pat
  aV s 28 text [i]
 else
  let t ← mJ ts 0
  if !cJ t then
   if lb != [] then
    cu ts 1
    jK ts
   else jK ts
  else
   let text ← aW ts
   let typed ← aX ts [58]
   let ty ← (if typed then L.ty else pure 0 : M Nat)
   if ← aX ts [97, 115] then
    let q ← L.pat
    let q ← (if typed then (do
     let o ← ofM q
     aV o 37 [] [q, ty]) else pure q : M Nat)
    let i ← aV s 38 text [q]
    aV s 28 text [i]
   else
    let i ← aV s 31 text []
    let i ← (if typed then aV s 37 [] [i, ty] else pure i : M Nat)
    aV s 28 text [i]
def dN : Nat → List Nat → M (List Nat)
 | 0, _ => lF
 | f + 1, l => do
  let s ← dA ts
  if ← aX ts [46, 46, 46] then
   let i ← aV s 35 [] []
   cA l
   bF ts [125]
   pure (l ++ [i])
  else
   let i ← eT ts L s
   cA l
   if ← aX ts [44] then dN f (l ++ [i])
   else
    bF ts [125]
    pure (l ++ [i])
def dZ : M (List Nat) := do
 if ← aX ts [125] then pure []
 else dN ts L (ts.length + 1) []
def dD : M Nat := do
 let s ← dA ts
 let t ← mJ ts 0
 if bZ t != 0 && bZ t != 2 then
  cu ts 1
  aV s (bZ t) t.text []
 else
  let p ← xO ts 0
  if 0 < p.2 then
   cu ts p.2
   aV s 31 p.1 []
  else if t.kind == 2 && !t.path.isEmpty then jV ts 31
  else if ← aX ts [111, 112] then jK ts
  else if ← aX ts [95] then aV s 30 [] []
  else if ← aX ts [40] then
   let l ← oF ts [41] L.pat
   if l.length == 1 then pure (l.getD 0 0) else aV s 33 [] l
  else if ← aX ts [91] then
   let l ← oF ts [93] L.pat
   aV s 36 [] l
  else if ← aX ts [123] then
   let l ← dZ ts L
   aV s 34 [] l
  else jK ts
def eC : M Nat := do
 let s ← dA ts
 let t ← mJ ts 0
 let p ← xO ts 0
 if p.2 == 0 && !(t.kind == 2 && !t.path.isEmpty) then dD ts L
 else
  let c ← dD ts L
  let b ← vT ts
  if !b then pure c
  else
   let a ← dD ts L
   aV s 32 [] [c, a]
def fE : M Nat := do
 let s ← dA ts
 let p ← xO ts 0
 let as ← (if 0 < p.2 then isM ts p.2 [97, 115] else pure false : M Bool)
 if as then
  cu ts (p.2 + 1)
  let i ← L.pat
  aV s 38 p.1 [i]
 else
  let col ← (if 0 < p.2 then isM ts p.2 [58] else pure false : M Bool)
  if col then
   cu ts (p.2 + 1)
   let t ← L.ty
   if ← aX ts [97, 115] then
    let q ← L.pat
    let o ← ofM q
    let i ← aV o 37 [] [q, t]
    aV s 38 p.1 [i]
   else
    let i ← aV s 31 p.1 []
    let i ← aV s 37 [] [i, t]
    eD ts L 37 (ts.length + 1) i
  else
   let i ← zh ts (eC ts L) false
   eD ts L 37 (ts.length + 1) i
def Et : M Nat := do
 gB ts
 let i ← fE ts L
 dh
 pure i
def iC (st : PS) : Bool := cJ (aB ts 0 st) && (aB ts 0 st).text == [42]
def Gx : M Bool := fun st => .ok (iC ts st, st)
def iY : M Nat := do
 let s ← dA ts
 let t ← mJ ts 0
 if t.kind == 3 then
  cu ts 1
  aV s 40 t.text []
 else jK ts
def iZ (args : List Nat) : M Nat := do
 let s ← dA ts
 let t ← mJ ts 0
 let b ← Gx ts
 if t.kind != 2 || b then jK ts
 else
  let s ← (match args with
   | [] => pure s
   | a :: _ => ofM a : M (Int × Int))
  cu ts 1
  let i ← aV s 41 t.text args
  setPath i t.path
  pure i
def qg : M Nat := do
 let s ← dA ts
 let t ← mJ ts 0
 if t.kind == 3 then iY ts
 else if t.kind == 2 then iZ ts []
 else if ← aX ts [123] then
  let l ← jo ts [58] L.ty
  aV s 43 [] l
 else if ← aX ts [40] then
  let l ← qY ts [44] L.ty
  bF ts [41]
  if l.length == 1 then pure (l.getD 0 0) else iZ ts l
 else jK ts
def gV : Nat → Nat → M Nat
 | 0, _ => lF
 | f + 1, i => do
  let t ← mJ ts 0
  let b ← Gx ts
  if t.kind == 2 && !b then
   let i ← iZ ts [i]
   gV f i
  else pure i
def dL : M Nat := do
 let i ← qg ts L
 gV ts (ts.length + 1) i
def eF : Nat → List Nat → M (List Nat)
 | 0, _ => lF
 | f + 1, l => do
  if ← Gx ts then
   cu ts 1
   let i ← dL ts L
   cA l
   eF f (l ++ [i])
  else pure l
def fC : M Nat := do
 let i ← dL ts L
 let l ← eF ts L (ts.length + 1) [i]
 if l.length == 1 then pure (l.getD 0 0)
 else
  let s ← ofM (l.getD 0 0)
  aV s 42 [] l
def tyM : M Nat := do
 gB ts
 let i ← fC ts L
 let i ← (do
  if ← aX ts [45, 62] then
   let s ← ofM i
   let t ← L.ty
   aV s 44 [] [i, t]
  else pure i : M Nat)
 dh
 pure i
def eB (t : Tok) : Bool := t.kind == 1 && (t.text == [118, 97, 108] || t.text == [102, 117, 110] || t.text == [116, 121, 112, 101] || t.text == [100, 97, 116, 97, 116, 121, 112, 101] || t.text == [101, 120, 99, 101, 112, 116, 105, 111, 110] || t.text == [108, 111, 99, 97, 108] || t.text == [111, 112, 101, 110] ||
 t.text == [105, 110, 102, 105, 120] || t.text == [105, 110, 102, 105, 120, 114] || t.text == [110, 111, 110, 102, 105, 120] || t.text == [115, 116, 114, 117, 99, 116, 117, 114, 101] || t.text == [115, 105, 103, 110, 97, 116, 117, 114, 101] || t.text == [102, 117, 110, 99, 116, 111, 114])
def bindM : M Nat := do
 let a ← L.pat
 bF ts [61]
 let e ← L.exp
 let s ← ofM a
 aV s 53 [] [a, e]
def fU : M (List Nat) := do
 let t ← mJ ts 0
 if t.kind == 3 then
  let i ← iY ts
  pure [i]
 else
  let b ← isM ts 0 [40]
  if !b then pure []
  else
   cu ts 1
   let l ← qY ts [44] (iY ts)
   bF ts [41]
   pure l
def gM : M Nat := do
 let s ← dA ts
 let l ← fU ts
 let n ← aW ts
 bF ts [61]
 let t ← L.ty
 cA l
 aV s 59 n (l ++ [t])
def kT (s : Int × Int) (n : Bytes) : M Nat := do
 if ← aX ts [111, 102] then
  let t ← L.ty
  aV s 62 n [t]
 else aV s 62 n []
def Dr : M Nat := do
 let s ← dA ts
 let _ ← aX ts [111, 112]
 let n ← aW ts
 kT ts L s n
def eM : M Nat := do
 let s ← dA ts
 let l ← fU ts
 let n ← aW ts
 bF ts [61]
 let c ← Dr ts L
 cA l
 let l ← dw ts [124] (Dr ts L) (ts.length + 1) (l ++ [c])
 aV s 61 n l
def fB (s : Int × Int) : M Nat := do
 let t ← mJ ts 0
 let eq ← isM ts 1 [61]
 let dt ← isM ts 2 [100, 97, 116, 97, 116, 121, 112, 101]
 if cJ t && eq && dt then
  let n ← aW ts
  cu ts 2
  let i ← jV ts 41
  aV s 63 n [i]
 else
  let l ← andM ts (eM ts L)
  aV s 60 [] l
def jr : M Nat := do
 let s ← dA ts
 let _ ← aX ts [111, 112]
 let n ← aW ts
 if ← aX ts [61] then
  let _ ← aX ts [111, 112]
  let i ← jV ts 10
  aV s 65 n [i]
 else kT ts L s n
def fA : Nat → List Nat → M (List Nat)
 | 0, _ => lF
 | f + 1, l => do
  if ← vT ts then
   let i ← dD ts L
   cA l
   fA f (l ++ [i])
  else pure l
def gN : M Nat := do
 let s ← dA ts
 let p ← xO ts 0
 let u ← mJ ts 1
 let inf ← uP u
 let q ← (do
  if p.2 == 2 || p.2 == 1 && !inf then
   cu ts p.2
   let a ← dD ts L
   let l ← fA ts L (ts.length + 1) [a]
   let o ← ofM (l.getD 0 0)
   let i ← aV o 57 [] l
   pure (p.1, i)
  else
   let op ← isM ts 0 [111, 112]
   if p.2 == 0 && op then
    cu ts 1
    jK ts
   else
    let a ← dD ts L
    let o ← dA ts
    let t ← mJ ts 0
    let inf ← uP t
    if !inf then jK ts
    else
     let text ← aW ts
     let b ← dD ts L
     let i ← aV o 33 [] [a, b]
     let i ← aV o 57 [] [i]
     pure (text, i) : M (Bytes × Nat))
 if ← aX ts [58] then
  let t ← L.ty
  bF ts [61]
  let e ← L.exp
  aV s 56 q.1 [q.2, e, t]
 else
  bF ts [61]
  let e ← L.exp
  aV s 56 q.1 [q.2, e]
def EZ : M Nat := do
 let s ← dA ts
 let l ← qY ts [124] (gN ts L)
 aV s 55 [] l
def cG (own : Names) : List Names → List Names
 | [] => []
 | s :: l => (s ++ own) :: l
def kQ (own : Names) : M Unit := fun st => if (st.sc.headD []).length + own.length < 1099511627776 then .ok ((), { st with sc := cG own st.sc }) else .error .out
def localM (s : Int × Int) : M Nat := do
 let x ← dQ (do
  let a ← L.decs
  bF ts [105, 110]
  let y ← dQ (do
   let b ← L.decs
   let own ← (fun st => .ok (st.sc.headD [], st) : M Names)
   pure (b, own))
  bF ts [101, 110, 100]
  pure (a, y))
 kQ x.2.2
 aV s 66 [] [x.1, x.2.1]
def uU (s : Int × Int) (text : Bytes) (f : Fx) : Nat → List Nat → M Nat
 | 0, _ => lF
 | k + 1, l => do
  let o ← dA ts
  let n ← aW ts
  kQ [(n, f)]
  let i ← aV o 31 n []
  cA l
  let t ← mJ ts 0
  if !cJ t then aV s 68 text (l ++ [i])
  else uU s text f k (l ++ [i])
def eu (s : Int × Int) (word : Bytes) : M Nat := do
 if word != [110, 111, 110, 102, 105, 120] then
  let t ← mJ ts 0
  if t.kind == 4 && t.text.length == 1 then
   cu ts 1
   uU ts s (word ++ 32 :: t.text) ⟨(t.text.getD 0 0 - 48).toNat, word == [105, 110, 102, 105, 120, 114], true⟩ (ts.length + 1) []
  else uU ts s (word ++ [32, 48]) ⟨0, word == [105, 110, 102, 105, 120, 114], true⟩ (ts.length + 1) []
 else uU ts s word ⟨0, word == [105, 110, 102, 105, 120, 114], false⟩ (ts.length + 1) []
def jF : Nat → List Nat → M (List Nat)
 | 0, _ => lF
 | f + 1, l => do
  let t ← mJ ts 0
  if t.kind == 2 then
   let i ← jV ts 81
   cA l
   jF f (l ++ [i])
  else pure l
def fO (sign : Bytes) : M Nat := do
 let s ← dA ts
 let n ← aW ts
 bF ts sign
 let g ← L.sig
 aV s 72 n [g]
def sW : M Nat := do
 let k ← (do
  if ← aX ts [58] then pure 83
  else if ← aX ts [58, 62] then pure 84
  else pure 0 : M Int)
 let g ← (if k != 0 then L.sig else pure 0 : M Nat)
 bF ts [61]
 let i ← L.str
 if k != 0 then
  let s ← ofM i
  aV s k [] [i, g]
 else pure i
def fZ : M Nat := do
 let s ← dA ts
 let n ← aW ts
 let b ← sW ts L
 aV s 70 n [b]
def gA : M Nat := do
 let s ← dA ts
 let n ← aW ts
 bF ts [40]
 let x ← fO ts L [58]
 bF ts [41]
 let b ← sW ts L
 aV s 74 n [x, b]
def Fq : M Nat := do
 let s ← dA ts
 let t ← mJ ts 0
 cu ts 1
 if t.text == [118, 97, 108] then
  if ← aX ts [114, 101, 99] then
   let l ← andM ts (bindM ts L)
   aV s 52 [] l
  else
   let l ← andM ts (bindM ts L)
   aV s 51 [] l
 else if t.text == [102, 117, 110] then
  let l ← andM ts (EZ ts L)
  aV s 54 [] l
 else if t.text == [116, 121, 112, 101] then
  let l ← andM ts (gM ts L)
  aV s 58 [] l
 else if t.text == [100, 97, 116, 97, 116, 121, 112, 101] then fB ts L s
 else if t.text == [101, 120, 99, 101, 112, 116, 105, 111, 110] then
  let l ← andM ts (jr ts L)
  aV s 64 [] l
 else if t.text == [108, 111, 99, 97, 108] then localM ts L s
 else if t.text == [111, 112, 101, 110] then
  let i ← jV ts 81
  let l ← jF ts (ts.length + 1) [i]
  aV s 67 [] l
 else if t.text == [115, 116, 114, 117, 99, 116, 117, 114, 101] then
  let l ← andM ts (fZ ts L)
  aV s 69 [] l
 else if t.text == [115, 105, 103, 110, 97, 116, 117, 114, 101] then
  let l ← andM ts (fO ts L [61])
  aV s 71 [] l
 else if t.text == [102, 117, 110, 99, 116, 111, 114] then
  let l ← andM ts (gA ts L)
  aV s 73 [] l
 else eu ts s t.text
def kW (s : Int × Int) : Nat → List Nat → M Nat
 | 0, _ => lF
 | f + 1, l => do
  if ← aX ts [59] then kW s f l
  else
   let t ← mJ ts 0
   if eB t then
    gB ts
    let i ← Fq ts L
    cA l
    dh
    kW s f (l ++ [i])
   else aV s 50 [] l
def mO : M Nat := do
 let s ← dA ts
 kW ts L s (ts.length + 1) []
def iD : M Nat := dQ L.decs
def lS : M Nat := do
 let s ← dA ts
 let t ← mJ ts 0
 if ← aX ts [115, 116, 114, 117, 99, 116] then
  let d ← iD L
  bF ts [101, 110, 100]
  aV s 80 [] [d]
 else if ← aX ts [108, 101, 116] then
  let x ← dQ (do
   let d ← L.decs
   bF ts [105, 110]
   let i ← L.str
   bF ts [101, 110, 100]
   pure (d, i))
  aV s 85 [] [x.1, x.2]
 else
  let b ← isM ts 1 [40]
  if cJ t && b then
   cu ts 2
   let u ← mJ ts 0
   let c ← isM ts 0 [41]
   let e ← isM ts 0 [59]
   let i ← (if eB u || c || e then (do
    let o ← dA ts
    let d ← iD L
    aV o 80 [] [d]) else L.str : M Nat)
   bF ts [41]
   aV s 82 t.text [i]
  else jV ts 81
def Ga : Nat → Nat → M Nat
 | 0, _ => lF
 | f + 1, i => do
  let o ← isM ts 0 [58, 62]
  let c ← isM ts 0 [58]
  if o || c then
   cu ts 1
   let s ← ofM i
   let g ← L.sig
   let i ← aV s (if o then 84 else 83) [] [i, g]
   Ga f i
  else
   dh
   pure i
def F9 : M Nat := do
 gB ts
 let i ← lS ts L
 Ga ts L (ts.length + 1) i
def dM : M Nat := do
 let s ← dA ts
 let l ← fU ts
 let n ← aW ts
 aV s 62 n l
def fS : M Nat := do
 let s ← dA ts
 let n ← aW ts
 bF ts [58]
 let t ← L.ty
 aV s 62 n [t]
def mQ (s : Int × Int) : M Nat := do
 let o ← dA ts
 let l ← fU ts
 let n ← aW ts
 if ← aX ts [61] then
  let t ← L.ty
  cA l
  let i ← aV o 59 n (l ++ [t])
  let l ← dw ts [97, 110, 100] (gM ts L) (ts.length + 1) [i]
  aV s 97 [] l
 else
  let i ← aV o 62 n l
  let l ← dw ts [97, 110, 100] (dM ts) (ts.length + 1) [i]
  aV s 95 [] l
def jM : M Nat := do
 let s ← dA ts
 let n ← aW ts
 kT ts L s n
def om : M Nat := do
 let s ← dA ts
 if ← aX ts [118, 97, 108] then
  let l ← andM ts (fS ts L)
  aV s 94 [] l
 else if ← aX ts [116, 121, 112, 101] then mQ ts L s
 else if ← aX ts [101, 113, 116, 121, 112, 101] then
  let l ← andM ts (dM ts)
  aV s 96 [] l
 else if ← aX ts [100, 97, 116, 97, 116, 121, 112, 101] then
  let l ← andM ts (eM ts L)
  aV s 98 [] l
 else if ← aX ts [101, 120, 99, 101, 112, 116, 105, 111, 110] then
  let l ← andM ts (jM ts L)
  aV s 99 [] l
 else if ← aX ts [115, 116, 114, 117, 99, 116, 117, 114, 101] then
  let l ← andM ts (fO ts L [58])
  aV s 100 [] l
 else jK ts
def jO : M Nat := do
 cu ts 1
 let s ← dA ts
 bF ts [116, 121, 112, 101]
 let l ← fU ts
 let t ← mJ ts 0
 if t.kind != 2 then jK ts
 else
  cu ts 1
  bF ts [61]
  let y ← L.ty
  cA l
  let i ← aV s 93 t.text (l ++ [y])
  setPath i t.path
  pure i
def fM : Nat → List Nat → M (List Nat)
 | 0, _ => lF
 | f + 1, l => do
  if ← isM ts 0 [101, 110, 100] then pure l
  else if ← aX ts [59] then fM f l
  else
   gB ts
   let i ← om ts L
   cA l
   dh
   fM f (l ++ [i])
def ez : Nat → Nat → M Nat
 | 0, _ => lF
 | f + 1, i => do
  if ← isM ts 0 [119, 104, 101, 114, 101] then
   let s ← ofM i
   let w ← jO ts L
   let i ← aV s 92 [] [i, w]
   ez f i
  else pure i
def Gb : M Nat := do
 gB ts
 let s ← dA ts
 let i ← (do
  if ← aX ts [115, 105, 103] then
   let l ← fM ts L (ts.length + 1) []
   bF ts [101, 110, 100]
   aV s 90 [] l
  else
   let n ← aW ts
   aV s 91 n [] : M Nat)
 let i ← ez ts L (ts.length + 1) i
 dh
 pure i
end
def iV (ts : List Tok) : Nat → Low
 | 0 => ⟨lF, lF, lF, lF, lF, lF⟩
 | n + 1 => ⟨Fa ts (iV ts n), Et ts (iV ts n), tyM ts (iV ts n), mO ts (iV ts n), F9 ts (iV ts n), Gb ts (iV ts n)⟩
def uV : Names := [([111], ⟨3, false, true⟩), ([58, 61], ⟨3, false, true⟩), ([98, 101, 102, 111, 114, 101], ⟨0, false, true⟩), ([58, 58], ⟨5, true, true⟩), ([64], ⟨5, true, true⟩),
 ([42], ⟨7, false, true⟩), ([47], ⟨7, false, true⟩), ([100, 105, 118], ⟨7, false, true⟩), ([109, 111, 100], ⟨7, false, true⟩), ([43], ⟨6, false, true⟩), ([45], ⟨6, false, true⟩), ([94], ⟨6, false, true⟩),
 ([61], ⟨4, false, true⟩), ([60, 62], ⟨4, false, true⟩), ([62], ⟨4, false, true⟩), ([62, 61], ⟨4, false, true⟩), ([60], ⟨4, false, true⟩), ([60, 61], ⟨4, false, true⟩)]
def eY (ts : List Tok) (L : Low) : M Nat := do
 let top ← mO ts L
 fun st => if st.pos < ts.length then jK ts st else .ok (top, st)
def ps0 : PS := ⟨0, [], [], 0, [uV]⟩
end Kiln
namespace Kiln
def kindOf (l : List Nd) (i : Int) : Int := match l[i.toNat]? with
 | some n => n.kind
 | none => 0
def bw : Nat → Int → Bool
 | 0, k => (decide (1 ≤ k) && decide (k ≤ 4)) || (decide (10 ≤ k) && decide (k ≤ 26))
 | 1, k => (k == 1) || ((k == 3) || ((k == 4) || ((decide (30 ≤ k) && decide (k ≤ 38)) && !(k == 35))))
 | 2, k => decide (40 ≤ k) && decide (k ≤ 44)
 | 3, k => [51, 52, 54, 58, 60, 63, 64, 66, 67, 68, 69, 71, 73].contains k
 | 4, k => decide (80 ≤ k) && decide (k ≤ 85)
 | 5, k => decide (90 ≤ k) && decide (k ≤ 92)
 | 6, k => decide (94 ≤ k) && decide (k ≤ 100)
 | _, k => (k == 62) || (k == 65)
def nextK (l : List Nd) : List Int → Int
 | [] => 0
 | k :: _ => kindOf l k
def G8 (l : List Nd) (k : Int) : List Int → Bool × List Int
 | [] => (false, [])
 | c :: r => if kindOf l c = k then (true, r) else (false, c :: r)
def ofG (l : List Nd) (g : Nat) : List Int → Bool × List Int
 | [] => (false, [])
 | c :: r => if bw g (kindOf l c) then (true, r) else (false, c :: r)
def cH (f : Int → Bool) : List Int → Nat × List Int
 | [] => (0, [])
 | c :: r => if f c then ((cH f r).1 + 1, (cH f r).2) else (0, c :: r)
def eZ (l : List Nd) (k : Int) (least : Int) (ks : List Int) : Bool := let x := cH (fun c => kindOf l c == k) ks; decide (least ≤ x.1) && x.2.isEmpty
def mI (l : List Nd) (g : Nat) (least : Int) (ks : List Int) : Bool := let x := cH (fun c => bw g (kindOf l c)) ks; decide (least ≤ x.1) && x.2.isEmpty
def seqB (l : List Nd) : List (Int → Bool) → List Int → Bool
 | [], ks => ks.isEmpty
 | _ :: _, [] => false
 | f :: fs, c :: r => f (kindOf l c) && seqB l fs r
def Aj (l : List Nd) : List Int → List Int
 | [] => []
 | [c] => [c]
 | c :: d :: r => if kindOf l c = 40 then Aj l (d :: r) else c :: d :: r
def inB (l : List Nd) (k : Int) (lo hi : Nat) (g : Int → Bool) (ks : List Int) : Bool := ks.all fun i => match l[i.toNat]? with
 | none => true
 | some n => !(n.kind == k) || (decide (lo ≤ n.kids.length) && decide (n.kids.length ≤ hi) && n.kids.all fun j => decide (0 ≤ j) && decide (j < i) && g (kindOf l j))
def aJ (l : List Nd) (n : Nd) : Bool :=
 if n.kind = 13 ∨ n.kind = 33 then !(n.kids.length == 1)
 else if n.kind = 11 then inB l 28 1 1 (bw 0) n.kids
 else if n.kind = 34 then inB l 28 1 1 (bw 1) n.kids
 else if n.kind = 43 then inB l 28 1 1 (bw 2) n.kids
 else if n.kind = 61 ∨ n.kind = 64 ∨ n.kind = 99 then inB l 62 0 1 (bw 2) n.kids
 else if n.kind = 94 then inB l 62 1 1 (bw 2) n.kids
 else if n.kind = 95 ∨ n.kind = 96 then inB l 62 0 1099511627776 (fun k => k == 40) n.kids
 else if n.kind = 63 then inB l 41 0 0 (bw 2) n.kids
 else true
def oH (l : List Nd) (f : Int → Bool) (rest : List Int → Bool) : List Int → Bool
 | [] => false
 | c :: r => f (kindOf l c) && rest r
def jC (l : List Nd) (k : Int) (ks : List Int) : Bool :=
 if k = 11 then eZ l 28 0 ks
 else if k = 13 ∨ k = 14 then mI l 0 0 ks
 else if k = 15 then mI l 0 2 ks
 else if k = 16 then oH l (· == 50) (mI l 0 1) ks
 else if k = 17 ∨ k = 19 ∨ k = 20 ∨ k = 24 then seqB l [bw 0, bw 0] ks
 else if k = 18 then seqB l [bw 0, bw 2] ks
 else if k = 21 ∨ k = 25 then oH l (bw 0) (eZ l 27 1) ks
 else if k = 22 then seqB l [bw 0] ks
 else if k = 23 then seqB l [bw 0, bw 0, bw 0] ks
 else if k = 26 then eZ l 27 1 ks
 else if k = 27 then seqB l [bw 1, bw 0] ks
 else false
def je (l : List Nd) (k : Int) (ks : List Int) : Bool :=
 if k = 32 then seqB l [(· == 31), bw 1] ks
 else if k = 33 ∨ k = 36 then mI l 1 0 ks
 else if k = 34 then (let r := (cH (fun c => kindOf l c == 28) ks).2; r.isEmpty || seqB l [(· == 35)] r)
 else if k = 37 then seqB l [bw 1, bw 2] ks
 else if k = 38 then seqB l [bw 1] ks
 else false
def F6 (l : List Nd) (k : Int) (ks : List Int) : Bool :=
 if k = 41 then mI l 2 0 ks
 else if k = 42 then mI l 2 2 ks
 else if k = 43 then eZ l 28 0 ks
 else if k = 44 then seqB l [bw 2, bw 2] ks
 else false
def lH (l : List Nd) (k : Int) (ks : List Int) : Bool :=
 if k = 61 then eZ l 62 1 (cH (fun c => kindOf l c == 40) ks).2
 else if k = 62 then mI l 2 0 ks
 else if k = 63 then seqB l [(· == 41)] ks
 else if k = 64 then mI l 7 1 ks
 else if k = 65 then seqB l [(· == 10)] ks
 else if k = 66 then seqB l [(· == 50), (· == 50)] ks
 else if k = 67 then eZ l 81 1 ks
 else if k = 68 then eZ l 31 1 ks
 else if k = 69 then eZ l 70 1 ks
 else if k = 70 then seqB l [bw 4] ks
 else if k = 71 then eZ l 72 1 ks
 else if k = 72 then seqB l [bw 5] ks
 else if k = 73 then eZ l 74 1 ks
 else if k = 74 then seqB l [(· == 72), bw 4] ks
 else false
def iR (l : List Nd) (k : Int) (ks : List Int) : Bool :=
 if k = 50 then mI l 3 0 ks
 else if k = 51 ∨ k = 52 then eZ l 53 1 ks
 else if k = 53 then seqB l [bw 1, bw 0] ks
 else if k = 54 then eZ l 55 1 ks
 else if k = 55 then eZ l 56 1 ks
 else if k = 56 then oH l (· == 57) (oH l (bw 0) fun r => r.isEmpty || seqB l [bw 2] r) ks
 else if k = 57 then mI l 1 1 ks
 else if k = 58 then eZ l 59 1 ks
 else if k = 59 then seqB l [bw 2] (Aj l ks)
 else if k = 60 then eZ l 61 1 ks
 else lH l k ks
def mK (l : List Nd) (k : Int) (ks : List Int) : Bool :=
 if k = 80 then seqB l [(· == 50)] ks
 else if k = 82 then seqB l [bw 4] ks
 else if k = 83 ∨ k = 84 then seqB l [bw 4, bw 5] ks
 else if k = 85 then seqB l [(· == 50), bw 4] ks
 else if k = 90 then mI l 6 0 ks
 else if k = 92 then seqB l [bw 5, (· == 93)] ks
 else if k = 93 then seqB l [bw 2] (Aj l ks)
 else if k = 94 ∨ k = 95 ∨ k = 96 ∨ k = 99 then eZ l 62 1 ks
 else if k = 97 then eZ l 59 1 ks
 else if k = 98 then eZ l 61 1 ks
 else if k = 100 then eZ l 72 1 ks
 else false
def cT (l : List Nd) (n : Nd) : Bool := aJ l n && (
 if n.kind = 1 ∨ n.kind = 2 ∨ n.kind = 3 ∨ n.kind = 4 ∨ n.kind = 10 ∨ n.kind = 12 ∨ n.kind = 30 ∨ n.kind = 31 ∨ n.kind = 35 ∨ n.kind = 40 ∨ n.kind = 81 ∨ n.kind = 91 then n.kids.isEmpty
 else if n.kind = 28 then seqB l [fun k => bw 0 k || bw 1 k || bw 2 k] n.kids
 else if n.kind < 30 then jC l n.kind n.kids
 else if n.kind < 40 then je l n.kind n.kids
 else if n.kind < 50 then F6 l n.kind n.kids
 else if n.kind < 80 then iR l n.kind n.kids
 else mK l n.kind n.kids)
def lT (l : List Nd) : Prop := ∀ (i : Nat) n, l[i]? = some n → (∀ k ∈ n.kids, 0 ≤ k ∧ k < (i : Int)) ∧ cT l n = true
theorem iW {l e : List Nd} {i : Int} (h : i < (l.length : Int)) (h0 : 0 ≤ i) : kindOf (l ++ e) i = kindOf l i := by
 unfold kindOf;rw [ξs (by omega)]
theorem kI {f g : Int → Bool} : ∀ {ks : List Int}, (∀ k ∈ ks, f k = g k) → cH f ks = cH g ks
 | [], _ => rfl
 | c :: r, h => by
  simp only [cH];rw [h c List.mem_cons_self, kI fun k hk => h k (ξA _ hk)]
def Rng (l : List Nd) (ks : List Int) : Prop := ∀ k ∈ ks, 0 ≤ k ∧ k < (l.length : Int)
theorem Rng.tail {l : List Nd} {c : Int} {r : List Int} (h : Rng l (c :: r)) : Rng l r := fun k hk => h k (ξA _ hk)
theorem Rng.head {l e : List Nd} {c : Int} {r : List Int} (h : Rng l (c :: r)) : kindOf (l ++ e) c = kindOf l c := iW (h c List.mem_cons_self).2 (h c List.mem_cons_self).1
theorem rS {f : Int → Bool} : ∀ {ks : List Int} {c : Int}, c ∈ (cH f ks).2 → c ∈ ks
 | [], c, h => by simp [cH] at h
 | d :: r, c, h => by
  simp only [cH] at h;split at h
  · exact ξA _ (rS h)
  · exact h
theorem bY {l e : List Nd} {k m : Int} {ks : List Int} (h : Rng l ks) : eZ (l ++ e) k m ks = eZ l k m ks := by
 unfold eZ;rw [kI fun c hc => by rw [iW (h c hc).2 (h c hc).1]]
theorem gH {l e : List Nd} {g : Nat} {m : Int} {ks : List Int} (h : Rng l ks) : mI (l ++ e) g m ks = mI l g m ks := by
 unfold mI;rw [kI fun c hc => by rw [iW (h c hc).2 (h c hc).1]]
theorem bR {l e : List Nd} : ∀ {fs : List (Int → Bool)} {ks : List Int}, Rng l ks → seqB (l ++ e) fs ks = seqB l fs ks
 | [], _, _ => rfl
 | _ :: _, [], _ => rfl
 | f :: fs, c :: r, h => by simp only [seqB]; rw [h.head, bR h.tail]
theorem nT {l e : List Nd} {f : Int → Bool} {r r' : List Int → Bool} {ks : List Int} (h : Rng l ks) (hr : ∀ t, Rng l t → r' t = r t) : oH (l ++ e) f r' ks = oH l f r ks := by
 cases ks with
 | nil => rfl
 | cons c t => simp only [oH]; rw [h.head, hr t h.tail]
theorem vE {l e : List Nd} : ∀ {ks : List Int}, Rng l ks → Aj (l ++ e) ks = Aj l ks
 | [], _ => rfl
 | [_], _ => rfl
 | c :: d :: r, h => by simp only [Aj]; rw [h.head, vE h.tail]
theorem vD {l : List Nd} : ∀ {ks : List Int} {c : Int}, c ∈ Aj l ks → c ∈ ks
 | [], _, h => h
 | [_], _, h => h
 | a :: d :: r, c, h => by
  simp only [Aj] at h;split at h
  · exact ξA _ (vD h)
  · exact h
theorem AU {l e : List Nd} {k : Int} {ks : List Int} (h : Rng l ks) : cH (fun c => kindOf (l ++ e) c == k) ks = cH (fun c => kindOf l c == k) ks :=
 kI fun c hc => by rw [iW (h c hc).2 (h c hc).1]
theorem J7 {l e : List Nd} {k : Int} {lo hi : Nat} {g : Int → Bool} {ks : List Int} (h : Rng l ks) : inB (l ++ e) k lo hi g ks = inB l k lo hi g ks := by
 unfold inB;rw [Bool.eq_iff_iff, List.all_eq_true, List.all_eq_true];refine forall_congr' fun i => forall_congr' fun hi => ?_;rw [ξs (by have := h i hi; omega)];cases hn : l[i.toNat]? with
 | none => rfl
 | some n =>
  simp only;rw [show (n.kids.all fun j => decide (0 ≤ j) && decide (j < i) && g (kindOf (l ++ e) j)) = (n.kids.all fun j => decide (0 ≤ j) && decide (j < i) && g (kindOf l j)) from ?_];rw [Bool.eq_iff_iff, List.all_eq_true, List.all_eq_true];refine forall_congr' fun j => forall_congr' fun _ => ?_;by_cases h0 : 0 ≤ j
  · by_cases h1 : j < i
    · rw [iW (by have := h i hi; omega) h0]
    · simp [h1]
  · simp [h0]
theorem zo {l e : List Nd} {n : Nd} (h : Rng l n.kids) : aJ (l ++ e) n = aJ l n := by
 unfold aJ;repeat rw [J7 h]
theorem E8 {l e : List Nd} {k : Int} {ks : List Int} (h : Rng l ks) : jC (l ++ e) k ks = jC l k ks := by
 unfold jC;rw [bY h, bY h, gH h, gH h, bR h, bR h, bR h, bR h, bR h,
  nT (r := mI l 0 1) h fun t ht => gH ht, nT (r := eZ l 27 1) h fun t ht => bY ht]
theorem Er {l e : List Nd} {k : Int} {ks : List Int} (h : Rng l ks) : je (l ++ e) k ks = je l k ks := by
 unfold je;rw [bR h, gH h, bR h, bR h, AU h];dsimp only;rw [bR (ks := (cH (fun c => kindOf l c == 28) ks).2) fun c hc => h c (rS hc)]
theorem Gn {l e : List Nd} {k : Int} {ks : List Int} (h : Rng l ks) : F6 (l ++ e) k ks = F6 l k ks := by
 unfold F6;rw [bR h, gH h, gH h, bY h]
theorem EK {l e : List Nd} {k : Int} {ks : List Int} (h : Rng l ks) : lH (l ++ e) k ks = lH l k ks := by
 unfold lH;rw [AU h, bY (ks := (cH (fun c => kindOf l c == 40) ks).2) fun c hc => h c (rS hc)];rw [gH h, gH h, bR h, bR h, bR h, bR h, bR h, bR h, bY h, bY h, bY h, bY h, bY h]
theorem Fj {l e : List Nd} {k : Int} {ks : List Int} (h : Rng l ks) : iR (l ++ e) k ks = iR l k ks := by
 unfold iR;rw [vE h, bR (ks := Aj l ks) fun c hc => h c (vD hc), EK h, gH h, gH h, bY h, bY h, bY h, bY h, bY h, bR h,
  nT (r := oH l (bw 0) fun r => r.isEmpty || seqB l [bw 2] r) h fun t ht => nT ht fun u hu => by rw [bR hu]]
theorem EL {l e : List Nd} {k : Int} {ks : List Int} (h : Rng l ks) : mK (l ++ e) k ks = mK l k ks := by
 unfold mK;rw [vE h, bR (ks := Aj l ks) fun c hc => h c (vD hc), bR h, bR h, bR h, bR h, bR h, gH h, bY h, bY h, bY h, bY h]
theorem Br {l e : List Nd} {n : Nd} (h : Rng l n.kids) : cT (l ++ e) n = cT l n := by
 unfold cT;rw [zo h, bR h, E8 h, Er h, Gn h, Fj h, EL h]
theorem lT.snoc {l : List Nd} {n : Nd} (h : lT l) (hr : Rng l n.kids) (hf : cT l n = true) : lT (l ++ [n]) := fun i m hm => by
 rcases Nat.lt_trichotomy i l.length with hi | hi | hi
 · rw [ξs hi] at hm;obtain ⟨h1, h2⟩ := h i m hm;exact ⟨h1, (Br fun k hk => ⟨(h1 k hk).1, by have := (h1 k hk).2; omega⟩).trans h2⟩
 · subst hi;simp only [List.getElem?_concat_length, ξO] at hm;subst hm;exact ⟨hr, (Br hr).trans hf⟩
 · rw [ξx (by simp; omega)] at hm; cases hm
theorem rU {f : Int → Bool} : ∀ {ks : List Int}, (∀ k ∈ ks, f k = true) → cH f ks = (ks.length, [])
 | [], _ => rfl
 | c :: r, h => by
  simp only [cH];rw [h c List.mem_cons_self, rU fun k hk => h k (ξA _ hk)];simp
theorem lZ {l : List Nd} {k m : Int} {ks : List Int} (h : ∀ c ∈ ks, kindOf l c = k) (hm : m ≤ (ks.length : Int)) : eZ l k m ks = true := by
 unfold eZ;rw [rU fun c hc => by simp [h c hc]];simp [hm]
theorem iI {l : List Nd} {g : Nat} {m : Int} {ks : List Int} (h : ∀ c ∈ ks, bw g (kindOf l c) = true) (hm : m ≤ (ks.length : Int)) : mI l g m ks = true := by
 unfold mI;rw [rU fun c hc => h c hc];simp [hm]
theorem DJ {l : List Nd} {t : Int} : ∀ {vs : List Int}, (∀ c ∈ vs, kindOf l c = 40) → Aj l (vs ++ [t]) = [t]
 | [], _ => rfl
 | [c], h => by simp [Aj, h c List.mem_cons_self]
 | c :: d :: r, h => by
  show (if kindOf l c = 40 then Aj l ((d :: r) ++ [t]) else _) = _;rw [ψi (h c List.mem_cons_self), DJ fun k hk => h k (ξA _ hk)]
theorem rT {f : Int → Bool} {r : List Int} (hr : ∀ c ∈ r.head?, f c = false) : ∀ {vs : List Int}, (∀ c ∈ vs, f c = true) → (cH f (vs ++ r)).2 = r
 | [], _ => by
  cases r with
  | nil => rfl
  | cons c t => simp only [List.nil_append, cH]; rw [hr c (by simp)]; rfl
 | c :: t, h => by
  simp only [List.cons_append, cH];rw [h c List.mem_cons_self];simp only [if_true];exact rT hr fun k hk => h k (ξA _ hk)
theorem EY {l : List Nd} {k : Int} {lo hi : Nat} {g : Int → Bool} {ks : List Int} (h : ∀ i ∈ ks, ∀ n, l[i.toNat]? = some n → n.kind = k → lo ≤ n.kids.length ∧ n.kids.length ≤ hi ∧ ∀ j ∈ n.kids, 0 ≤ j ∧ j < i ∧ g (kindOf l j) = true) : inB l k lo hi g ks = true := by
 unfold inB;rw [List.all_eq_true];intro i hi';cases hn : l[i.toNat]? with
 | none => rfl
 | some n =>
  simp only;by_cases hk : n.kind = k
  · obtain ⟨h1, h2, h3⟩ := h i hi' n hn hk;have h4 : (n.kids.all fun j => decide (0 ≤ j) && decide (j < i) && g (kindOf l j)) = true := by
     rw [List.all_eq_true]; intro j hj; obtain ⟨a, b, c⟩ := h3 j hj; simp [a, b, c]
    simp [h1, h2, h4]
  · simp [hk]
end Kiln
