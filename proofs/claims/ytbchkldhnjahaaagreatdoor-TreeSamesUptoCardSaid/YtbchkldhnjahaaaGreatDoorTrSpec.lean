/- The program's parser as plain functions: a state, and what each of its functions does to it. No program in sight. -/
import Derived.Test.YtbchkldhnjahaaaGreatDoorLexSpec
namespace Kiln

/-- a node -/
structure Nd where
  kind : Int
  text : Bytes
  path : List Bytes
  kids : List Int
  line : Int
  col : Int
deriving DecidableEq

/-- what a name is -/
structure Fx where
  level : Int
  right : Bool
  infx : Bool
deriving DecidableEq

/-- a scope's directives, the last one of a name counts -/
abbrev Names := List (Bytes × Fx)

/-- the parser's state -/
structure PS where
  pos : Nat
  nodes : List Nd
  deep : List Nat
  opn : Nat
  sc : List Names
deriving DecidableEq

/-- where it gives up; out: what is not told here -/
inductive Flt where
  | stop (line col : Int) (e : Nat)
  | out
deriving DecidableEq

def M (α : Type) : Type := PS → Except Flt (α × PS)
def M.ret {α : Type} (a : α) : M α := fun st => .ok (a, st)
def M.bnd {α β : Type} (m : M α) (f : α → M β) : M β := fun st => match m st with
  | .error e => .error e
  | .ok x => f x.1 x.2
instance : Monad M where
  pure := M.ret
  bind := M.bnd

theorem bind_ok {α β : Type} {m : M α} {f : α → M β} {st st' : PS} {a : α} (h : m st = .ok (a, st')) : (m >>= f) st = f a st' := by
  show M.bnd m f st = _
  unfold M.bnd
  rw [h]
theorem bind_err {α β : Type} {m : M α} {f : α → M β} {st : PS} {e : Flt} (h : m st = .error e) : (m >>= f) st = .error e := by
  show M.bnd m f st = _
  unfold M.bnd
  rw [h]
theorem pure_at {α : Type} (a : α) (st : PS) : (pure a : M α) st = .ok (a, st) := rfl

/-- stands where a part of the parser is not walked yet: to be taken out, with its tests -/
def stageB : Bool := true

/-- nothing is told -/
def outM {α : Type} : M α := fun _ => .error .out

section
variable (ts : List Tok)

def tok0 : Tok := ⟨0, [], [], 0, 0⟩
def tokAt (k : Nat) (st : PS) : Tok := ts.getD (st.pos + k) tok0
def hereP (st : PS) : Int × Int := match ts[min st.pos (ts.length - 1)]? with
  | none => (0, 0)
  | some t => (t.line, t.col)
def hereM : M (Int × Int) := fun st => .ok (hereP ts st, st)
def stopM {α : Type} (s : Int × Int) (e : Nat) : M α := fun _ => .error (.stop s.1 s.2 e)
def synM {α : Type} : M α := fun st => .error (.stop (hereP ts st).1 (hereP ts st).2 50)
def enterM : M Unit := fun st =>
  if 1000 < st.opn then .error .out
  else if 1000 < st.opn + 1 then .error (.stop (hereP ts st).1 (hereP ts st).2 52) else .ok ((), { st with opn := st.opn + 1 })
def leaveM : M Unit := fun st => if st.opn = 0 then .error .out else .ok ((), { st with opn := st.opn - 1 })
def ofP (i : Nat) (st : PS) : Int × Int := match st.nodes[i]? with
  | none => (0, 0)
  | some n => (n.line, n.col)
def ofM (i : Nat) : M (Int × Int) := fun st => if i < st.nodes.length then .ok (ofP i st, st) else .error .out
/-- room for one more -/
def roomM {α : Type} (l : List α) : M Unit := fun st => if l.length < 1099511627776 then .ok ((), st) else .error .out
def deepOf (deep : List Nat) : List Nat → Nat → Nat
  | [], d => d
  | i :: l, d => deepOf deep l (max d (deep.getD i 0 + 1))
def putM (s : Int × Int) (k : Int) (text : Bytes) (kids : List Nat) : M Nat := fun st =>
  if kids.any fun i => !(decide (i < st.nodes.length) && decide (i < st.deep.length)) then .error .out
  else if 1000 < deepOf st.deep kids 1 then .error (.stop s.1 s.2 52)
  else if 262144 ≤ st.nodes.length then .error (.stop s.1 s.2 3)
  else if 262144 ≤ st.deep.length then .error .out
  else .ok (st.nodes.length, { st with nodes := st.nodes ++ [⟨k, text, [], kids.map Int.ofNat, s.1, s.2⟩], deep := st.deep ++ [deepOf st.deep kids 1] })
def tokM (k : Nat) : M Tok := fun st => .ok (tokAt ts k st, st)
def isP (k : Nat) (s : Bytes) (st : PS) : Bool := (tokAt ts k st).kind == 1 && (tokAt ts k st).text == s
def isM (k : Nat) (s : Bytes) : M Bool := fun st => .ok (isP ts k s st, st)
def skipM (n : Nat) : M Unit := fun st => if st.pos + n ≤ ts.length then .ok ((), { st with pos := st.pos + n }) else .error .out
def takeM (s : Bytes) : M Bool := fun st => if isP ts 0 s st then .ok (true, { st with pos := st.pos + 1 }) else .ok (false, st)
def mustM (s : Bytes) : M Unit := fun st => if isP ts 0 s st then .ok ((), { st with pos := st.pos + 1 }) else synM ts st
def nameB (t : Tok) : Bool := t.kind == 2 && t.path.isEmpty
def noFx : Fx := ⟨0, false, false⟩
def lookN (nm : Bytes) : Names → Option Fx
  | [] => none
  | p :: l => match lookN nm l with
    | some f => some f
    | none => if p.1 == nm then some p.2 else none
def lookP (nm : Bytes) : List Names → Fx
  | [] => noFx
  | s :: l => match lookN nm s with
    | some f => f
    | none => lookP nm l
def infixP (t : Tok) (st : PS) : Bool := nameB t && (lookP t.text st.sc).infx
def infixM (t : Tok) : M Bool := fun st => .ok (infixP t st, st)
def takeNameM : M Bytes := fun st => if nameB (tokAt ts 0 st) then .ok ((tokAt ts 0 st).text, { st with pos := st.pos + 1 }) else synM ts st
def plainP (k : Nat) (st : PS) : Bytes × Nat :=
  if nameB (tokAt ts k st) && !infixP (tokAt ts k st) st then ((tokAt ts k st).text, 1)
  else if isP ts k [111, 112] st then
    (if nameB (tokAt ts (k + 1) st) then ((tokAt ts (k + 1) st).text, 2) else if isP ts (k + 1) [61] st then ([61], 2) else ([], 0))
  else ([], 0)
def plainM (k : Nat) : M (Bytes × Nat) := fun st => .ok (plainP ts k st, st)
def labelP (st : PS) : Bytes :=
  let t := tokAt ts 0 st
  if nameB t then t.text
  else if t.kind == 4 && decide (49 ≤ (t.text.getD 0 0).toNat) && decide ((t.text.getD 0 0).toNat ≤ 57) then t.text else []
/-- a number has a digit -/
def textB (st : PS) : Bool := !((tokAt ts 0 st).kind == 4 && (tokAt ts 0 st).text == [])
def labelM : M Bytes := fun st => if textB ts st then .ok (labelP ts st, st) else .error .out
def takeLabelM : M Bytes := fun st => if textB ts st then (if labelP ts st == [] then synM ts st else .ok (labelP ts st, { st with pos := st.pos + 1 })) else .error .out
def setPath (i : Nat) (pa : List Bytes) : M Unit := fun st => .ok ((), { st with nodes := st.nodes.modify i fun n => { n with path := pa } })
def longM (k : Int) : M Nat := do
  let s ← hereM ts
  let t ← tokM ts 0
  if t.kind == 2 then
    skipM ts 1
    let i ← putM s k t.text []
    setPath i t.path
    pure i
  else synM ts
/-- a part in a scope of its own -/
def innerM {α : Type} (m : M α) : M α := fun st => match m { st with sc := [] :: st.sc } with
  | .error e => .error e
  | .ok x => .ok (x.1, { x.2 with sc := x.2.sc.tail })

/-- one or more, with a sign between -/
def moreM (sign : Bytes) (one : M Nat) : Nat → List Nat → M (List Nat)
  | 0, _ => outM
  | f + 1, l => do
    if ← takeM ts sign then
      let i ← one
      roomM l
      moreM sign one f (l ++ [i])
    else pure l
def someM (sign : Bytes) (one : M Nat) : M (List Nat) := do
  let i ← one
  moreM ts sign one (ts.length + 1) [i]
def andM (one : M Nat) : M (List Nat) := someM ts [97, 110, 100] one

/-- what is read one phrase lower -/
structure Low where
  exp : M Nat
  pat : M Nat
  ty : M Nat
  decs : M Nat
  str : M Nat
  sig : M Nat
variable (L : Low)

def ruleM : M Nat := do
  let a ← L.pat
  mustM ts [61, 62]
  let e ← L.exp
  let s ← ofM a
  putM s 27 [] [a, e]
def matchM : M (List Nat) := someM ts [124] (ruleM ts L)

/-- fields, up to a brace -/
def fieldsL (sign : Bytes) (part : M Nat) : Nat → List Nat → M (List Nat)
  | 0, _ => outM
  | f + 1, l => do
    let s ← hereM ts
    let text ← takeLabelM ts
    mustM ts sign
    let e ← part
    let i ← putM s 28 text [e]
    roomM l
    if ← takeM ts [44] then fieldsL sign part f (l ++ [i])
    else
      mustM ts [125]
      pure (l ++ [i])
def fieldsM (sign : Bytes) (part : M Nat) : M (List Nat) := do
  if ← takeM ts [125] then pure []
  else fieldsL ts sign part (ts.length + 1) []
def listM (end_ : Bytes) (part : M Nat) : M (List Nat) := do
  if ← takeM ts end_ then pure []
  else
    let i ← part
    let l ← moreM ts [44] part (ts.length + 1) [i]
    mustM ts end_
    pure l
def parenM (s : Int × Int) : M Nat := do
  if ← takeM ts [41] then putM s 13 [] []
  else
    let i ← L.exp
    let semi ← isM ts 0 [59]
    let l ← moreM ts (if semi then [59] else [44]) L.exp (ts.length + 1) [i]
    mustM ts [41]
    if l.length == 1 then pure (l.getD 0 0) else putM s (if semi then 15 else 13) [] l
def letM (s : Int × Int) : M Nat := do
  let l ← innerM (do
    let d ← L.decs
    mustM ts [105, 110]
    let e ← L.exp
    let l ← moreM ts [59] L.exp (ts.length + 1) [d, e]
    mustM ts [101, 110, 100]
    pure l)
  putM s 16 [] l

def constK (t : Tok) : Int := if t.kind == 4 then 1 else if t.kind == 5 then 2 else if t.kind == 6 then 3 else if t.kind == 7 then 4 else 0
def atomicP (st : PS) : Bool :=
  let t := tokAt ts 0 st
  if t.kind == 4 || t.kind == 5 || t.kind == 6 || t.kind == 7 then true
  else if t.kind == 2 then !infixP t st
  else if t.kind == 1 then t.text == [111, 112] || t.text == [35] || t.text == [123] || t.text == [40] || t.text == [91] || t.text == [108, 101, 116]
  else false
def atexpM : M Nat := do
  let s ← hereM ts
  let t ← tokM ts 0
  if constK t != 0 then
    skipM ts 1
    putM s (constK t) t.text []
  else
    let p ← plainM ts 0
    if 0 < p.2 then
      skipM ts p.2
      putM s 10 p.1 []
    else if stageB then outM
    else if t.kind == 2 && !t.path.isEmpty then longM ts 10
    else if ← takeM ts [111, 112] then synM ts
    else if ← takeM ts [35] then
      let text ← takeLabelM ts
      putM s 12 text []
    else if ← takeM ts [123] then
      let l ← fieldsM ts [61] L.exp
      putM s 11 [] l
    else if ← takeM ts [40] then parenM ts L s
    else if ← takeM ts [91] then
      let l ← listM ts [93] L.exp
      putM s 14 [] l
    else if ← takeM ts [108, 101, 116] then letM ts L s
    else synM ts
def appL : Nat → Nat → M Nat
  | 0, _ => outM
  | f + 1, e => do
    let b ← (fun st => .ok (atomicP ts st, st) : M Bool)
    if b then
      let s ← ofM e
      let a ← atexpM ts L
      let e ← putM s 17 [] [e, a]
      appL f e
    else pure e
def appM : M Nat := do
  let e ← atexpM ts L
  appL ts L (ts.length + 1) e

/-- an infix name between two operands -/
structure Link where
  fx : Fx
  text : Bytes
  at_ : Int × Int
deriving DecidableEq
def aheadM (a b : Link) : M Bool := fun st =>
  if a.fx.level != b.fx.level then .ok (decide (b.fx.level < a.fx.level), st)
  else if a.fx.right != b.fx.right then .error (.stop b.at_.1 b.at_.2 51)
  else .ok (!a.fx.right, st)
def joinM (args : List Nat) (x : Link) (exp : Bool) : M (List Nat) := if args.length < 2 then outM else do
  let f ← putM x.at_ (if exp then 10 else 31) x.text []
  let both ← putM x.at_ (if exp then 13 else 33) [] [args.getD (args.length - 2) 0, args.getD (args.length - 1) 0]
  let i ← putM x.at_ (if exp then 17 else 32) [] [f, both]
  pure (args.take (args.length - 2) ++ [i])
/-- joins what goes ahead of a name -/
def popM (x : Link) (exp : Bool) : Nat → List Nat → List Link → M (List Nat × List Link)
  | 0, _, _ => outM
  | f + 1, args, ops => match ops.getLast? with
    | none => pure (args, ops)
    | some o => do
      if ← aheadM o x then
        let args ← joinM args o exp
        popM x exp f args ops.dropLast
      else pure (args, ops)
def rowL (operand : M Nat) (exp : Bool) : Nat → List Nat → List Link → M (List Nat × List Link)
  | 0, _, _ => outM
  | f + 1, args, ops => do
    let t ← tokM ts 0
    let eq ← isM ts 0 [61]
    let inf ← infixM t
    if exp && eq || inf then
      let x ← (fun st => .ok (⟨lookP t.text st.sc, t.text, hereP ts st⟩, st) : M Link)
      skipM ts 1
      let p ← popM x exp (ops.length + 1) args ops
      let i ← operand
      roomM p.1
      roomM p.2
      rowL operand exp f (p.1 ++ [i]) (p.2 ++ [x])
    else pure (args, ops)
def foldM (exp : Bool) : Nat → List Nat → List Link → M (List Nat)
  | 0, _, _ => outM
  | f + 1, args, ops => match ops.getLast? with
    | none => pure args
    | some o => do
      let args ← joinM args o exp
      foldM exp f args ops.dropLast
def rowM (operand : M Nat) (exp : Bool) : M Nat := do
  let i ← operand
  let p ← rowL ts operand exp (ts.length + 1) [i] []
  let args ← foldM exp (p.2.length + 1) p.1 p.2
  pure (args.getD 0 0)

/-- an expression or a pattern with types behind it -/
def typedL (k : Int) : Nat → Nat → M Nat
  | 0, _ => outM
  | f + 1, e => do
    if ← takeM ts [58] then
      let s ← ofM e
      let t ← L.ty
      let e ← putM s k [] [e, t]
      typedL k f e
    else pure e
def operandM : M Nat := do
  let s ← hereM ts
  if ← takeM ts [105, 102] then
    if stageB then outM else do
    let a ← L.exp
    mustM ts [116, 104, 101, 110]
    let b ← L.exp
    mustM ts [101, 108, 115, 101]
    let c ← L.exp
    putM s 23 [] [a, b, c]
  else if ← takeM ts [119, 104, 105, 108, 101] then
    if stageB then outM else do
    let a ← L.exp
    mustM ts [100, 111]
    let b ← L.exp
    putM s 24 [] [a, b]
  else if ← takeM ts [99, 97, 115, 101] then
    if stageB then outM else do
    let a ← L.exp
    mustM ts [111, 102]
    let l ← matchM ts L
    putM s 25 [] (a :: l)
  else if ← takeM ts [102, 110] then
    if stageB then outM else do
    let l ← matchM ts L
    putM s 26 [] l
  else if ← takeM ts [114, 97, 105, 115, 101] then
    if stageB then outM else do
    let a ← L.exp
    putM s 22 [] [a]
  else
    let e ← rowM ts (appM ts L) true
    typedL ts L 18 (ts.length + 1) e
/-- operands with a word between -/
def chainL (word : Bytes) (k : Int) (one : M Nat) : Nat → Nat → M Nat
  | 0, _ => outM
  | f + 1, e => do
    if ← takeM ts word then
      let s ← ofM e
      let b ← one
      let e ← putM s k [] [e, b]
      chainL word k one f e
    else pure e
def bothM : M Nat := do
  let e ← operandM ts L
  chainL ts [97, 110, 100, 97, 108, 115, 111] 19 (operandM ts L) (ts.length + 1) e
def orM : M Nat := do
  let e ← bothM ts L
  chainL ts [111, 114, 101, 108, 115, 101] 20 (bothM ts L) (ts.length + 1) e
def handleL : Nat → Nat → M Nat
  | 0, _ => outM
  | f + 1, e => do
    if ← takeM ts [104, 97, 110, 100, 108, 101] then
      let s ← ofM e
      let l ← matchM ts L
      let e ← putM s 21 [] (e :: l)
      handleL f e
    else pure e
def expM : M Nat := do
  enterM ts
  let e ← orM ts L
  let e ← handleL ts L (ts.length + 1) e
  leaveM
  pure e

end
end Kiln
