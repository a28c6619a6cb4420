/- The program's parser as plain functions: patterns, types, declarations, structures, signatures, and the whole. No program in sight. -/
import Derived.Test.YtbchkldhnjahaaaGreatDoorTrSpec
namespace Kiln
section
variable (ts : List Tok) (L : Low)

/- patterns -/
def patternP (st : PS) : Bool :=
  let t := tokAt ts 0 st
  if t.kind == 4 || t.kind == 6 || t.kind == 7 then true
  else if t.kind == 2 then !infixP t st
  else if t.kind == 1 then t.text == [111, 112] || t.text == [95] || t.text == [123] || t.text == [40] || t.text == [91]
  else false
def patternM : M Bool := fun st => .ok (patternP ts st, st)
def patFieldM (s : Int × Int) : M Nat := do
  let lb ← labelM ts
  let eq ← isM ts 1 [61]
  if lb != [] && eq then
    let text ← takeLabelM ts
    skipM ts 1
    let i ← L.pat
    putM s 28 text [i]
  else
    let t ← tokM ts 0
    if !nameB t then
      if lb != [] then
        skipM ts 1
        synM ts
      else synM ts
    else
      let text ← takeNameM ts
      let typed ← takeM ts [58]
      let ty ← (if typed then L.ty else pure 0 : M Nat)
      if ← takeM ts [97, 115] then
        let q ← L.pat
        let q ← (if typed then (do
          let o ← ofM q
          putM o 37 [] [q, ty]) else pure q : M Nat)
        let i ← putM s 38 text [q]
        putM s 28 text [i]
      else
        let i ← putM s 31 text []
        let i ← (if typed then putM s 37 [] [i, ty] else pure i : M Nat)
        putM s 28 text [i]
def patFieldsL : Nat → List Nat → M (List Nat)
  | 0, _ => outM
  | f + 1, l => do
    let s ← hereM ts
    if ← takeM ts [46, 46, 46] then
      let i ← putM s 35 [] []
      roomM l
      mustM ts [125]
      pure (l ++ [i])
    else
      let i ← patFieldM ts L s
      roomM l
      if ← takeM ts [44] then patFieldsL f (l ++ [i])
      else
        mustM ts [125]
        pure (l ++ [i])
def patFieldsM : M (List Nat) := do
  if ← takeM ts [125] then pure []
  else patFieldsL ts L (ts.length + 1) []
def atpatM : M Nat := do
  let s ← hereM ts
  let t ← tokM ts 0
  if constK t != 0 && constK t != 2 then
    skipM ts 1
    putM s (constK t) t.text []
  else
    let p ← plainM ts 0
    if 0 < p.2 then
      skipM ts p.2
      putM s 31 p.1 []
    else if stageB then outM
    else if t.kind == 2 && !t.path.isEmpty then longM ts 31
    else if ← takeM ts [111, 112] then synM ts
    else if ← takeM ts [95] then putM s 30 [] []
    else if ← takeM ts [40] then
      let l ← listM ts [41] L.pat
      if l.length == 1 then pure (l.getD 0 0) else putM s 33 [] l
    else if ← takeM ts [91] then
      let l ← listM ts [93] L.pat
      putM s 36 [] l
    else if ← takeM ts [123] then
      let l ← patFieldsM ts L
      putM s 34 [] l
    else synM ts
def apppatM : M Nat := do
  let s ← hereM ts
  let t ← tokM ts 0
  let p ← plainM ts 0
  if p.2 == 0 && !(t.kind == 2 && !t.path.isEmpty) then atpatM ts L
  else
    let c ← atpatM ts L
    let b ← patternM ts
    if !b then pure c
    else if stageB then outM
    else
      let a ← atpatM ts L
      putM s 32 [] [c, a]
def layeredM : M Nat := do
  let s ← hereM ts
  let p ← plainM ts 0
  let as ← (if 0 < p.2 then isM ts p.2 [97, 115] else pure false : M Bool)
  if as && stageB then outM
  else if as then
    skipM ts (p.2 + 1)
    let i ← L.pat
    putM s 38 p.1 [i]
  else
    let col ← (if 0 < p.2 then isM ts p.2 [58] else pure false : M Bool)
    if col && stageB then outM
    else if col then
      skipM ts (p.2 + 1)
      let t ← L.ty
      if ← takeM ts [97, 115] then
        let q ← L.pat
        let o ← ofM q
        let i ← putM o 37 [] [q, t]
        putM s 38 p.1 [i]
      else
        let i ← putM s 31 p.1 []
        let i ← putM s 37 [] [i, t]
        typedL ts L 37 (ts.length + 1) i
    else
      let i ← rowM ts (apppatM ts L) false
      typedL ts L 37 (ts.length + 1) i
def patM : M Nat := do
  enterM ts
  let i ← layeredM ts L
  leaveM
  pure i

/- types -/
def starP (st : PS) : Bool := nameB (tokAt ts 0 st) && (tokAt ts 0 st).text == [42]
def starM : M Bool := fun st => .ok (starP ts st, st)
def tyvarM : M Nat := do
  let s ← hereM ts
  let t ← tokM ts 0
  if t.kind == 3 then
    skipM ts 1
    putM s 40 t.text []
  else synM ts
def tyconM (args : List Nat) : M Nat := do
  let s ← hereM ts
  let t ← tokM ts 0
  let b ← starM ts
  if t.kind != 2 || b then synM ts
  else
    let s ← (match args with
      | [] => pure s
      | a :: _ => ofM a : M (Int × Int))
    skipM ts 1
    let i ← putM s 41 t.text args
    setPath i t.path
    pure i
def attyM : M Nat := do
  let s ← hereM ts
  let t ← tokM ts 0
  if t.kind == 3 then tyvarM ts
  else if t.kind == 2 then tyconM ts []
  else if ← takeM ts [123] then
    let l ← fieldsM ts [58] L.ty
    putM s 43 [] l
  else if ← takeM ts [40] then
    let l ← someM ts [44] L.ty
    mustM ts [41]
    if l.length == 1 then pure (l.getD 0 0) else tyconM ts l
  else synM ts
def appliedL : Nat → Nat → M Nat
  | 0, _ => outM
  | f + 1, i => do
    let t ← tokM ts 0
    let b ← starM ts
    if t.kind == 2 && !b then
      let i ← tyconM ts [i]
      appliedL f i
    else pure i
def appliedM : M Nat := do
  let i ← attyM ts L
  appliedL ts (ts.length + 1) i
def productL : Nat → List Nat → M (List Nat)
  | 0, _ => outM
  | f + 1, l => do
    if ← starM ts then
      skipM ts 1
      let i ← appliedM ts L
      roomM l
      productL f (l ++ [i])
    else pure l
def productM : M Nat := do
  let i ← appliedM ts L
  let l ← productL ts L (ts.length + 1) [i]
  if l.length == 1 then pure (l.getD 0 0)
  else
    let s ← ofM (l.getD 0 0)
    putM s 42 [] l
def tyM : M Nat := do
  enterM ts
  let i ← productM ts L
  let i ← (do
    if ← takeM ts [45, 62] then
      let s ← ofM i
      let t ← L.ty
      putM s 44 [] [i, t]
    else pure i : M Nat)
  leaveM
  pure i

/- declarations -/
def beginsB (t : Tok) : Bool := t.kind == 1 && (t.text == [118, 97, 108] || t.text == [102, 117, 110] || t.text == [116, 121, 112, 101] || t.text == [100, 97, 116, 97, 116, 121, 112, 101] || t.text == [101, 120, 99, 101, 112, 116, 105, 111, 110] || t.text == [108, 111, 99, 97, 108] || t.text == [111, 112, 101, 110] ||
  t.text == [105, 110, 102, 105, 120] || t.text == [105, 110, 102, 105, 120, 114] || t.text == [110, 111, 110, 102, 105, 120] || t.text == [115, 116, 114, 117, 99, 116, 117, 114, 101] || t.text == [115, 105, 103, 110, 97, 116, 117, 114, 101] || t.text == [102, 117, 110, 99, 116, 111, 114])
def bindM : M Nat := do
  let a ← L.pat
  mustM ts [61]
  let e ← L.exp
  let s ← ofM a
  putM s 53 [] [a, e]
def tyvarsM : M (List Nat) := do
  let t ← tokM ts 0
  if t.kind == 3 then
    let i ← tyvarM ts
    pure [i]
  else
    let b ← isM ts 0 [40]
    if !b then pure []
    else
      skipM ts 1
      let l ← someM ts [44] (tyvarM ts)
      mustM ts [41]
      pure l
def tybindM : M Nat := do
  let s ← hereM ts
  let l ← tyvarsM ts
  let n ← takeNameM ts
  mustM ts [61]
  let t ← L.ty
  roomM l
  putM s 59 n (l ++ [t])
def carryM (s : Int × Int) (n : Bytes) : M Nat := do
  if ← takeM ts [111, 102] then
    let t ← L.ty
    putM s 62 n [t]
  else putM s 62 n []
def conM : M Nat := do
  let s ← hereM ts
  let _ ← takeM ts [111, 112]
  let n ← takeNameM ts
  carryM ts L s n
def datbindM : M Nat := do
  let s ← hereM ts
  let l ← tyvarsM ts
  let n ← takeNameM ts
  mustM ts [61]
  let c ← conM ts L
  roomM l
  let l ← moreM ts [124] (conM ts L) (ts.length + 1) (l ++ [c])
  putM s 61 n l
def datatypeM (s : Int × Int) : M Nat := do
  let t ← tokM ts 0
  let eq ← isM ts 1 [61]
  let dt ← isM ts 2 [100, 97, 116, 97, 116, 121, 112, 101]
  if nameB t && eq && dt then
    let n ← takeNameM ts
    skipM ts 2
    let i ← longM ts 41
    putM s 63 n [i]
  else
    let l ← andM ts (datbindM ts L)
    putM s 60 [] l
def exbindM : M Nat := do
  let s ← hereM ts
  let _ ← takeM ts [111, 112]
  let n ← takeNameM ts
  if ← takeM ts [61] then
    let _ ← takeM ts [111, 112]
    let i ← longM ts 10
    putM s 65 n [i]
  else carryM ts L s n
def atpatsL : Nat → List Nat → M (List Nat)
  | 0, _ => outM
  | f + 1, l => do
    if ← patternM ts then
      let i ← atpatM ts L
      roomM l
      atpatsL f (l ++ [i])
    else pure l
def clauseM : M Nat := do
  let s ← hereM ts
  let p ← plainM ts 0
  let u ← tokM ts 1
  let inf ← infixM u
  let q ← (do
    if p.2 == 2 || p.2 == 1 && !inf then
      skipM ts p.2
      let a ← atpatM ts L
      let l ← atpatsL ts L (ts.length + 1) [a]
      let o ← ofM (l.getD 0 0)
      let i ← putM o 57 [] l
      pure (p.1, i)
    else
      let op ← isM ts 0 [111, 112]
      if p.2 == 0 && op then
        skipM ts 1
        synM ts
      else
        let a ← atpatM ts L
        let o ← hereM ts
        let t ← tokM ts 0
        let inf ← infixM t
        if !inf then synM ts
        else
          let text ← takeNameM ts
          let b ← atpatM ts L
          let i ← putM o 33 [] [a, b]
          let i ← putM o 57 [] [i]
          pure (text, i) : M (Bytes × Nat))
  if ← takeM ts [58] then
    let t ← L.ty
    mustM ts [61]
    let e ← L.exp
    putM s 56 q.1 [q.2, e, t]
  else
    mustM ts [61]
    let e ← L.exp
    putM s 56 q.1 [q.2, e]
def funM : M Nat := do
  let s ← hereM ts
  let l ← someM ts [124] (clauseM ts L)
  putM s 55 [] l
def mergeN (own : Names) : List Names → List Names
  | [] => []
  | s :: l => (s ++ own) :: l
/-- the directives of one scope are also those of the scope that there is -/
def mergeM (own : Names) : M Unit := fun st => if (st.sc.headD []).length + own.length < 1099511627776 then .ok ((), { st with sc := mergeN own st.sc }) else .error .out
def localM (s : Int × Int) : M Nat := do
  let x ← innerM (do
    let a ← L.decs
    mustM ts [105, 110]
    let y ← innerM (do
      let b ← L.decs
      let own ← (fun st => .ok (st.sc.headD [], st) : M Names)
      pure (b, own))
    mustM ts [101, 110, 100]
    pure (a, y))
  mergeM x.2.2
  putM s 66 [] [x.1, x.2.1]
def fixL (s : Int × Int) (text : Bytes) (f : Fx) : Nat → List Nat → M Nat
  | 0, _ => outM
  | k + 1, l => do
    let o ← hereM ts
    let n ← takeNameM ts
    mergeM [(n, f)]
    let i ← putM o 31 n []
    roomM l
    let t ← tokM ts 0
    if !nameB t then putM s 68 text (l ++ [i])
    else fixL s text f k (l ++ [i])
def directiveM (s : Int × Int) (word : Bytes) : M Nat := do
  if word != [110, 111, 110, 102, 105, 120] then
    let t ← tokM ts 0
    if t.kind == 4 && t.text.length == 1 then
      skipM ts 1
      fixL ts s (word ++ 32 :: t.text) ⟨(t.text.getD 0 0 - 48).toNat, word == [105, 110, 102, 105, 120, 114], true⟩ (ts.length + 1) []
    else fixL ts s (word ++ [32, 48]) ⟨0, word == [105, 110, 102, 105, 120, 114], true⟩ (ts.length + 1) []
  else fixL ts s word ⟨0, word == [105, 110, 102, 105, 120, 114], false⟩ (ts.length + 1) []
def opensL : Nat → List Nat → M (List Nat)
  | 0, _ => outM
  | f + 1, l => do
    let t ← tokM ts 0
    if t.kind == 2 then
      let i ← longM ts 81
      roomM l
      opensL f (l ++ [i])
    else pure l

/- structures and signatures -/
def namedM (sign : Bytes) : M Nat := do
  let s ← hereM ts
  let n ← takeNameM ts
  mustM ts sign
  let g ← L.sig
  putM s 72 n [g]
def bodyM : M Nat := do
  let k ← (do
    if ← takeM ts [58] then pure 83
    else if ← takeM ts [58, 62] then pure 84
    else pure 0 : M Int)
  let g ← (if k != 0 then L.sig else pure 0 : M Nat)
  mustM ts [61]
  let i ← L.str
  if k != 0 then
    let s ← ofM i
    putM s k [] [i, g]
  else pure i
def strbindM : M Nat := do
  let s ← hereM ts
  let n ← takeNameM ts
  let b ← bodyM ts L
  putM s 70 n [b]
def functorM : M Nat := do
  let s ← hereM ts
  let n ← takeNameM ts
  mustM ts [40]
  let x ← namedM ts L [58]
  mustM ts [41]
  let b ← bodyM ts L
  putM s 74 n [x, b]
def decM : M Nat := do
  let s ← hereM ts
  let t ← tokM ts 0
  skipM ts 1
  if t.text == [118, 97, 108] then
    if ← takeM ts [114, 101, 99] then
      let l ← andM ts (bindM ts L)
      putM s 52 [] l
    else
      let l ← andM ts (bindM ts L)
      putM s 51 [] l
  else if stageB then outM
  else if t.text == [102, 117, 110] then
    let l ← andM ts (funM ts L)
    putM s 54 [] l
  else if t.text == [116, 121, 112, 101] then
    let l ← andM ts (tybindM ts L)
    putM s 58 [] l
  else if t.text == [100, 97, 116, 97, 116, 121, 112, 101] then datatypeM ts L s
  else if t.text == [101, 120, 99, 101, 112, 116, 105, 111, 110] then
    let l ← andM ts (exbindM ts L)
    putM s 64 [] l
  else if t.text == [108, 111, 99, 97, 108] then localM ts L s
  else if t.text == [111, 112, 101, 110] then
    let i ← longM ts 81
    let l ← opensL ts (ts.length + 1) [i]
    putM s 67 [] l
  else if t.text == [115, 116, 114, 117, 99, 116, 117, 114, 101] then
    let l ← andM ts (strbindM ts L)
    putM s 69 [] l
  else if t.text == [115, 105, 103, 110, 97, 116, 117, 114, 101] then
    let l ← andM ts (namedM ts L [61])
    putM s 71 [] l
  else if t.text == [102, 117, 110, 99, 116, 111, 114] then
    let l ← andM ts (functorM ts L)
    putM s 73 [] l
  else directiveM ts s t.text
def decsL (s : Int × Int) : Nat → List Nat → M Nat
  | 0, _ => outM
  | f + 1, l => do
    if ← takeM ts [59] then decsL s f l
    else
      let t ← tokM ts 0
      if beginsB t then
        enterM ts
        let i ← decM ts L
        roomM l
        leaveM
        decsL s f (l ++ [i])
      else putM s 50 [] l
def decsM : M Nat := do
  let s ← hereM ts
  decsL ts L s (ts.length + 1) []
def scopedM : M Nat := innerM L.decs
def basicM : M Nat := do
  let s ← hereM ts
  let t ← tokM ts 0
  if ← takeM ts [115, 116, 114, 117, 99, 116] then
    let d ← scopedM L
    mustM ts [101, 110, 100]
    putM s 80 [] [d]
  else if ← takeM ts [108, 101, 116] then
    let x ← innerM (do
      let d ← L.decs
      mustM ts [105, 110]
      let i ← L.str
      mustM ts [101, 110, 100]
      pure (d, i))
    putM s 85 [] [x.1, x.2]
  else
    let b ← isM ts 1 [40]
    if nameB t && b then
      skipM ts 2
      let u ← tokM ts 0
      let c ← isM ts 0 [41]
      let e ← isM ts 0 [59]
      let i ← (if beginsB u || c || e then (do
        let o ← hereM ts
        let d ← scopedM L
        putM o 80 [] [d]) else L.str : M Nat)
      mustM ts [41]
      putM s 82 t.text [i]
    else longM ts 81
def strL : Nat → Nat → M Nat
  | 0, _ => outM
  | f + 1, i => do
    let o ← isM ts 0 [58, 62]
    let c ← isM ts 0 [58]
    if o || c then
      skipM ts 1
      let s ← ofM i
      let g ← L.sig
      let i ← putM s (if o then 84 else 83) [] [i, g]
      strL f i
    else
      leaveM
      pure i
def strM : M Nat := do
  enterM ts
  let i ← basicM ts L
  strL ts L (ts.length + 1) i
def typespecM : M Nat := do
  let s ← hereM ts
  let l ← tyvarsM ts
  let n ← takeNameM ts
  putM s 62 n l
def valspecM : M Nat := do
  let s ← hereM ts
  let n ← takeNameM ts
  mustM ts [58]
  let t ← L.ty
  putM s 62 n [t]
def typesM (s : Int × Int) : M Nat := do
  let o ← hereM ts
  let l ← tyvarsM ts
  let n ← takeNameM ts
  if ← takeM ts [61] then
    let t ← L.ty
    roomM l
    let i ← putM o 59 n (l ++ [t])
    let l ← moreM ts [97, 110, 100] (tybindM ts L) (ts.length + 1) [i]
    putM s 97 [] l
  else
    let i ← putM o 62 n l
    let l ← moreM ts [97, 110, 100] (typespecM ts) (ts.length + 1) [i]
    putM s 95 [] l
def exspecM : M Nat := do
  let s ← hereM ts
  let n ← takeNameM ts
  carryM ts L s n
def specM : M Nat := do
  let s ← hereM ts
  if ← takeM ts [118, 97, 108] then
    let l ← andM ts (valspecM ts L)
    putM s 94 [] l
  else if ← takeM ts [116, 121, 112, 101] then typesM ts L s
  else if ← takeM ts [101, 113, 116, 121, 112, 101] then
    let l ← andM ts (typespecM ts)
    putM s 96 [] l
  else if ← takeM ts [100, 97, 116, 97, 116, 121, 112, 101] then
    let l ← andM ts (datbindM ts L)
    putM s 98 [] l
  else if ← takeM ts [101, 120, 99, 101, 112, 116, 105, 111, 110] then
    let l ← andM ts (exspecM ts L)
    putM s 99 [] l
  else if ← takeM ts [115, 116, 114, 117, 99, 116, 117, 114, 101] then
    let l ← andM ts (namedM ts L [58])
    putM s 100 [] l
  else synM ts
def whereM : M Nat := do
  skipM ts 1
  let s ← hereM ts
  mustM ts [116, 121, 112, 101]
  let l ← tyvarsM ts
  let t ← tokM ts 0
  if t.kind != 2 then synM ts
  else
    skipM ts 1
    mustM ts [61]
    let y ← L.ty
    roomM l
    let i ← putM s 93 t.text (l ++ [y])
    setPath i t.path
    pure i
def specsL : Nat → List Nat → M (List Nat)
  | 0, _ => outM
  | f + 1, l => do
    if ← isM ts 0 [101, 110, 100] then pure l
    else if ← takeM ts [59] then specsL f l
    else
      enterM ts
      let i ← specM ts L
      roomM l
      leaveM
      specsL f (l ++ [i])
def wheresL : Nat → Nat → M Nat
  | 0, _ => outM
  | f + 1, i => do
    if ← isM ts 0 [119, 104, 101, 114, 101] then
      let s ← ofM i
      let w ← whereM ts L
      let i ← putM s 92 [] [i, w]
      wheresL f i
    else pure i
def sigM : M Nat := do
  enterM ts
  let s ← hereM ts
  let i ← (do
    if ← takeM ts [115, 105, 103] then
      let l ← specsL ts L (ts.length + 1) []
      mustM ts [101, 110, 100]
      putM s 90 [] l
    else
      let n ← takeNameM ts
      putM s 91 n [] : M Nat)
  let i ← wheresL ts L (ts.length + 1) i
  leaveM
  pure i

end

/-- the phrases, so many deep -/
def lowM (ts : List Tok) : Nat → Low
  | 0 => ⟨outM, outM, outM, outM, outM, outM⟩
  | n + 1 => ⟨expM ts (lowM ts n), patM ts (lowM ts n), tyM ts (lowM ts n), decsM ts (lowM ts n), strM ts (lowM ts n), sigM ts (lowM ts n)⟩

def fix0 : Names := [([111], ⟨3, false, true⟩), ([58, 61], ⟨3, false, true⟩), ([98, 101, 102, 111, 114, 101], ⟨0, false, true⟩), ([58, 58], ⟨5, true, true⟩), ([64], ⟨5, true, true⟩),
  ([42], ⟨7, false, true⟩), ([47], ⟨7, false, true⟩), ([100, 105, 118], ⟨7, false, true⟩), ([109, 111, 100], ⟨7, false, true⟩), ([43], ⟨6, false, true⟩), ([45], ⟨6, false, true⟩), ([94], ⟨6, false, true⟩),
  ([61], ⟨4, false, true⟩), ([60, 62], ⟨4, false, true⟩), ([62], ⟨4, false, true⟩), ([62, 61], ⟨4, false, true⟩), ([60], ⟨4, false, true⟩), ([60, 61], ⟨4, false, true⟩)]

/-- the parser, from its start -/
def parseM (ts : List Tok) (n : Nat) : M Nat := do
  let i ← decsM ts (lowM ts n)
  (fun st => if st.pos < ts.length then synM ts st else .ok (i, st) : M Nat)

end Kiln
