/-
  An evaluator of Go functions over an abstract memory: values, memory, operations. (Definitions alone; what they are worth is proved in EvxC, EvxD, EvxE.)
-/
import Derived.ProofKit
import Derived.Orders
import Derived.ScopeJumps
set_option linter.unusedVariables false
set_option linter.unusedSimpArgs false
set_option linter.unusedSectionVars false
set_option linter.unnecessarySimpa false
namespace Go.Ev

/-- A tree of cells, by number. -/
inductive PT (α : Type) where
  | e
  | n (l : PT α) (o : Option α) (r : PT α)

def PT.get {α : Type} : PT α → Nat → Option α
  | .e, _ => none
  | .n l o r, i => match i with
    | 0 => o
    | k + 1 => if k % 2 = 0 then l.get (k / 2) else r.get (k / 2)

def PT.set {α : Type} (v : α) : Nat → Nat → PT α → PT α
  | 0, _, t => t
  | d + 1, i, t => match t, i with
    | .e, 0 => .n .e (some v) .e
    | .n l _ r, 0 => .n l (some v) r
    | .e, k + 1 => if k % 2 = 0 then .n (PT.set v d (k / 2) .e) none .e else .n .e none (PT.set v d (k / 2) .e)
    | .n l o r, k + 1 => if k % 2 = 0 then .n (PT.set v d (k / 2) l) o r else .n l o (PT.set v d (k / 2) r)

theorem PT.get_set {α : Type} (v : α) : ∀ (d i : Nat) (t : PT α), i < d → (PT.set v d i t).get i = some v := by
  intro d
  induction d with
  | zero => intro i t h; omega
  | succ d ih =>
    intro i t h
    cases i with
    | zero => cases t <;> simp [PT.set, PT.get]
    | succ k =>
      have hk : k / 2 < d := by omega
      by_cases hp : k % 2 = 0 <;> cases t <;> simp [PT.set, PT.get, hp, ih _ _ hk]

theorem PT.get_set_ne {α : Type} (v : α) : ∀ (d i j : Nat) (t : PT α), j ≠ i → (PT.set v d i t).get j = t.get j := by
  intro d
  induction d with
  | zero => intro i j t h; rfl
  | succ d ih =>
    intro i j t h
    cases i with
    | zero =>
      cases j with
      | zero => exact absurd rfl h
      | succ m => cases t <;> simp [PT.set, PT.get]
    | succ k =>
      cases j with
      | zero => by_cases hp : k % 2 = 0 <;> cases t <;> simp [PT.set, PT.get, hp]
      | succ m =>
        by_cases hp : k % 2 = 0 <;> by_cases hq : m % 2 = 0
        · have hne : m / 2 ≠ k / 2 := by omega
          cases t <;> simp [PT.set, PT.get, hp, hq, ih _ _ _ hne]
        · cases t <;> simp [PT.set, PT.get, hp, hq]
        · cases t <;> simp [PT.set, PT.get, hp, hq]
        · have hne : m / 2 ≠ k / 2 := by omega
          cases t <;> simp [PT.set, PT.get, hp, hq, ih _ _ _ hne]

/-- A block of the abstract memory. -/
inductive Blk where
  /-- cells; may they be written; does the row own what lies behind it; cells of an element -/
  | row (cells : List Value) (rw grow : Bool) (sz : Nat)
  | map (es : List MapEntry) (clock : Nat)
  | siter (s : ByteArray) (pos : Nat)
  | miter (m : Option Nat) (since : Nat) (seen : List Nat) (stepped : Nat)
  | dead

structure St where
  heap : PT Blk
  next : Nat
  rd : List Nat
  wr : List Nat

def St.get (s : St) (β : Nat) : Option Blk := s.heap.get β

/-- A computation over the abstract memory. -/
def M (α : Type) : Type := St → Option (α × St)

def M.pure {α : Type} (a : α) : M α := fun s => some (a, s)
def M.bind {α β : Type} (m : M α) (f : α → M β) : M β := fun s =>
  match m s with
  | some (a, s') => f a s'
  | none => none
instance : Monad M where
  pure := M.pure
  bind := M.bind

def M.fail {α : Type} : M α := fun _ => none
def ofO {α : Type} : Option α → M α
  | some a => fun s => some (a, s)
  | none => fun _ => none
def guardM (b : Bool) : M Unit := if b then M.pure () else M.fail

def getB (β : Nat) : M Blk := fun s =>
  match s.heap.get β with
  | some b => some (b, { s with rd := β :: s.rd })
  | none => none
def setB (β : Nat) (b : Blk) : M Unit := fun s =>
  match s.heap.get β with
  | some _ => some ((), { s with heap := PT.set b (β + 1) β s.heap, wr := β :: s.wr })
  | none => none
def newB (b : Blk) : M Nat := fun s =>
  match s.heap.get s.next with
  | none => some (s.next, { s with heap := PT.set b (s.next + 1) s.next s.heap, next := s.next + 1 })
  | some _ => none

/-- From this type number on an interface value is none: it is a token. '.iface (TOK + s) e' is a token of sort s: it stands for what the term e means. Sorts: 0 a bool, 1 a string, 2 to 9 an integer of a kind, from 10 on anything of one cell. -/
def TOK : Nat := 1000000
def kindNo : IntKind → Nat
  | .i8 => 2
  | .i16 => 3
  | .i32 => 4
  | .i64 => 5
  | .u8 => 6
  | .u16 => 7
  | .u32 => 8
  | .u64 => 9

/-- What is known of the branches, and the functions that are not entered: what their calls do. -/
class Orc where
  ask : Value → Option Bool
  sum : FuncId → Option (List Value → M Value)
  /-- of a slice that came in: the sorts of an element's cells -/
  slc : Value → Option (List Nat)

/-- The term of which e is the negation. -/
def un0 (e : Value) : Option Value := match e with
  | .func (.func f) a _ => if f = 0 then (match a.toList with
    | [x] => some x
    | _ => none) else none
  | _ => none
def askN [Orc] (e : Value) : Option Bool := match un0 e with
  | some x => (Orc.ask x).map (!·)
  | none => Orc.ask e

/-- The truth of a bool. -/
def forceB [Orc] (v : Value) : M Bool := match v with
  | .bool b => M.pure b
  | .iface t e => if t = TOK then ofO (askN e) else M.fail
  | _ => M.fail

def sortO : Value → Option Nat
  | .bool _ => some 0
  | .string _ => some 1
  | .int k _ => some (kindNo k)
  | .iface t _ => if TOK ≤ t then some (t - TOK) else none
  | _ => none
def strip : Value → Value
  | .iface t e => if TOK ≤ t then e else .iface t e
  | v => v
def term (f : Nat) (l : List Value) : Value := .func (.func f) l.toArray #[]
def tok (s : Nat) (e : Value) : Value := .iface (TOK + s) e
def notE (e : Value) : Value := match un0 e with
  | some x => x
  | none => term 0 [e]

/-- An operator where one operand is a token. -/
def binSym (u : Option TypeDesc) (op : BinOp) (a b : Value) : Option Value :=
  match sortO a, sortO b with
  | some s, some s' =>
    if s = s' then
      if s = 1 then (match op with
        | .eql => some (tok 0 (term 1 [strip a, strip b]))
        | .neq => some (tok 0 (notE (term 1 [strip a, strip b])))
        | .lss => some (tok 0 (term 2 [strip a, strip b]))
        | .geq => some (tok 0 (notE (term 2 [strip a, strip b])))
        | .leq => some (tok 0 (term 3 [strip a, strip b]))
        | .gtr => some (tok 0 (notE (term 3 [strip a, strip b])))
        | _ => none)
      else if s = 0 then (match u, op with
        | some .bool, .eql => some (tok 0 (term 1 [strip a, strip b]))
        | some .bool, .neq => some (tok 0 (notE (term 1 [strip a, strip b])))
        | _, _ => none)
      else if 2 ≤ s ∧ s ≤ 9 then (match op with
        | .eql => some (tok 0 (term 1 [strip a, strip b]))
        | .neq => some (tok 0 (notE (term 1 [strip a, strip b])))
        | .lss => some (tok 0 (term 2 [strip a, strip b]))
        | .geq => some (tok 0 (notE (term 2 [strip a, strip b])))
        | .leq => some (tok 0 (notE (term 2 [strip b, strip a])))
        | .gtr => some (tok 0 (term 2 [strip b, strip a]))
        | .add => some (tok s (term 10 [strip a, strip b]))
        | .sub => some (tok s (term 11 [strip a, strip b]))
        | .mul => some (tok s (term 12 [strip a, strip b]))
        | _ => none)
      else none
    else none
  | _, _ => none
def unSym (op : UnOp) (a : Value) : Option Value :=
  match sortO a, op with
  | some 0, .not => some (tok 0 (notE (strip a)))
  | some s, .neg => if 2 ≤ s ∧ s ≤ 9 then some (tok s (term 13 [strip a])) else none
  | _, _ => none
def isTok : Value → Bool
  | .iface t _ => decide (TOK ≤ t)
  | _ => false

/-- What a Sem comes to where it asks nothing of memory. -/
def pureRun {α : Type} (P : Program) : Sem α → Option α
  | .pure a => some a
  | .program k => pureRun P (k P)
  | .mark _ k => pureRun P k
  | _ => none

/-- No address in it. -/
def plainN : Nat → Value → Bool
  | 0, _ => false
  | n + 1, v => match v with
    | .bool _ | .int _ _ | .string _ | .pointer none | .slice none 0 0 | .map none | .nilFunc | .nilIface => true
    | .iface t v => decide (t < TOK) && plainN n v
    | .agg cs => cs.toList.all (plainN n)
    | .tuple cs => cs.toList.all (plainN n)
    | .func _ a b => a.toList.all (plainN n) && b.toList.all (plainN n)
    | _ => false
def plainB (v : Value) : Bool := plainN 12 v
def plain (v : Value) : M Value := if plainB v then M.pure v else M.fail

/-- A function's temporaries. -/
structure Fr where
  n : Nat
  t : PT Value

/-- What a temporary holds, where it is known. -/
def Fr.get (f : Fr) (i : Nat) : Option Value := f.t.get i
def Fr.put (f : Fr) (d : Option Nat) (v : Value) : M Fr := match d with
  | none => M.pure f
  | some d => if d < f.n then M.pure { f with t := PT.set v (d + 1) d f.t } else M.fail

def cellsOf (v : Value) : List Value := match v with
  | .agg cs => cs.toList
  | v => [v]

def isAggO (P : Program) (t : TypeId) : Option Bool := match P.underlying t with
  | some (.struct _) => some true
  | some (.array _ _) => some true
  | some _ => some false
  | none => none
def sizeO (P : Program) (t : TypeId) : Option Nat := match P.info? t with
  | some i => some i.size
  | none => none
def bytesO (P : Program) (t : TypeId) : Option Nat := match P.info? t with
  | some i => some i.bytes
  | none => none
def zeroM (P : Program) (t : TypeId) : M Value := match P.info? t with
  | some i => match i.zero with
    | some v => plain v
    | none => M.fail
  | none => M.fail

def emptySlice : Value := .slice (some ⟨0, 0, some 0⟩) 0 0

def rowOf (β : Nat) : M (List Value × Bool × Bool × Nat) := do
  match ← getB β with
  | .row cs rw g sz => pure (cs, rw, g, sz)
  | _ => M.fail
def mapOf (β : Nat) : M (List MapEntry × Nat) := do
  match ← getB β with
  | .map es c => pure (es, c)
  | _ => M.fail

def splice (off : Nat) (vs cells : List Value) : List Value := cells.take off ++ vs ++ cells.drop (off + vs.length)

def oneCellB : Value → Bool
  | .agg _ => false
  | .tuple _ => false
  | _ => true

def loadM (P : Program) (t : TypeId) : Value → M Value
  | .pointer (some ⟨β, off, none⟩) => do
    let (cs, _, _, _) ← rowOf β
    match ← ofO (isAggO P t) with
    | true => do
      let n ← ofO (sizeO P t)
      guardM (off + n ≤ cs.length)
      pure (.agg ((cs.drop off).take n).toArray)
    | false => ofO cs[off]?
  | _ => M.fail

def storeM (P : Program) (t : TypeId) (a v : Value) : M Value := match a with
  | .pointer (some ⟨β, off, none⟩) => do
    let (cs, rw, g, sz) ← rowOf β
    let n ← ofO (sizeO P t)
    let vs := cellsOf v
    guardM (rw && vs.length == n && decide (off + n ≤ cs.length) && vs.all oneCellB)
    setB β (.row (splice off vs cs) rw g sz)
    pure undef
  | _ => M.fail

def newPtr (cells : List Value) : M Value := do
  let β ← newB (.row cells true false 0)
  pure (.pointer (some ⟨β, 0, none⟩))

def partM (P : Program) (t : TypeId) (cs : Array Value) (off : Nat) : M Value := do
  match ← ofO (isAggO P t) with
  | true => do
    let n ← ofO (sizeO P t)
    pure (.agg (cs.extract off (off + n)))
  | false => ofO cs[off]?

/-- Where the parts of a struct or an array lie. -/
def placesO (P : Program) : List Field → Option (List (Nat × Nat))
  | [] => some []
  | f :: r => match sizeO P f.type, placesO P r with
    | some n, some l => some ((f.offset, n) :: l)
    | _, _ => none

def buildM (P : Program) (t : TypeId) (parts : List (Nat × Value)) : M Value := do
  let z ← zeroM P t
  match P.underlying t with
  | some (.struct fs) => do
    let pl ← ofO (placesO P fs.toList)
    let cs ← ofO (Instr.fill (pl.toArray[·]?) z.cells parts)
    pure (.agg cs)
  | some (.array _ e) => do
    let n ← ofO (sizeO P e)
    let cs ← ofO (Instr.fill (fun i => some (i * n, n)) z.cells parts)
    pure (.agg cs)
  | _ => M.fail

def zerosL (z : List Value) : Nat → List Value
  | 0 => []
  | n + 1 => z ++ zerosL z n

def buildSliceM (P : Program) (t : TypeId) (len : Nat) (parts : List (Nat × Value)) : M Value := do
  match P.underlying t with
  | some (.slice e) => do
    let n ← ofO (sizeO P e)
    guardM (decide (len * n ≤ 2 ^ 24))
    let z ← zeroM P e
    guardM (z.cells.size == n)
    let cs ← ofO (Instr.fill (fun i => some (i * n, n)) (zerosL z.cells.toList len).toArray parts)
    let β ← newB (.row cs.toList true false n)
    pure (.slice (some ⟨β, 0, none⟩) len len)
  | _ => M.fail

def nilCheckM (v : Value) : M Value := match v with
  | .pointer (some _) => M.pure v
  | _ => M.fail

/-- '==' where one of the two is nil and the other is not plain. -/
def eqNil (P : Program) (t : TypeId) (x y : Value) : Option Bool :=
  match P.underlying t, x, y with
  | some (.pointer _), .pointer (some _), .pointer none => some false
  | some (.pointer _), .pointer none, .pointer (some _) => some false
  | some (.slice _), .slice none _ _, .slice (some _) _ _ => some false
  | some (.slice _), .slice (some _) _ _, .slice none _ _ => some false
  | some (.map _ _), .map none, .map (some _) => some false
  | some (.map _ _), .map (some _), .map none => some false
  | some (.func _ _ _), .nilFunc, .func _ _ _ => some false
  | some (.func _ _ _), .func _ _ _, .nilFunc => some false
  | some (.interface _), .nilIface, .iface t _ => if t < TOK then some false else none
  | some (.interface _), .iface t _, .nilIface => if t < TOK then some false else none
  | _, _, _ => none

def binOpM (P : Program) (op : BinOp) (t : TypeId) (x y : Operand) (a b : Value) : M Value :=
  match op, a, b with
  | .add, .int k m, .int k' n => if k = k' then M.pure (.int k (k.wrap (m + n))) else M.fail
  | .sub, .int k m, .int k' n => if k = k' then M.pure (.int k (k.wrap (m - n))) else M.fail
  | .mul, .int k m, .int k' n => if k = k' then M.pure (.int k (k.wrap (m * n))) else M.fail
  | .lss, .int k m, .int k' n => if k = k' then M.pure (.bool (decide (m < n))) else M.fail
  | .leq, .int k m, .int k' n => if k = k' then M.pure (.bool (decide (m ≤ n))) else M.fail
  | .gtr, .int k m, .int k' n => if k = k' then M.pure (.bool (decide (m > n))) else M.fail
  | .geq, .int k m, .int k' n => if k = k' then M.pure (.bool (decide (m ≥ n))) else M.fail
  | .eql, .int k m, .int k' n => if k = k' then M.pure (.bool (m == n)) else M.fail
  | .neq, .int k m, .int k' n => if k = k' then M.pure (.bool (m != n)) else M.fail
  | _, _, _ =>
    if plainB a && plainB b then do
      let v ← ofO (pureRun P (do eqGuard op t x y a b; binOp op t a b))
      plain v
    else if isTok a || isTok b then ofO (binSym (P.underlying t) op a b)
    else match op with
      | .eql => do pure (.bool (← ofO (eqNil P t a b)))
      | .neq => do pure (.bool (!(← ofO (eqNil P t a b))))
      | _ => M.fail

def unOpM (P : Program) (op : UnOp) (x : Value) : M Value :=
  if plainB x then do
    let v ← ofO (pureRun P (Op.unary op x))
    plain v
  else if isTok x then ofO (unSym op x)
  else M.fail

def bytesV (s : ByteArray) : List Value := s.data.toList.map fun b => .int .u8 b.toNat
def byteO : Value → Option UInt8
  | .int .u8 n => some (UInt8.ofNat n.toNat)
  | _ => none
def bytesO' : List Value → Option (List UInt8)
  | [] => some []
  | v :: r => match byteO v, bytesO' r with
    | some b, some l => some (b :: l)
    | _, _ => none

def convertM (P : Program) (src dst : TypeId) (x : Value) : M Value :=
  match P.underlying src, P.underlying dst, x with
  | some .string, some (.slice e), .string s =>
    match P.underlying e with
    | some (.int .u8) => do
      let β ← newB (.row (bytesV s) true true 1)
      pure (.slice (some ⟨β, 0, none⟩) s.size s.size)
    | _ => M.fail
  | some (.slice e), some .string, .slice (some ⟨β, off, none⟩) len _ =>
    match P.underlying e with
    | some (.int .u8) => do
      let (cs, _, _, _) ← rowOf β
      guardM (decide (off + len ≤ cs.length))
      let l ← ofO (bytesO' ((cs.drop off).take len))
      pure (.string ⟨l.toArray⟩)
    | _ => M.fail
  | _, _, _ =>
    if plainB x then do
      let v ← ofO (pureRun P (convert src dst x))
      plain v
    else if isTok x && (P.underlying src).isSome then (match P.underlying dst, sortO x with
      | some (.int k), some s => if 2 ≤ s ∧ s ≤ 9 then M.pure (tok (kindNo k) (term (20 + kindNo k) [strip x])) else M.fail
      | some .string, some s => if s = 1 then M.pure x else M.fail
      | _, _ => M.fail)
    else M.fail

def intO : Value → Option Int
  | .int _ n => some n
  | _ => none

def makeSliceM (P : Program) (t : TypeId) (len cap : Value) : M Value := do
  match P.underlying t with
  | some (.slice e) => do
    let l ← ofO (intO len)
    let c ← ofO (intO cap)
    let n ← ofO (sizeO P e)
    let by' ← ofO (bytesO P e)
    let z ← zeroM P e
    guardM (z.cells.size == n)
    guardM (decide (0 ≤ l ∧ l ≤ c ∧ c < 2 ^ 62 ∧ (by' : Int) * c ≤ 2 ^ 47))
    let β ← newB (.row (zerosL z.cells.toList c.toNat) true false n)
    pure (.slice (some ⟨β, 0, none⟩) l.toNat c.toNat)
  | _ => M.fail

/-- A bound of a slice expression. -/
def boundO (x : Option Value) (dflt most : Nat) : Option Nat := match x with
  | none => some dflt
  | some (.int _ i) => if 0 ≤ i ∧ i ≤ most then some i.toNat else none
  | _ => none

def sliceM (P : Program) (t : TypeId) (x : Value) (lo hi mx : Option Value) : M Value := do
  match P.underlying t, x with
  | some (.slice e), .slice none 0 0 => do
    let m ← ofO (boundO mx 0 0)
    let h ← ofO (boundO hi 0 m)
    let _l ← ofO (boundO lo 0 h)
    guardM ((mx.isNone || hi.isSome) && decide (h ≤ m))
    let _ ← ofO (sizeO P e)
    pure (.slice none 0 0)
  | some (.slice e), .slice (some ⟨β, off, none⟩) len cap => do
    let (_, _, g, sz) ← rowOf β
    let n ← ofO (sizeO P e)
    let m ← ofO (boundO mx cap cap)
    let h ← ofO (boundO hi len m)
    let l ← ofO (boundO lo 0 h)
    guardM ((mx.isNone || hi.isSome) && decide (h ≤ m))
    guardM (!g || sz == n)
    if m = l then
      (if g && mx.isNone then pure emptySlice
       else pure (.slice (some ⟨β, off, none⟩) 0 0))
    else pure (.slice (some ⟨β, off + l * n, none⟩) (h - l) (m - l))
  | some (.array c e), .pointer (some ⟨β, off, none⟩) => do
    let n ← ofO (sizeO P e)
    let m ← ofO (boundO mx c c)
    let h ← ofO (boundO hi c m)
    let l ← ofO (boundO lo 0 h)
    let (_, _, g, _) ← rowOf β
    guardM ((mx.isNone || hi.isSome) && decide (h ≤ m))
    guardM (!g)
    if m = l then pure (.slice (some ⟨β, off, none⟩) (h - l) (m - l))
    else pure (.slice (some ⟨β, off + l * n, none⟩) (h - l) (m - l))
  | some .string, .string s =>
    if (lo.all plainB && hi.all plainB && mx.all plainB) then do
      let v ← ofO (pureRun P (Instr.sliceAt t (.string s) lo hi mx))
      plain v
    else M.fail
  | _, _ => M.fail

def fieldAddrM (P : Program) (t : TypeId) (x : Value) (f : Nat) : M Value :=
  match P.underlying t, x with
  | some (.struct fs), .pointer (some ⟨β, off, none⟩) =>
    match fs[f]? with
    | some fd => match sizeO P fd.type with
      | some n => if n = 0 then M.fail else M.pure (.pointer (some ⟨β, off + fd.offset, none⟩))
      | none => M.fail
    | none => M.fail
  | _, _ => M.fail

def fieldM (P : Program) (t : TypeId) (x : Value) (f : Nat) : M Value :=
  match P.underlying t, x with
  | some (.struct fs), .agg cs =>
    match fs[f]? with
    | some fd => partM P fd.type cs fd.offset
    | none => M.fail
  | _, _ => M.fail

def indexAddrM (P : Program) (t : TypeId) (x ix : Value) : M Value := do
  let i ← ofO (intO ix)
  match P.underlying t, x with
  | some (.array len e), .pointer (some ⟨β, off, none⟩) => do
    let n ← ofO (sizeO P e)
    guardM (decide (0 ≤ i ∧ i < len))
    pure (.pointer (some ⟨β, off + i.toNat * n, none⟩))
  | some (.slice e), .slice (some ⟨β, off, none⟩) len _ => do
    let n ← ofO (sizeO P e)
    guardM (decide (0 ≤ i ∧ i < len))
    pure (.pointer (some ⟨β, off + i.toNat * n, none⟩))
  | _, _ => M.fail

def indexM (P : Program) (t : TypeId) (x ix : Value) : M Value := do
  let i ← ofO (intO ix)
  match P.underlying t, x with
  | some (.array len e), .agg cs => do
    let n ← ofO (sizeO P e)
    guardM (decide (0 ≤ i ∧ i < len))
    partM P e cs (i.toNat * n)
  | some .string, .string s => do
    guardM (decide (0 ≤ i))
    let b ← ofO (s[i.toNat]?)
    pure (.int .u8 b.toNat)
  | _, _ => M.fail

/-- A pointer into a slice that came in: the slice, the index, the cells of an element, the cell of it. And the cell there. -/
def ptrT (e i : Value) (sz off : Nat) : Value := term 40 [e, i, .int .i64 sz, .int .i64 off]
def celT (e i : Value) (sz off : Nat) : Value := term 41 [e, i, .int .i64 sz, .int .i64 off]
def ptrOf (p : Value) : Option (Value × Value × Nat × Nat) := match p with
  | .func (.func f) a _ => if f = 40 then (match a.toList with
    | [e, i, .int .i64 sz, .int .i64 off] => some (e, i, sz.toNat, off.toNat)
    | _ => none) else none
  | _ => none
def slcIndex [Orc] (P : Program) (t : TypeId) (x i : Value) : M Value := match P.underlying t, x with
  | some (.slice et), .iface tt e =>
    if tt = TOK + 11 ∧ sortO i = some 5 then do
      let sz ← ofO (sizeO P et)
      let ss ← ofO (Orc.slc e)
      guardM (decide (ss.length = sz) && askN (term 2 [strip i, .int .i64 0]) == some false && askN (term 2 [strip i, term 30 [e]]) == some true)
      pure (.iface (TOK + 12) (ptrT e (strip i) sz 0))
    else M.fail
  | _, _ => M.fail
def slcField (P : Program) (t : TypeId) (x : Value) (f : Nat) : M Value := match P.underlying t, x with
  | some (.struct fs), .iface tt p =>
    if tt = TOK + 12 then do
      let q ← ofO (ptrOf p)
      let fd ← ofO fs[f]?
      let n ← ofO (sizeO P fd.type)
      guardM (n != 0)
      pure (.iface (TOK + 12) (ptrT q.1 q.2.1 q.2.2.1 (q.2.2.2 + fd.offset)))
    else M.fail
  | _, _ => M.fail
def slcCells (e i : Value) (sz : Nat) : List Nat → Nat → List Value
  | [], _ => []
  | s :: r, off => .iface (TOK + s) (celT e i sz off) :: slcCells e i sz r (off + 1)
def slcLoad [Orc] (P : Program) (t : TypeId) (x : Value) : M Value := match x with
  | .iface tt p =>
    if tt = TOK + 12 then do
      let q ← ofO (ptrOf p)
      let ss ← ofO (Orc.slc q.1)
      guardM (decide (ss.length = q.2.2.1))
      match ← ofO (isAggO P t) with
      | true => do
        let n ← ofO (sizeO P t)
        guardM (decide (q.2.2.2 + n ≤ ss.length))
        pure (.agg (slcCells q.1 q.2.1 q.2.2.1 ((ss.drop q.2.2.2).take n) q.2.2.2).toArray)
      | false => do
        let s ← ofO ss[q.2.2.2]?
        pure (.iface (TOK + s) (celT q.1 q.2.1 q.2.2.1 q.2.2.2))
    else M.fail
  | _ => M.fail

def keysPlain (es : List MapEntry) : Bool := es.all fun e => plainB e.key

/-- The entry with a key: its index and its value. -/
def findM (P : Program) (kt : TypeId) (k : Value) (es : List MapEntry) : M (Option (Nat × Value)) := do
  guardM (plainB k && keysPlain es)
  ofO (pureRun P (Instr.checkKey es.isEmpty 10000 kt k))
  ofO (pureRun P (Instr.findKey kt k es))

def lookupM (P : Program) (t : TypeId) (x k : Value) (commaOk : Bool) : M Value := do
  match P.underlying t with
  | some (.map kt et) => do
    let es ← (match x with
      | .map none => pure []
      | .map (some β) => do
        let (es, _) ← mapOf β
        pure es
      | _ => M.fail)
    let r ← findM P kt k es
    match r with
    | some (_, v) => pure (if commaOk then .tuple #[v, .bool true] else v)
    | none => do
      let z ← zeroM P et
      pure (if commaOk then .tuple #[z, .bool false] else z)
  | _ => M.fail

/-- Are two strings the same, tokens perhaps? -/
def sameT [Orc] (a b : Value) : Option Bool := match a, b with
  | .string x, .string y => some (x.toList == y.toList)
  | a, b => if sortO a = some 1 ∧ sortO b = some 1 then askN (term 1 [strip a, strip b]) else none
/-- The entry with a key that is a string, tokens perhaps. -/
def findT [Orc] (k : Value) : List MapEntry → Nat → Option (Option (Nat × Value))
  | [], _ => some none
  | e :: r, i => match sameT k e.key with
    | some true => some (some (i, e.val))
    | some false => findT k r (i + 1)
    | none => none
def isStrT (P : Program) (t : TypeId) : Bool := match P.underlying t with
  | some .string => true
  | _ => false
def lookupT [Orc] (P : Program) (t : TypeId) (x k : Value) (commaOk : Bool) : M Value := do
  match P.underlying t, x with
  | some (.map kt et), .map (some β) => do
    guardM (isStrT P kt && sortO k == some 1)
    let q ← mapOf β
    let r ← ofO (findT k q.1 0)
    match r with
    | some y => pure (if commaOk then .tuple #[y.2, .bool true] else y.2)
    | none => do
      let z ← zeroM P et
      pure (if commaOk then .tuple #[z, .bool false] else z)
  | _, _ => M.fail
def mapUpdateT [Orc] (P : Program) (t : TypeId) (x k v : Value) : M Value := do
  match P.underlying t, x with
  | some (.map kt _), .map (some β) => do
    guardM (isStrT P kt && sortO k == some 1)
    let q ← mapOf β
    let r ← ofO (findT k q.1 0)
    match r with
    | some y => do
      setB β (.map (q.1.toArray.modify y.1 fun e => { e with key := k, val := v }).toList q.2)
      pure undef
    | none => do
      setB β (.map (q.1 ++ [{ key := k, val := v, born := q.2 }]) (q.2 + 1))
      pure undef
  | _, _ => M.fail

def mapUpdateM (P : Program) (t : TypeId) (x k v : Value) : M Value := do
  match P.underlying t, x with
  | some (.map kt _), .map (some β) => do
    let (es, clock) ← mapOf β
    guardM (plainB k && keysPlain es)
    ofO (pureRun P (Instr.checkKey false 10000 kt k))
    let r ← ofO (pureRun P (Instr.findKey kt k es))
    match r with
    | some (i, _) => do
      let old := ((es[i]?).map (·.key)).getD k
      guardM (Instr.sameBits 10000 old k)
      setB β (.map (es.toArray.modify i fun e => { e with key := k, val := v }).toList clock)
      pure undef
    | none => do
      setB β (.map (es ++ [{ key := k, val := v, born := clock }]) (clock + 1))
      pure undef
  | _, _ => M.fail

def rangeM (P : Program) (t : TypeId) (x : Value) : M Value := do
  match P.underlying t, x with
  | some .string, .string s => do
    let β ← newB (.siter s 0)
    pure (.pointer (some ⟨β, 0, none⟩))
  | some (.map _ _), .map none => do
    let β ← newB (.miter none 0 [] 0)
    pure (.pointer (some ⟨β, 0, none⟩))
  | some (.map _ _), .map (some m) => do
    let (_, clock) ← mapOf m
    let β ← newB (.miter (some m) clock [] clock)
    pure (.pointer (some ⟨β, 0, none⟩))
  | _, _ => M.fail

def nextM (it : Value) (isString : Bool) : M Value := do
  match it with
  | .pointer (some ⟨β, 0, none⟩) => do
    match ← getB β, isString with
    | .siter s pos, true =>
      if pos < s.size then do
        let (c, width) := Utf8.decode s pos
        setB β (.siter s (pos + width))
        pure (.tuple #[.bool true, goInt pos, .int .i32 c])
      else pure (.tuple #[.bool false])
    | .miter none _ _ _, false => pure (.tuple #[.bool false])
    | .miter (some m) since seen last, false => do
      let (es, clock) ← mapOf m
      guardM (!(!seen.isEmpty && !es.isEmpty && es.all (·.born ≥ last)))
      let left := es.filter fun e => !seen.contains e.born
      let old := left.filter (·.born < since)
      let new := left.filter (·.born ≥ since)
      match old, new with
      | [], [] => pure (.tuple #[.bool false])
      | [e], [] => do
        guardM (plainB e.key)
        setB β (.miter (some m) since (seen ++ [e.born]) clock)
        pure (.tuple #[.bool true, e.key, e.val])
      | _, _ => M.fail
    | _, _ => M.fail
  | _ => M.fail

def entryM (it : Value) : M Value := do
  match it with
  | .pointer (some ⟨β, 0, none⟩) => do
    match ← getB β with
    | .miter (some m) _ seen stepped => do
      let stamp ← ofO seen.getLast?
      let (es, clock) ← mapOf m
      guardM (clock == stepped)
      match es.find? (·.born == stamp) with
      | some e => do
        guardM (plainB e.key)
        pure (.tuple #[e.key, e.val])
      | none => M.fail
    | _ => M.fail
  | _ => M.fail

def extractM (t : Value) (ix : Nat) : M Value := match t with
  | .tuple vs => ofO vs[ix]?
  | _ => M.fail

/-- The first n elements of a slice or a string. -/
def firstM (size n : Nat) : Value → M (List Value)
  | .slice none 0 0 => if n = 0 then M.pure [] else M.fail
  | .slice (some ⟨_, _, some 0⟩) 0 0 => if n = 0 then M.pure [] else M.fail
  | .slice (some ⟨β, off, none⟩) _ _ => do
    let (cs, _, _, _) ← rowOf β
    guardM (decide (off + n * size ≤ cs.length))
    pure ((cs.drop off).take (n * size))
  | .string s => do
    guardM (size == 1)
    pure ((bytesV s).take n)
  | _ => M.fail

def lenO : Value → Option Nat
  | .slice _ n _ => some n
  | .string s => some s.size
  | _ => none

/-- No whole number (what append takes as the second operand's type where a make is appended). -/
def noIntB (P : Program) : Option TypeId → Bool
  | none => true
  | some xT => match P.underlying xT with
    | some (.int _) => false
    | some _ => true
    | none => false

def appendM (P : Program) (argTypes : Array TypeId) (args : List Value) : M Value := do
  match argTypes[0]?, args with
  | some sT, [s, x] => do
    guardM (noIntB P argTypes[1]?)
    match P.underlying sT, s with
    | some (.slice e), .slice base sLen sCap => do
      let size ← ofO (sizeO P e)
      let bytes ← ofO (bytesO P e)
      let z ← zeroM P e
      guardM (z.cells.size == size && size != 0)
      let n ← ofO (lenO x)
      let new ← firstM size n x
      let need := sLen + n
      if need ≤ sCap then
        (match base with
        | some ⟨β, off, none⟩ => do
          if new.isEmpty then pure s else do
          let (cs, rw, g, sz) ← rowOf β
          guardM (rw && decide (off + need * size ≤ cs.length) && new.all oneCellB)
          setB β (.row (splice (off + sLen * size) new cs) rw g sz)
          pure (.slice base need sCap)
        | none => if n = 0 then pure s else M.fail
        | _ => if n = 0 then pure s else M.fail)
      else do
        guardM (decide ((2 * need + 1000) * bytes ≤ 2 ^ 46) && decide (need < 2 ^ 60))
        match base with
        | none => do
          guardM (sCap == 0)
          let β ← newB (.row new true true size)
          pure (.slice (some ⟨β, 0, none⟩) need need)
        | some ⟨β, off, none⟩ => do
          let (cs, rw, g, sz) ← rowOf β
          guardM (decide (off + sLen * size ≤ cs.length))
          let old := (cs.drop off).take (sLen * size)
          if g then do
            guardM (rw && sz == size && new.all oneCellB)
            setB β .dead
            let γ ← newB (.row (old ++ new) true true size)
            pure (.slice (some ⟨γ, 0, none⟩) need need)
          else do
            let γ ← newB (.row (old ++ new) true true size)
            pure (.slice (some ⟨γ, 0, none⟩) need need)
        | _ => M.fail
    | _, _ => M.fail
  | _, _ => M.fail

def copyM (P : Program) (argTypes : Array TypeId) (args : List Value) : M Value := do
  match argTypes[0]?, args with
  | some dT, [d, x] => do
    match P.underlying dT, d with
    | some (.slice e), .slice base dLen _ => do
      let size ← ofO (sizeO P e)
      let sl ← ofO (lenO x)
      let n := Nat.min sl dLen
      let new ← firstM size n x
      if new.isEmpty then pure (goInt n) else
      match base with
      | some ⟨β, off, none⟩ => do
        let (cs, rw, g, sz) ← rowOf β
        guardM (rw && decide (off + new.length ≤ cs.length) && new.all oneCellB)
        setB β (.row (splice off new cs) rw g sz)
        pure (goInt n)
      | _ => M.fail
    | _, _ => M.fail
  | _, _ => M.fail

def lenM (P : Program) (argTypes : Array TypeId) (args : List Value) : M Value := do
  match argTypes[0]?, args with
  | some t, [x] => do
    match P.underlying t, x with
    | some .string, .string s => pure (goInt s.size)
    | some .string, .iface t e => if t = TOK + 1 then M.pure (tok 5 (term 30 [e])) else M.fail
    | some (.slice _), .iface t e => if t = TOK + 11 then M.pure (tok 5 (term 30 [e])) else M.fail
    | some (.slice _), .slice _ n _ => pure (goInt n)
    | some (.array n _), _ => pure (goInt n)
    | some (.map _ _), .map none => pure (goInt 0)
    | some (.map _ _), .map (some β) => do
      let (es, _) ← mapOf β
      pure (goInt es.length)
    | _, _ => M.fail
  | _, _ => M.fail

def capM (P : Program) (argTypes : Array TypeId) (args : List Value) : M Value := do
  match argTypes[0]?, args with
  | some t, [x] => do
    match P.underlying t, x with
    | some (.slice _), .slice none 0 0 => pure (goInt 0)
    | some (.slice _), .slice (some ⟨β, _, none⟩) _ c => do
      let (_, _, g, _) ← rowOf β
      guardM (!g)
      pure (goInt c)
    | some (.array n _), _ => pure (goInt n)
    | _, _ => M.fail
  | _, _ => M.fail

def deleteM (P : Program) (argTypes : Array TypeId) (args : List Value) : M Value := do
  match argTypes[0]?, args with
  | some t, [x, k] => do
    match P.underlying t, x with
    | some (.map kt _), .map (some β) => do
      let (es, clock) ← mapOf β
      let r ← findM P kt k es
      match r with
      | some (i, _) => do
        setB β (.map (es.toArray.eraseIdxIfInBounds i).toList clock)
        pure (.tuple #[])
      | none => do
        setB β (.map es clock)
        pure (.tuple #[])
    | _, _ => M.fail
  | _, _ => M.fail

def minMaxM (P : Program) (isMax : Bool) (argTypes : Array TypeId) (type : TypeId) (args : List Value) : M Value :=
  if args.all plainB then do
    let v ← ofO (pureRun P (if isMax then Builtin.max_ argTypes type args.toArray else Builtin.min_ argTypes type args.toArray))
    plain v
  else M.fail

def builtinM (P : Program) (b : Builtin) (argTypes : Array TypeId) (type : TypeId) (args : List Value) : M Value :=
  match b with
  | .append => appendM P argTypes args
  | .copy => copyM P argTypes args
  | .len => lenM P argTypes args
  | .cap => capM P argTypes args
  | .delete => deleteM P argTypes args
  | .max => minMaxM P true argTypes type args
  | .min => minMaxM P false argTypes type args
  | _ => M.fail

def opd (P : Program) (fr : Fr) : Operand → M Value
  | .tmp i => ofO (fr.get i)
  | .const v => plain v
  | .global g => do
    guardM (decide (g < P.globals.size))
    let _ ← getB g
    pure (.pointer (some ⟨g, 0, none⟩))
  | .func f => M.pure (.func (.func f) #[] #[])

def opds (P : Program) (fr : Fr) : List Operand → M (List Value)
  | [] => M.pure []
  | x :: r => do
    let v ← opd P fr x
    let l ← opds P fr r
    pure (v :: l)
def opdO (P : Program) (fr : Fr) : Option Operand → M (Option Value)
  | none => M.pure none
  | some x => do
    let v ← opd P fr x
    pure (some v)
def opdP (P : Program) (fr : Fr) : List (Nat × Operand) → M (List (Nat × Value))
  | [] => M.pure []
  | (i, x) :: r => do
    let v ← opd P fr x
    let l ← opdP P fr r
    pure ((i, v) :: l)

/-- A call of a function by its number. -/
def callM (P : Program) (call : FuncId → List Value → M Value) (f : FuncId) (args : List Value) : M Value :=
  match P.funcs[f]? with
  | none => M.fail
  | some fn =>
    match fn.body with
    | some _ => call f args
    | none =>
      if args.all plainB then do
        match ← ofO (pureRun P (callFunc f args.toArray)) with
        | .value v => plain v
        | _ => M.fail
      else M.fail

def hintB (P : Program) (t : TypeId) : Option Value → Bool
  | none => true
  | some (.int _ _) => (match P.underlying t with
    | some (.map _ _) => true
    | _ => false)
  | _ => false

def opM [Orc] (P : Program) (call : FuncId → List Value → M Value) (fr : Fr) (o : Oper) : M Value :=
  match o.op with
  | .move x => opd P fr x
  | .assign x => opd P fr x
  | .pick c a b => do
    match ← forceB (← opd P fr c) with
    | true => opd P fr a
    | false => opd P fr b
  | .alloc t => do
    let z ← zeroM P t
    newPtr (cellsOf z)
  | .box _ x => do
    let v ← opd P fr x
    newPtr (cellsOf v)
  | .build t parts => do
    let ps ← opdP P fr parts.toList
    buildM P t ps
  | .buildSlice t len parts => do
    let ps ← opdP P fr parts.toList
    buildSliceM P t len ps
  | .load t a => do
    let a ← opd P fr a
    match isTok a with
    | true => slcLoad P t a
    | false => loadM P t a
  | .store t a x => do
    let a ← opd P fr a
    let v ← opd P fr x
    storeM P t a v
  | .nilCheck x => do
    let v ← opd P fr x
    nilCheckM v
  | .binOp op t x y _ => do
    let a ← opd P fr x
    let b ← opd P fr y
    binOpM P op t x y a b
  | .unOp op _ x => do
    let v ← opd P fr x
    unOpM P op v
  | .convert src dst x => do
    let v ← opd P fr x
    convertM P src dst v
  | .makeFunc fn first captured => do
    let a ← opds P fr first.toList
    let b ← opds P fr captured.toList
    pure (.func fn a.toArray b.toArray)
  | .makeMap t r => do
    let r ← opdO P fr r
    guardM (hintB P t r)
    let β ← newB (.map [] 0)
    pure (.map (some β))
  | .makeSlice t l c => do
    let l ← opd P fr l
    let c ← opd P fr c
    makeSliceM P t l c
  | .slice t x lo hi mx => do
    let x ← opd P fr x
    let lo ← opdO P fr lo
    let hi ← opdO P fr hi
    let mx ← opdO P fr mx
    sliceM P t x lo hi mx
  | .fieldAddr t x f => do
    let x ← opd P fr x
    match isTok x with
    | true => slcField P t x f
    | false => fieldAddrM P t x f
  | .field t x f => do
    let x ← opd P fr x
    fieldM P t x f
  | .indexAddr t x ix => do
    let x ← opd P fr x
    let i ← opd P fr ix
    match isTok x with
    | true => slcIndex P t x i
    | false => indexAddrM P t x i
  | .index t x ix => do
    let x ← opd P fr x
    let i ← opd P fr ix
    indexM P t x i
  | .lookup t x k ok => do
    let x ← opd P fr x
    let k ← opd P fr k
    match isTok k with
    | true => lookupT P t x k ok
    | false => lookupM P t x k ok
  | .mapUpdate t m k x => do
    let m ← opd P fr m
    let k ← opd P fr k
    let v ← opd P fr x
    match isTok k with
    | true => mapUpdateT P t m k v
    | false => mapUpdateM P t m k v
  | .insert t m k x => do
    let m ← opd P fr m
    let k ← opd P fr k
    let v ← opd P fr x
    match isTok k with
    | true => mapUpdateT P t m k v
    | false => mapUpdateM P t m k v
  | .range t x => do
    let x ← opd P fr x
    rangeM P t x
  | .next it isString => do
    let it ← opd P fr it
    nextM it isString
  | .entry it => do
    let it ← opd P fr it
    entryM it
  | .extract t ix => do
    let t ← opd P fr t
    extractM t ix
  | .call { callee := .builtin b, args := args, argTypes := ts } => do
    let vs ← opds P fr args.toList
    builtinM P b ts o.type vs
  | .call { callee := .value f, args := args, argTypes := _ } => do
    let f ← opd P fr f
    let vs ← opds P fr args.toList
    match f with
    | .func (.func k) first captured => callM P call k (first.toList ++ vs ++ captured.toList)
    | _ => M.fail
  | _ => M.fail

def wantV [Orc] (want : Bool) (x : Value) : M Bool := match x with
  | .bool b => M.pure (b == want)
  | .iface t e => if t < TOK then M.pure false else do
    let b ← forceB (.iface t e)
    pure (b == want)
  | _ => M.pure false

def wantedB [Orc] (ops : Array Oper) (fr : Fr) (o : Oper) : M Bool :=
  match o.guard with
  | none => M.pure true
  | some (j, want) =>
    match (ops[j]?).bind (·.dst) with
    | some d => do
      let v ← ofO (fr.get d)
      wantV want v
    | none => M.pure false

def valM [Orc] (P : Program) (call : FuncId → List Value → M Value) (ops : Array Oper) (fr : Fr) (o : Oper) : M Value := do
  match ← wantedB ops fr o with
  | true => opM P call fr o
  | false => pure undef

def stepM [Orc] (P : Program) (call : FuncId → List Value → M Value) (ops : Array Oper) (fr : Fr) (o : Oper) : M Fr := do
  let v ← valM P call ops fr o
  fr.put o.dst v

def opsM [Orc] (P : Program) (call : FuncId → List Value → M Value) (ops : Array Oper) : List Oper → Fr → M Fr
  | [], fr => M.pure fr
  | o :: r, fr => do
    let fr ← stepM P call ops fr o
    opsM P call ops r fr

/-- What a computation read of memory, and what it wrote or made. -/
structure Foot where
  rd : List Nat
  wr : List Nat
  lo : Nat
  hi : Nat

/-- m, with what it touched. -/
def footM {α : Type} (m : M α) : M (α × Foot) := fun s =>
  match m { s with rd := [], wr := [] } with
  | some (a, s') => some ((a, ⟨s'.rd, s'.wr, s.next, s'.next⟩), { s' with rd := s'.rd ++ s.rd, wr := s'.wr ++ s.wr })
  | none => none

def Foot.touch (a : Foot) (i : Nat) : Bool := a.wr.contains i || (decide (a.lo ≤ i) && decide (i < a.hi))

/-- Does b meet what a writes or makes? -/
def Foot.hits (a b : Foot) : Bool := b.rd.any a.touch || b.wr.any a.touch

/-- May the two be done in either order? -/
def Foot.free (a b : Foot) : Bool := !a.hits b && !b.hits a

/-- An operation of a region that is done: its number, its text, what it touched, what stands ahead of it. -/
structure Done where
  j : Nat
  o : Oper
  f : Foot
  anc : Nat

def ancOf : List Done → Nat → Nat
  | [], _ => 0
  | d :: r, i => if d.j = i then d.anc else ancOf r i

def ancs (done : List Done) : List Edge → Nat
  | [] => 0
  | e :: r => if Region.binds .any e then (2 ^ e.on ||| ancOf done e.on) ||| ancs done r else ancs done r

/-- Each earlier operation stands ahead of this one or is free of it. -/
def orderedB (ops : Array Oper) (anc : Nat) (oj : Oper) (fj : Foot) (done : List Done) : Bool :=
  done.all fun d => anc.testBit d.j || (Oper.apart ops d.o oj && Foot.free d.f fj)

def drawM [Orc] (P : Program) (call : FuncId → List Value → M Value) (ops : Array Oper) : List Oper → List Done → Fr → M Fr
  | [], _, fr => M.pure fr
  | o :: r, done, fr => do
    let (v, f) ← footM (valM P call ops fr o)
    let anc := ancs done o.after.toList
    guardM (o.after.toList.all (fun e => !Region.binds .any e || decide (e.on < done.length)) && orderedB ops anc o f done)
    let fr ← fr.put o.dst v
    drawM P call ops r (⟨done.length, o, f, anc⟩ :: done) fr

inductive Ex where
  | normal
  | exit (id : Nat)
  | ret
  | goto (l : Nat)

def codeM [Orc] (P : Program) (call : FuncId → List Value → M Value) : Nat → Code → Fr → M (Ex × Fr)
  | 0, _, _ => M.fail
  | n + 1, c, fr => match c with
    | .skip => M.pure (.normal, fr)
    | .label _ => M.pure (.normal, fr)
    | .region _ ops false => do
      let fr ← opsM P call ops ops.toList fr
      pure (.normal, fr)
    | .region _ ops true => do
      let fr ← drawM P call ops ops.toList [] fr
      pure (.normal, fr)
    | .seq a b => do
      let (e, fr) ← codeM P call n a fr
      match e with
      | .normal => codeM P call n b fr
      | e => pure (e, fr)
    | .cond c a b => do
      match ← forceB (← opd P fr c) with
      | true => codeM P call n a fr
      | false => codeM P call n b fr
    | .block id b => do
      let (e, fr) ← codeM P call n b fr
      match e with
      | .exit i => if i = id then pure (.normal, fr) else pure (.exit i, fr)
      | e => pure (e, fr)
    | .loop b => do
      let (e, fr) ← codeM P call n b fr
      match e with
      | .normal => codeM P call n (.loop b) fr
      | e => pure (e, fr)
    | .exit id => M.pure (.exit id, fr)
    | .ret => M.pure (.ret, fr)
    | .goto l => M.pure (.goto l, fr)
    | .scope b => do
      let (e, fr) ← codeM P call n b fr
      match e with
      | .goto l =>
        match findLabel b l with
        | some rest => do
          let (e, fr) ← codeM P call n rest fr
          match e with
          | .goto _ => M.fail
          | e => pure (e, fr)
        | none => M.fail
      | e => pure (e, fr)
    | _ => M.fail

def resultM (P : Program) (fr : Fr) : ResultVar → M Value
  | .tmp t => ofO (fr.get t)
  | .cell a t => do
    let v ← ofO (fr.get a)
    loadM P t v
def resultsM (P : Program) (fr : Fr) : List ResultVar → M (List Value)
  | [] => M.pure []
  | r :: rs => do
    let v ← resultM P fr r
    let l ← resultsM P fr rs
    pure (v :: l)

def putAll : List Value → Nat → PT Value → PT Value
  | [], _, t => t
  | v :: r, i, t => putAll r (i + 1) (PT.set v (i + 1) i t)

def bodyM [Orc] (P : Program) (call : FuncId → List Value → M Value) (n : Nat) (f : FuncId) (args : List Value) : M Value :=
  match P.funcs[f]? with
  | none => M.fail
  | some fn =>
    match fn.body with
    | none => M.fail
    | some c => do
      let (e, fr) ← codeM P call n c ⟨max fn.ntmps args.length, putAll args 0 .e⟩
      match e with
      | .normal | .ret => do
        let vs ← resultsM P fr fn.results.toList
        match vs with
        | [v] => pure v
        | vs => pure (.tuple vs.toArray)
      | _ => M.fail

/-- The call of function f, with n rounds at the most. -/
def ev [Orc] (P : Program) : Nat → FuncId → List Value → M Value
  | 0, _, _ => M.fail
  | n + 1, f, args => match Orc.sum f with
    | some g => g args
    | none => bodyM P (ev P n) n f args

end Go.Ev
