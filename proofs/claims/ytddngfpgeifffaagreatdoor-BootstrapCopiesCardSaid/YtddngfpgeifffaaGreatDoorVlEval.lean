/- A part of the proof: Eval. -/
import Derived.TacticsIn
import Derived.LoopNIn
import Derived.Test.YtddngfpgeifffaaGreatDoorVlStep
set_option linter.unusedVariables false
set_option linter.unusedSimpArgs false
/- A small logic of abstract values: the evaluator of operations. -/
namespace Go.Proofs.Vl
open Go Go.RowKit

def zc (P : Program) (t : TypeId) : Option (List Value) :=
  match (P.info? t).bind (·.zero) with
  | some v => if v.cells.toList.all Value.oneCell' then some v.cells.toList else none
  | none => none
def TypeDesc.isAgg : TypeDesc → Bool
  | .struct _ | .array _ _ => true
  | _ => false
def ty (P : Program) (t : TypeId) : Option (Bool × Nat) :=
  match P.underlying t, P.info? t with
  | some d, some i => some (TypeDesc.isAgg d, i.size)
  | _, _ => none
def At.known : At → Bool
  | .unk => false
  | _ => true
def At.isD : At → Bool
  | .d _ => true
  | _ => false
def At.toD : At → D
  | .d x => x
  | _ => .raw .nilIface

/-- Cells j, j + 1, .., n of them, of one element. -/
def mk (f : Nat → D) : Nat → Nat → List At
  | _, 0 => []
  | j, n + 1 => .d (f j) :: mk f (j + 1) n

def evLoad (P : Program) (t : TypeId) (p : V) (s : St) (k : V → Prop) : Prop :=
  match ty P t, p with
  | some (g, n), .c false [.ref id off] =>
    match s.heap[id]? with
    | some (.cells e xs) => if g then (if off + n ≤ xs.length then k (.c true ((xs.drop off).take n)) else False) else match xs[off]? with | some x => k (.c false [x]) | none => False
    | _ => False
  | some (g, n), .c false [.fel m get] => if n ≤ m ∧ (g = false → n = 1) then k (.c g (mk get 0 n)) else False
  | some (g, n), .c false [.el id sz i j] =>
    match s.heap[id]? with
    | some (.row _ sz' len get _) => if sz' = sz ∧ i < len ∧ j + n ≤ sz ∧ (g = false → n = 1) then k (.c g (mk (get i) j n)) else False
    | _ => False
  | _, _ => False

def putList {α : Type} (xs : List α) (off : Nat) (ys : List α) : List α := xs.take off ++ ys ++ xs.drop (off + ys.length)

def updRow (get : Nat → Nat → D) (i j : Nat) (ds : List D) : Nat → Nat → D :=
  fun i' j' => if i' = i then (if j ≤ j' then ds.getD (j' - j) (get i' j') else get i' j') else get i' j'

def evStore (P : Program) (t : TypeId) (p v : V) (s : St) (k : St → Prop) : Prop :=
  match ty P t, p, v with
  | some (_, n), .c false [.ref id off], .c _ ys =>
    match s.heap[id]? with
    | some (.cells e xs) => if ys.length = n ∧ off + n ≤ xs.length ∧ ys.all At.known = true then k { s with heap := s.heap.set id (.cells e (putList xs off ys)) } else False
    | _ => False
  | some (_, n), .c false [.el id sz i j], .c _ ys =>
    match s.heap[id]? with
    | some (.row e sz' len get fz) =>
      if ys.length = n ∧ sz' = sz ∧ i < len ∧ fz ≤ i ∧ j + n ≤ sz ∧ ys.all At.isD = true then k { s with heap := s.heap.set id (.row e sz len (updRow get i j (ys.map At.toD)) fz) } else False
    | _ => False
  | _, _, _ => False

/-- Two scalars: the value, where nothing can go wrong. -/
def binV (op : BinOp) (a b : Value) : Option Value :=
  match a, b with
  | .int k x, .int k' y =>
    match op with
    | .shl => if y < 0 then none else some (.int k (k.wrap (x * 2 ^ (min y.toNat k.bits))))
    | .shr => if y < 0 then none else some (.int k (x.fdiv (2 ^ (min y.toNat k.bits))))
    | _ =>
      if k = k' then
        match op with
        | .add => some (.int k (k.wrap (x + y)))
        | .sub => some (.int k (k.wrap (x - y)))
        | .mul => some (.int k (k.wrap (x * y)))
        | .and => some (.int k (k.wrap (BitVec.ofInt k.bits x &&& BitVec.ofInt k.bits y).toNat))
        | .or => some (.int k (k.wrap (BitVec.ofInt k.bits x ||| BitVec.ofInt k.bits y).toNat))
        | .xor => some (.int k (k.wrap (BitVec.ofInt k.bits x ^^^ BitVec.ofInt k.bits y).toNat))
        | .andNot => some (.int k (k.wrap (BitVec.ofInt k.bits x &&& ~~~BitVec.ofInt k.bits y).toNat))
        | .eql => some (.bool (x == y))
        | .neq => some (.bool (x != y))
        | .lss => some (.bool (decide (x < y)))
        | .leq => some (.bool (decide (x ≤ y)))
        | .gtr => some (.bool (decide (x > y)))
        | .geq => some (.bool (decide (x ≥ y)))
        | _ => none
      else none
  | .string x, .string y =>
    match op with
    | .eql => some (.bool (x.toList == y.toList))
    | .neq => some (.bool !(x.toList == y.toList))
    | .lss => some (.bool (Op.bytesLess x.toList y.toList))
    | .gtr => some (.bool !(Op.bytesLess x.toList y.toList || x.toList == y.toList))
    | _ => none
  | _, _ => none

def evBin (op : BinOp) (a b : V) (k : V → Prop) (x : V → Prop) : Prop :=
  match a, b with
  | .c false [.d (.raw (.int ka n))], .c false [.d (.raw (.int kb m))] =>
    match op with
    | .quo => if ka = kb then (if m = 0 then x .unk else k (.raw (.int ka (ka.wrap (n.tdiv m))))) else False
    | .rem => if ka = kb then (if m = 0 then x .unk else k (.raw (.int ka (n.tmod m)))) else False
    | _ => match binV op (.int ka n) (.int kb m) with | some v => k (.raw v) | none => False
  | .c false [.d (.raw (.string p))], .c false [.d (.raw (.string q))] =>
    match op with
    | .add => if p.size + q.size ≤ 9223372036854775807 then k (.raw (.string (p ++ q))) else False
    | _ => match binV op (.string p) (.string q) with | some v => k (.raw v) | none => False
  | _, _ => False

/-! pointers, held against one another, seen as unsafe ones -/
def isPtr (P : Program) (t : TypeId) : Bool := match P.underlying t with | some (.pointer e) => (P.info? e).isSome | _ => false
def evCmp (P : Program) (op : BinOp) (t : TypeId) (a b : V) (k : V → Prop) (x : V → Prop) : Prop :=
  match op, a, b with
  | .eql, .c false [.d (.raw (.pointer none))], .c false [.d (.raw (.pointer none))] => if isPtr P t = true then k (.raw (.bool true)) else False
  | .neq, .c false [.d (.raw (.pointer none))], .c false [.d (.raw (.pointer none))] => if isPtr P t = true then k (.raw (.bool false)) else False
  | .eql, .c false [.ref _ _], .c false [.d (.raw (.pointer none))] => if isPtr P t = true then k (.raw (.bool false)) else False
  | .neq, .c false [.ref _ _], .c false [.d (.raw (.pointer none))] => if isPtr P t = true then k (.raw (.bool true)) else False
  | .eql, .c false [.ref id q], .c false [.ref id' q'] => if id = id' ∧ q = q' ∧ isPtr P t = true then k (.raw (.bool true)) else False
  | .neq, .c false [.ref id q], .c false [.ref id' q'] => if id = id' ∧ q = q' ∧ isPtr P t = true then k (.raw (.bool false)) else False
  | op, a, b => evBin op a b k x
def isIface (P : Program) (t : TypeId) : Bool := match P.underlying t with | some (.interface _) => true | _ => false
def isBoolT (P : Program) (t : TypeId) : Bool := match P.underlying t with | some .bool => true | _ => false
/-- Of a struct's type whose fields are numbers and strings: their places. -/
def eqKinds (P : Program) (t : TypeId) : Option (List (Nat × Bool)) :=
  match P.underlying t with
  | some (.struct fs) => if (!P.stoodInHeld t && !P.eqGuardType P.depth t) = true then fs.toList.mapM fun f => if f.name = "_" then none else match P.underlying f.type with
    | some (.int _) => some (f.offset, false)
    | some .string => some (f.offset, true)
    | _ => none
    else none
  | _ => none
def eqVals : List (Nat × Bool) → List At → List At → Option Bool
  | [], _, _ => some true
  | (off, st) :: l, xs, ys => match xs[off]?, ys[off]?, eqVals l xs ys with
    | some (.d (.raw (.int k a))), some (.d (.raw (.int k' b))), some r => if k = k' ∧ st = false then some ((a == b) && r) else none
    | some (.d (.raw (.string a))), some (.d (.raw (.string b))), some r => if st = true then some ((a.data.toList == b.data.toList) && r) else none
    | _, _, _ => none
def eqRes (op : BinOp) (b : Bool) (k : V → Prop) : Prop := match op with
  | .eql => k (.raw (.bool b))
  | .neq => k (.raw (.bool !b))
  | _ => False
def isLit : Operand → Bool
  | .const _ => true
  | _ => false
def evEqX (P : Program) (op : BinOp) (t : TypeId) (lit : Bool) (u v : V) (k : V → Prop) (els : Prop) : Prop :=
  match u, v with
  | .c false [.d (.raw .nilIface)], .c false [.d (.raw .nilIface)] => if lit = true ∧ isIface P t = true then eqRes op true k else False
  | .c false [.d (.raw (.bool a))], .c false [.d (.raw (.bool b))] => if isBoolT P t = true then eqRes op (a == b) k else False
  | .c true xs, .c true ys => match eqKinds P t with
    | some l => match eqVals l xs ys with
      | some b => eqRes op b k
      | none => False
    | none => False
  | _, _ => els
def toUnsafe (P : Program) (t t' : TypeId) : Bool := match P.underlying t, P.underlying t' with
  | some (.pointer u), some .unsafePointer => (match P.info? u with | some j => decide (j.size ≠ 0) | none => false)
  | _, _ => false
def fromUnsafe (P : Program) (t t' e : TypeId) (n off : Nat) : Bool := match P.underlying t, P.underlying t' with
  | some .unsafePointer, some (.pointer u) => (P.info? u).isSome && liesAt P P.depth e (n / P.cellsOf e) off u 1
  | _, _ => false
/-- internal/abi.NoEscape. -/
def noEscape (P : Program) (g : FuncId) : Bool := match P.funcs[g]? with
  | some fn => fn.name == "internal/abi.NoEscape" && fn.origin == "" && fn.body.isNone
  | none => false
def byteRows (P : Program) (pt e : TypeId) : Bool := match P.underlying pt with
  | some (.pointer e') => decide (e' = e) && decide (P.cellsOf e = 1)
  | _ => false

def fieldOff (P : Program) (t : TypeId) (f : Nat) : Option Nat :=
  match P.underlying t with
  | some (.struct fields) =>
    match fields[f]? with
    | some fd => match P.info? fd.type with
      | some i => if i.size = 0 then none else some fd.offset
      | none => none
    | none => none
  | _ => none
def fieldPart (P : Program) (t : TypeId) (f : Nat) : Option (Bool × Nat × Nat) :=
  match P.underlying t with
  | some (.struct fields) =>
    match fields[f]? with
    | some fd => match ty P fd.type with
      | some (g, n) => some (g, n, fd.offset)
      | none => none
    | none => none
  | _ => none
/-- Of a slice's type: its element's type, cells and bytes; the element's zero. -/
def rowInfo (P : Program) (t : TypeId) : Option (TypeId × Nat × Nat × List Value) :=
  match P.underlying t with
  | some (.slice e) =>
    match P.info? e, zc P e with
    | some i, some l => if l.length = i.size ∧ 0 < i.size then some (e, i.size, i.bytes, l) else none
    | _, _ => none
  | _ => none
def isStr (P : Program) (t : TypeId) : Bool := match P.underlying t with | some .string => true | _ => false
def arrInfo (P : Program) (t : TypeId) : Option (Nat × Nat) :=
  match P.underlying t with
  | some (.array n e) => match ty P e with
    | some (_, m) => some (n, m)
    | none => none
  | _ => none
def callable (P : Program) (g : FuncId) : Bool :=
  match P.funcs[g]? with
  | some fn => fn.name != "runtime.NumGoroutine" && fn.body.isSome
  | none => false

def evFieldAddr (P : Program) (t : TypeId) (f : Nat) (p : V) (s : St) (k : V → Prop) : Prop :=
  match fieldOff P t f, p with
  | some off, .c false [.ref id o] => k (.a (.ref id (o + off)))
  | some off, .c false [.el id sz i j] => k (.a (.el id sz i (j + off)))
  | some off, .c false [.fel m get] => k (.a (.fel (m - off) fun j => get (off + j)))
  | _, _ => False

def evField (P : Program) (t : TypeId) (f : Nat) (p : V) (k : V → Prop) : Prop :=
  match fieldPart P t f, p with
  | some (g, n, off), .c true xs => if off + n ≤ xs.length then (if g then k (.c true ((xs.drop off).take n)) else match xs[off]? with | some x => k (.c false [x]) | none => False) else False
  | _, _ => False

def evIndexAddr (P : Program) (t : TypeId) (p i : V) (s : St) (k : V → Prop) (x : V → Prop) : Prop :=
  match p, i with
  | .c false [.d (.sl n sz get)], .c false [.d (.raw (.int _ q))] =>
    match rowInfo P t with
    | some (_, sz', _, _) => if sz' = sz then (if 0 ≤ q ∧ q < n then k (.a (.fel sz (get q.toNat))) else x .unk) else False
    | none => False
  | .c false [.row id n], .c false [.d (.raw (.int _ q))] =>
    match rowInfo P t with
    | some (_, sz', _, _) => if 0 ≤ q ∧ q < n then k (.a (.el id sz' q.toNat 0)) else x .unk
    | none => False
  | .c false [.d (.raw (.slice none 0 0))], .c false [.d (.raw (.int _ _))] =>
    match rowInfo P t with
    | some _ => x .unk
    | none => False
  | .c false [.ref id off], .c false [.d (.raw (.int _ q))] =>
    match arrInfo P t with
    | some (n, sz) => if 0 ≤ q ∧ q < n then k (.a (.ref id (off + q.toNat * sz))) else (if 1 < n then x .unk else False)
    | none => False
  | _, _ => False

def evIndex (P : Program) (t : TypeId) (p i : V) (k : V → Prop) (x : V → Prop) : Prop :=
  match p, i with
  | .c false [.d (.raw (.string s))], .c false [.d (.raw (.int _ q))] =>
    if isStr P t then (if 0 ≤ q ∧ q < s.size then k (.raw (.int .u8 ((s.data.toList.getD q.toNat 0).toNat))) else x .unk) else False
  | _, _ => False

/-- A bound of a slice expression. -/
def bnd (s : St) (d : Int) : Option Operand → Option Int
  | none => some d
  | some y => match s.eval y with
    | .c false [.d (.raw (.int _ q))] => some q
    | _ => none

/-- 'x[:0:0]' -/
def emptied : At → Option At
  | .d (.sl _ _ _) => some .emp
  | .row _ _ => some .emp
  | .emp => some .emp
  | .d (.raw (.slice none 0 0)) => some (.d (.raw (.slice none 0 0)))
  | _ => none

def evSlice (P : Program) (t : TypeId) (p : V) (lo hi mx : Option Operand) (s : St) (k : V → St → Prop) (x : V → St → Prop) : Prop :=
  match mx with
  | some ym =>
    match p, lo, hi with
    | .c false [x0], none, some yh =>
      match s.eval yh, s.eval ym, rowInfo P t, emptied x0 with
      | .c false [.d (.raw (.int _ h))], .c false [.d (.raw (.int _ m))], some _, some x1 => if h = 0 ∧ m = 0 then k (.a x1) s else False
      | _, _, _, _ => False
    | _, _, _ => False
  | none =>
    match p with
    | .c false [.d (.raw (.string b))] =>
      match isStr P t, bnd s 0 lo, bnd s b.size hi with
      | true, some l, some h => if 0 ≤ l ∧ l ≤ h ∧ h ≤ b.size then k (.raw (.string ⟨⟨(b.data.toList.take h.toNat).drop l.toNat⟩⟩)) s else x .unk s
      | _, _, _ => False
    | .c false [.d (.sl n sz get)] =>
      match rowInfo P t, bnd s 0 lo, bnd s n hi with
      | some (_, sz', _, _), some l, some h => if 0 ≤ l ∧ l ≤ h ∧ h ≤ n ∧ sz' = sz then k (.a (.d (.sl (h - l).toNat sz fun i j => get (l.toNat + i) j))) s else False
      | _, _, _ => False
    | .c false [.row id n] =>
      match rowInfo P t, lo, bnd s n hi with
      | some _, none, some h => if 0 ≤ h ∧ h ≤ n then k (.a (.row id h.toNat)) s else False
      | _, _, _ => False
    | .c false [.d (.raw (.slice none 0 0))] =>
      match rowInfo P t, bnd s 0 lo, bnd s 0 hi with
      | some _, some l, some h => if l = 0 ∧ h = 0 then k (.raw (.slice none 0 0)) s else False
      | _, _, _ => False
    | _ => False

def evLen (P : Program) (t : TypeId) (p : V) (k : V → Prop) : Prop :=
  match p with
  | .c false [.d (.raw (.string b))] => if isStr P t then k (.raw (.int .i64 b.size)) else False
  | .c false [.d (.sl n _ _)] => match rowInfo P t with | some _ => k (.raw (.int .i64 n)) | none => False
  | .c false [.row _ n] => match rowInfo P t with | some _ => k (.raw (.int .i64 n)) | none => False
  | .c false [.d (.raw (.slice none 0 0))] => match rowInfo P t with | some _ => k (.raw (.int .i64 0)) | none => False
  | .c false [.emp] => match rowInfo P t with | some _ => k (.raw (.int .i64 0)) | none => False
  | _ => False

/-- The parts of a call, a literal. -/
def parts (s : St) : List Operand → Option (List (Bool × List At))
  | [] => some []
  | y :: l => match s.eval y, parts s l with
    | .c g xs, some r => some ((g, xs) :: r)
    | _, _ => none

def ACall (P : Program) (g : FuncId) (args : List (Bool × List At)) (s : St) (k x : V → St → Prop) : Prop :=
  ∀ B I0 w0, GlobOk P B w0 → ∀ c a as w (vs : Array Value), Rel B I0 w0 c s a as w → All2 (PRep (imm B I0 c s.heap w) w s.heap c) args vs.toList →
    Calls P g vs w fun e w' =>
      (∃ u v s' c', e = .returned u ∧ Rel B I0 w0 c' s' a as w' ∧ VRep (imm B I0 c' s'.heap w') w' s'.heap c' v u ∧ k v s') ∨
      (∃ u v s' c', e = .panicked [{ v := u, recovered := false }] ∧ Rel B I0 w0 c' s' a as w' ∧ VRep (imm B I0 c' s'.heap w') w' s'.heap c' v u ∧ x v s')

/-- A round of a range over a function. -/
def AYield (P : Program) (id : Nat) (args : List (Bool × List At)) (s : St) (k : V → St → Prop) : Prop :=
  ∀ B I0 w0, GlobOk P B w0 → ∀ c a as w (vs : Array Value), Rel B I0 w0 c s a as w → All2 (PRep (imm B I0 c s.heap w) w s.heap c) args vs.toList →
    ∃ lr : Loop, w.heap[c.ρ id]? = some (.loop lr) ∧ vs.size = lr.params.size ∧
      RoundIn Fence.wide 0 P (c.ρ id) lr.fn ((lr.params.zip vs).foldl (fun tmps (t, a) => tmps.setIfInBounds t a) lr.tmps) lr.assign lr.body w fun e w' =>
        ∃ u v s' c', e = .returned u ∧ Rel B I0 w0 c' s' a as w' ∧ VRep (imm B I0 c' s'.heap w') w' s'.heap c' v u ∧ k v s'

def evCall (P : Program) (f : V) (args : List Operand) (s : St) (k x : V → St → Prop) : Prop :=
  match f, parts s args with
  | .c false [.d (.raw (.func (.func g) ⟨[]⟩ ⟨[]⟩))], some l => if callable P g then ACall P g l s k x else if noEscape P g = true then (match l with | [(false, [y])] => k (.a y) s | _ => False) else False
  | .c false [.clo id], some l =>
    match s.heap[id]? with
    | some (.clo (.func g) first cap) => if callable P g then ACall P g (first ++ l ++ cap) s k x else False
    | _ => False
  | .c false [.yld id], some l => AYield P id l s k
  | _, _ => False

def convI (P : Program) (t : TypeId) : Option IntKind := match P.underlying t with | some (.int k) => some k | _ => none
def isBytes (P : Program) (t : TypeId) : Bool :=
  match P.underlying t with
  | some (.slice e) => (match P.underlying e with | some (.int .u8) => true | _ => false)
  | _ => false
def isConcrete (P : Program) (t : TypeId) : Bool := match P.underlying t with | some (.interface _) => false | some _ => true | none => false
/-- Of a struct's or an array's type: where its fields, elements lie. -/
def places (P : Program) (t : TypeId) : Option (List (Nat × Nat)) :=
  match P.underlying t with
  | some (.struct fields) => fields.toList.mapM fun f => (P.info? f.type).map fun i => (f.offset, i.size)
  | _ => none

def byteOf : D → UInt8
  | .raw (.int _ n) => UInt8.ofNat n.toNat
  | _ => 0
def IsByte (d : D) : Prop := ∃ n, d = .raw (.int .u8 n)

def nilD : Nat → Nat → D := fun _ _ => .raw .nilIface
/-- What a slice's value holds. -/
def src (H : List Ob) (sz : Nat) : At → Option (Nat × (Nat → Nat → D))
  | .d (.sl m sz' get) => if sz' = sz then some (m, get) else none
  | .row id m => match H[id]? with
    | some (.row _ sz' _ get _) => if sz' = sz then some (m, get) else none
    | _ => none
  | .d (.raw (.slice none 0 0)) => some (0, nilD)
  | .emp => some (0, nilD)
  | _ => none

def byteRow (b : ByteArray) : Nat → Nat → D := fun i _ => .raw (.int .u8 ((b.data.toList.getD i 0).toNat))
/-- What is appended: a slice's elements, a string's bytes. -/
def srcA (H : List Ob) (sz : Nat) : At → Option (Nat × (Nat → Nat → D))
  | .d (.raw (.string b)) => if sz = 1 then some (b.size, byteRow b) else none
  | x => src H sz x
def appArg (P : Program) (t t' : TypeId) : Bool := decide (t' = t) || isStr P t'

def evConvert (P : Program) (t t' : TypeId) (v : V) (s : St) (k : V → Prop) : Prop :=
  match v with
  | .c false [.ref id off] => match s.heap[id]? with
    | some (.cells e xs) => if off < xs.length ∧ (toUnsafe P t t' || fromUnsafe P t t' e xs.length off) = true then k (.a (.ref id off)) else False
    | _ => False
  | .c false [.d (.raw (.int kk n))] => match ty P t, convI P t' with | some _, some kd => k (.raw (.int kd (kd.wrap n))) | _, _ => False
  | .c false [.d (.raw (.string b))] => match ty P t with | some _ => if isStr P t' then k (.raw (.string b)) else False | none => False
  | .c false [y] =>
    if isStr P t' && isBytes P t then
      match src s.heap 1 y with
      | some (m, get) => (∀ i, i < m → IsByte (get i 0)) ∧ k (.raw (.string ⟨⟨(List.range m).map fun i => byteOf (get i 0)⟩⟩))
      | none => False
    else False
  | _ => False

def fillA (pl : Nat → Option (Nat × Nat)) (xs : List At) : List (Nat × List At) → Option (List At)
  | [] => some xs
  | (i, ys) :: rest =>
    match pl i with
    | some (off, n) => if ys.length = n ∧ off + n ≤ xs.length then fillA pl (putList xs off ys) rest else none
    | none => none
def fparts (s : St) : List (Nat × Operand) → Option (List (Nat × List At))
  | [] => some []
  | (i, y) :: l => match s.eval y, fparts s l with
    | .c _ xs, some r => if xs.all At.known = true then some ((i, xs) :: r) else none
    | _, _ => none

def evBuild (P : Program) (t : TypeId) (ps : List (Nat × Operand)) (s : St) (k : V → Prop) : Prop :=
  match places P t, zc P t, fparts s ps with
  | some pl, some z, some l => match fillA (fun i => pl[i]?) (z.map At.raw) l with
    | some xs => k (.c true xs)
    | none => False
  | _, _, _ => False

def reps (z : List Value) : Nat → List Value
  | 0 => []
  | n + 1 => z ++ reps z n
def litRow (xs : List At) (sz : Nat) : Nat → Nat → D := fun i j => (xs.getD (i * sz + j) (.d (.raw .nilIface))).toD
def evBuildSlice (P : Program) (t : TypeId) (len : Nat) (ps : List (Nat × Operand)) (s : St) (k : V → St → Prop) : Prop :=
  match rowInfo P t, fparts s ps with
  | some (e, sz, _, z), some l =>
    if len * sz ≤ 16777216 then
      match fillA (fun i => some (i * sz, sz)) ((reps z len).map At.raw) l with
      | some xs => if xs.all At.isD = true then k (.a (.row s.heap.length len)) { s with heap := s.heap ++ [.row e sz len (litRow xs sz) 0] } else False
      | none => False
    else False
  | _, _ => False

def evMakeSlice (P : Program) (t : TypeId) (l c : V) (s : St) (k : V → St → Prop) : Prop :=
  match rowInfo P t, l, c with
  | some (e, sz, by', z), .c false [.d (.raw (.int _ n))], .c false [.d (.raw (.int _ m))] =>
    if 0 ≤ n ∧ n ≤ m ∧ by' * m ≤ 140737488355328 ∧ m ≤ 9223372036854775807 then k (.a (.row s.heap.length n.toNat)) { s with heap := s.heap ++ [.row e sz n.toNat (fun _ j => .raw (z.getD j .nilIface)) 0] } else False
  | _, _, _ => False

def At.scrub (id : Nat) : At → At
  | .ref i o => if i = id then .unk else .ref i o
  | .row i m => if i = id then .unk else .row i m
  | .sd i m => if i = id then .unk else .sd i m
  | .el i sz a b => if i = id then .unk else .el i sz a b
  | .mp i => if i = id then .unk else .mp i
  | .clo i => if i = id then .unk else .clo i
  | .yld i => if i = id then .unk else .yld i
  | .mref i o => if i = id then .unk else .mref i o
  | x => x
def V.scrub (id : Nat) : V → V
  | .c g xs => .c g (xs.map (At.scrub id))
  | .tup ys => .tup (ys.map fun p => (p.1, p.2.map (At.scrub id)))
def Ob.scrub (id : Nat) : Ob → Ob
  | .cells e xs => .cells e (xs.map (At.scrub id))
  | .clo fn first cap => .clo fn (first.map fun p => (p.1, p.2.map (At.scrub id))) (cap.map fun p => (p.1, p.2.map (At.scrub id)))
  | .lp l nt tl ps asg body busy pend => .lp l nt (tl.map fun p => (p.1, p.2.scrub id)) ps asg body busy pend
  | o => o
def Fr.scrub (id : Nat) (f : Fr) : Fr := ⟨f.nt, f.tl.map fun p => (p.1, p.2.scrub id)⟩
def catRow (get : Nat → Nat → D) (n : Nat) (getx : Nat → Nat → D) : Nat → Nat → D := fun i j => if i < n then get i j else getx (i - n) j

def evAppend (P : Program) (t : TypeId) (v y : V) (s : St) (k : V → St → Prop) : Prop :=
  match rowInfo P t, v, y with
  | some (e, sz, by', _), .c false [v], .c false [y] =>
    match srcA s.heap sz y with
    | some (m, getx) =>
      match v with
      | .row id n =>
        match s.heap[id]? with
        | some (.row e' sz' _ get fz) =>
          if e' = e ∧ sz' = sz ∧ fz ≤ n ∧ (n + m) * by' ≤ 140737488355328 ∧ n + m ≤ 140737488355328 then
            k (.a (.row id (n + m))) ⟨s.cur.scrub id, s.rest.map (Fr.scrub id), (s.heap.map (Ob.scrub id)).set id (.row e sz (n + m) (catRow get n getx) fz)⟩
          else False
        | _ => False
      | .d (.raw (.slice none 0 0)) =>
        if m = 0 then k (.raw (.slice none 0 0)) s
        else if m * by' ≤ 140737488355328 ∧ m ≤ 140737488355328 then k (.a (.row s.heap.length m)) { s with heap := s.heap ++ [.row e sz m getx 0] } else False
      | .emp =>
        if m = 0 then k (.a .emp) s
        else if m * by' ≤ 140737488355328 ∧ m ≤ 140737488355328 then k (.a (.row s.heap.length m)) { s with heap := s.heap ++ [.row e sz m getx 0] } else False
      | _ => False
    | none => False
  | _, _, _ => False

def fnParts (s : St) : List Operand → Option (List (Bool × List At)) := parts s

/-- Of a map's type: its keys' kind, its elements' zero. -/
def mapInfo (P : Program) (t : TypeId) : Option (Option IntKind × Value) :=
  match P.underlying t with
  | some (.map k e) => match (P.info? e).bind (·.zero) with
    | some z => if z.oneCell' = true then match P.underlying k with
      | some (.int κ) => some (some κ, z)
      | some .string => some (none, z)
      | _ => none
      else none
    | none => none
  | _ => none
def mkey (kk : Option IntKind) (v : Value) : Option MK :=
  match kk, v with
  | some κ, .int κ' n => if κ' = κ then some (.i n) else none
  | none, .string b => some (.s b.data.toList)
  | _, _ => none
def mget : List (MK × D) → MK → Option D
  | [], _ => none
  | (k, d) :: l, q => if k = q then some d else mget l q
def mset : List (MK × D) → MK → D → List (MK × D)
  | [], q, d => [(q, d)]
  | (k, d') :: l, q, d => if k = q then (k, d) :: l else (k, d') :: mset l q d
def evLookup (P : Program) (t : TypeId) (v y : V) (ok : Bool) (s : St) (k : V → Prop) : Prop :=
  match v, y with
  | .c false [.mp id], .c false [.d (.raw key)] =>
    match s.heap[id]?, mapInfo P t with
    | some (.mp t' kk' l), some (kk, z) => if t' = t ∧ kk' = kk then
        match mkey kk key with
        | some q => if ok = true then k (.tup [(false, [.d ((mget l q).getD (.raw z))]), (false, [.d (.raw (.bool (mget l q).isSome))])]) else k (.c false [.d ((mget l q).getD (.raw z))])
        | none => False
      else False
    | _, _ => False
  | _, _ => False
def evMapSet (P : Program) (t : TypeId) (v y z : V) (s : St) (k : St → Prop) : Prop :=
  match v, y, z with
  | .c false [.mp id], .c false [.d (.raw key)], .c false [.d dv] =>
    match s.heap[id]?, mapInfo P t with
    | some (.mp t' kk' l), some (kk, _) => if t' = t ∧ kk' = kk then
        match mkey kk key with
        | some q => k { s with heap := s.heap.set id (.mp t kk (mset l q dv)) }
        | none => False
      else False
    | _, _ => False
  | _, _, _ => False
/-- A structure of no fields. -/
def emptyAgg (P : Program) (t : TypeId) : Bool := match P.underlying t, (P.info? t).bind (·.zero) with
  | some (.struct _), some (.agg ⟨[]⟩) => true
  | _, _ => false
def evAssert0 (t : TypeId) (v : V) (k : V → Prop) : Prop :=
  match v with
  | .c false [.d (.raw .nilIface)] => k (.tup [(true, []), (false, [.d (.raw (.bool false))])])
  | .c false [.d (.raw (.iface t' (.agg ⟨[]⟩)))] => if t' = t then k (.tup [(true, []), (false, [.d (.raw (.bool true))])]) else False
  | _ => False
def evOp4 (P : Program) (o : Oper) (s : St) (k x : V → St → Prop) : Prop :=
  match o.op with
  | .makeMap t none => match mapInfo P t with
    | some (kk, _) => k (.a (.mp s.heap.length)) { s with heap := s.heap ++ [.mp t kk []] }
    | none => False
  | .lookup t y z ok => evLookup P t (s.eval y) (s.eval z) ok s fun v => k v s
  | .mapUpdate t y z u => evMapSet P t (s.eval y) (s.eval z) (s.eval u) s fun s' => k .unk s'
  | .insert t y z u => evMapSet P t (s.eval y) (s.eval z) (s.eval u) s fun s' => k .unk s'
  | .typeAssert y _ t true => if emptyAgg P t = true then evAssert0 t (s.eval y) fun v => k v s else False
  | _ => False

def IsB8 (d : D) : Prop := d = .raw (.int .u8 (byteOf d).toNat)
def rowBytes (get : Nat → Nat → D) (n : Nat) : List UInt8 := (List.range n).map fun i => byteOf (get i 0)
def evOp3 (P : Program) (o : Oper) (s : St) (k x : V → St → Prop) : Prop :=
  match o.op with
  | .call { callee := .builtin .unsafeSliceData, args := ⟨[y]⟩, argTypes := _ } =>
    match s.eval y with
    | .c false [.d (.raw (.slice none 0 0))] => k (.raw (.pointer none)) s
    | .c false [.row id n] => match s.heap[id]? with
      | some (.row _ _ _ _ _) => isPtr P o.type = true ∧ k (.a (.sd id n)) s
      | _ => False
    | _ => False
  | .call { callee := .builtin .unsafeString, args := ⟨[y, z]⟩, argTypes := ⟨[pt, _]⟩ } =>
    match s.eval y, s.eval z with
    | .c false [.d (.raw (.pointer none))], .c false [.d (.raw (.int .i64 n))] => if n = 0 then k (.raw (.string ⟨⟨[]⟩⟩)) s else False
    | .c false [.sd id n'], .c false [.d (.raw (.int .i64 n))] => match s.heap[id]? with
      | some (.row e sz m get _) => if sz = 1 ∧ n = n' ∧ n ≤ m ∧ n ≤ 9223372036854775807 ∧ byteRows P pt e = true then
          (∀ i, i < n.toNat → IsB8 (get i 0)) ∧ k (.raw (.string ⟨⟨rowBytes get n.toNat⟩⟩)) ⟨s.cur.scrub id, s.rest.map (Fr.scrub id), (s.heap.map (Ob.scrub id)).set id .gone⟩ else False
      | _ => False
    | _, _ => False
  | _ => evOp4 P o s k x

def evOp2 (P : Program) (o : Oper) (s : St) (k x : V → St → Prop) : Prop :=
  match o.op with
  | .convert t t' y => evConvert P t t' (s.eval y) s fun v => k v s
  | .build t ⟨ps⟩ => evBuild P t ps s fun v => k v s
  | .buildSlice t len ⟨ps⟩ => evBuildSlice P t len ps s k
  | .makeSlice t l c => evMakeSlice P t (s.eval l) (s.eval c) s k
  | .makeFunc fn ⟨first⟩ ⟨cap⟩ =>
    match parts s first, parts s cap with
    | some f, some c => k (.a (.clo s.heap.length)) { s with heap := s.heap ++ [.clo fn f c] }
    | _, _ => False
  | .makeInterface t y =>
    if isConcrete P t then
      match s.eval y with
      | .c false [.d (.raw v)] => k (.raw (.iface t v)) s
      | .c true [] => k (.raw (.iface t (.agg #[]))) s
      | _ => False
    else False
  | .panic y => match s.eval y with
    | .c false [.d (.raw (.iface t v))] => x (.raw (.iface t v)) s
    | _ => False
  | .unOp .neg _ y => match s.eval y with
    | .c false [.d (.raw (.int kk n))] => k (.raw (.int kk (kk.wrap (0 - n)))) s
    | _ => False
  | .call { callee := .builtin .append, args := ⟨[y, z]⟩, argTypes := ⟨[t, t']⟩ } => if appArg P t t' = true then evAppend P t (s.eval y) (s.eval z) s k else False
  | .call { callee := .builtin .min, args := ⟨[y, z]⟩, argTypes := ts } => match s.eval y, s.eval z with
    | .c false [.d (.raw (.int kk n))], .c false [.d (.raw (.int _ m))] => k (.raw (.int kk (if m < n then m else n))) s
    | _, _ => False
  | .call { callee := .builtin .max, args := ⟨[y, z]⟩, argTypes := ts } => match s.eval y, s.eval z with
    | .c false [.d (.raw (.int kk n))], .c false [.d (.raw (.int _ m))] => k (.raw (.int kk (if n < m then m else n))) s
    | _, _ => False
  | _ => evOp3 P o s k x

def evOp (P : Program) (o : Oper) (s : St) (k x : V → St → Prop) : Prop :=
  match o.op with
  | .move y => k (s.eval y) s
  | .assign y => k (s.eval y) s
  | .pick c a b => match s.eval c with
    | .c false [.d (.raw (.bool t))] => if t = true then k (s.eval a) s else k (s.eval b) s
    | _ => False
  | .alloc t => match zc P t with
    | some l => k (.a (.ref s.heap.length 0)) { s with heap := s.heap ++ [.cells t (l.map At.raw)] }
    | none => False
  | .box t y => match s.eval y with
    | .c _ xs => if xs.all At.known = true then k (.a (.ref s.heap.length 0)) { s with heap := s.heap ++ [.cells t xs] } else False
    | _ => False
  | .load t y => evLoad P t (s.eval y) s fun v => k v s
  | .store t y z => evStore P t (s.eval y) (s.eval z) s fun s' => k .unk s'
  | .nilCheck y => match s.eval y with
    | .c false [.ref id off] => k (.a (.ref id off)) s
    | .c false [.el id sz i j] => k (.a (.el id sz i j)) s
    | .c false [.fel m get] => k (.a (.fel m get)) s
    | _ => False
  | .binOp op t y z _ => evEqX P op t (isLit z) (s.eval y) (s.eval z) (fun v => k v s) (evCmp P op t (s.eval y) (s.eval z) (fun v => k v s) (fun v => x v s))
  | .unOp .not _ y => match s.eval y with
    | .c false [.d (.raw (.bool b))] => k (.raw (.bool !b)) s
    | _ => False
  | .extract y i => match s.eval y with
    | .tup ys => match ys[i]? with | some p => k (.c p.1 p.2) s | none => False
    | _ => False
  | .fieldAddr t y f => evFieldAddr P t f (s.eval y) s fun v => k v s
  | .field t y f => evField P t f (s.eval y) fun v => k v s
  | .indexAddr t y i => evIndexAddr P t (s.eval y) (s.eval i) s (fun v => k v s) (fun v => x v s)
  | .index t y i => evIndex P t (s.eval y) (s.eval i) (fun v => k v s) (fun v => x v s)
  | .slice t y lo hi mx => evSlice P t (s.eval y) lo hi mx s k x
  | .call { callee := .builtin .len, args := ⟨[y]⟩, argTypes := ⟨[t]⟩ } => evLen P t (s.eval y) fun v => k v s
  | .call { callee := .value f, args := ⟨l⟩, .. } => evCall P (s.eval f) l s k x
  | _ => evOp2 P o s k x

section
variable {P : Program} {B : Nat} {I0 : Nat → Nat → Prop} {w0 w : World} {c : Cx} {s : St} {a : Act} {as : List Act}

theorem constV_rep (I : Nat → Nat → Prop) (w : World) (H : List Ob) (c : Cx) (v : Value) : VRep I w H c (constV v) v := by
  cases v with
  | agg cs =>
    simp only [constV]
    split
    · rename_i h
      refine ⟨cs, rfl, ?_⟩
      have : ∀ l : List Value, (∀ v ∈ l, v.oneCell' = true) → All2 (AtRep I w H c) (l.map At.raw) l := by
        intro l
        induction l with
        | nil => intro _; trivial
        | cons v l ih => intro hl; exact ⟨⟨rfl, hl v (by simp)⟩, ih fun v hv => hl v (by simp [hv])⟩
      exact this _ (List.all_eq_true.1 h)
    · trivial
  | tuple vs => trivial
  | _ => exact ⟨rfl, rfl⟩

theorem Rel.eval (r : Rel B I0 w0 c s a as w) (y : Operand) : VRep (imm B I0 c s.heap w) w s.heap c (s.eval y) (a.eval y) := by
  cases y with
  | tmp t => exact r.cur.2 t
  | const v => exact constV_rep _ _ _ _ v
  | global g => exact ⟨rfl, rfl⟩
  | func f => exact ⟨rfl, rfl⟩

/-- Within a round or not. -/
def fen (rd : Option Nat) : Fence := { Fence.wide with round := rd }
theorem callsIn_fen {rd : Option Nat} {n : Nat} {f : FuncId} {args : Array Value} {R : Ending → World → Prop} : CallsIn (fen rd) n P f args w R ↔ Calls P f args w R :=
  (Iff.rfl : CallsIn (fen rd) n P f args w R ↔ CallsIn Fence.wide n P f args w R).trans callsIn_wide
theorem semAt_fen (rd : Option Nat) (ρ : Operand → Value) {o : Oper} (h : ∀ c, o.op ≠ .defer c) : o.semAt (fen rd).round ρ = execOp ρ o := by
  cases rd with
  | none => exact Oper.semAt_none ρ o
  | some l => exact Oper.semAt_some l ρ o h
/-- What is to be shown of one operation. -/
def Good (P : Program) (o : Oper) (B : Nat) (I0 : Nat → Nat → Prop) (w0 : World) (a : Act) (as : List Act) (w : World) (k x : V → St → Prop) : Prop :=
  GlobOk P B w0 → (∀ c, o.op ≠ .defer c) → ∀ (rd : Option Nat) (next : Act → World → Prop) (Q : Exit → Act → World → Prop),
    (∀ v s' c' w' u, Rel B I0 w0 c' s' a as w' → VRep (imm B I0 c' s'.heap w') w' s'.heap c' v u → k v s' → next (a.put o.dst u) w') →
    (∀ v s' c' w' u, Rel B I0 w0 c' s' a as w' → VRep (imm B I0 c' s'.heap w') w' s'.heap c' v u → x v s' → Q (.panic [{ v := u, recovered := false }]) a w') →
    o.wpIn (fen rd) 0 P a w next Q

theorem Good.value {o : Oper} {k x : V → St → Prop} {u : Value} {w' : World} (hr : (execOp a.eval o).run P w = .ok (.value u) w')
    {v : V} {s' : St} {c' : Cx} (r : Rel B I0 w0 c' s' a as w') (hv : VRep (imm B I0 c' s'.heap w') w' s'.heap c' v u) (hk : k v s') : Good P o B I0 w0 a as w k x := by
  intro hG hnd rd next Q hn _
  exact ⟨fun _ _ => trivial, by rw [semAt_fen rd _ hnd, hr]; exact hn v s' c' w' u r hv hk⟩
theorem Good.skip {o : Oper} {k x : V → St → Prop} {w' : World} (hr : (execOp a.eval o).run P w = .ok .skip w')
    {s' : St} {c' : Cx} (r : Rel B I0 w0 c' s' a as w') (hk : k .unk s') : Good P o B I0 w0 a as w k x := by
  intro hG hnd rd next Q hn _
  exact ⟨fun _ _ => trivial, by rw [semAt_fen rd _ hnd, hr]; exact hn .unk s' c' w' undef r trivial hk⟩
theorem Good.panic {o : Oper} {k x : V → St → Prop} {u : Value} {w' : World} (hr : (execOp a.eval o).run P w = .halt (.panic u) w')
    {v : V} {s' : St} {c' : Cx} (r : Rel B I0 w0 c' s' a as w') (hv : VRep (imm B I0 c' s'.heap w') w' s'.heap c' v u) (hx : x v s') : Good P o B I0 w0 a as w k x := by
  intro hG hnd rd next Q _ hq
  exact ⟨fun _ _ => trivial, by rw [semAt_fen rd _ hnd, hr]; exact hq v s' c' w' u r hv hx⟩
end
end Go.Proofs.Vl
