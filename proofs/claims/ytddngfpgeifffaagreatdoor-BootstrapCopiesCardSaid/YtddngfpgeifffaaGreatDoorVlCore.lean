/- A part of the proof: Core. -/
import Derived.WalkKit
import Derived.RowKit3
import Derived.Below
import Derived.Laws.OwnMore
import Derived.Maps.AppendAt
import Derived.Laws.Cells
import Derived.Lib.LaidTab
import Derived.Lib.ItoaMem
set_option linter.unusedVariables false
set_option linter.unusedSimpArgs false
/- A small logic of abstract values over the kit's wp-calculus: definitions. -/
namespace Go.Proofs.Vl
open Go Go.RowKit

/-- Frozen data: what one cell holds. A slice whose elements are read alone: n elements of sz cells. -/
inductive D where
  | raw (v : Value)
  | sl (n sz : Nat) (get : Nat → Nat → D)

/-- What one cell of a frame or of a local object holds. -/
inductive At where
  | d (x : D)
  | ref (id off : Nat)
  | row (id n : Nat)
  | el (id sz i j : Nat)
  | fel (m : Nat) (get : Nat → D)
  | emp
  | sd (id n : Nat)
  | mp (id : Nat)
  | clo (id : Nat)
  | yld (id : Nat)
  | mref (id off : Nat)
  | unk

inductive V where
  | c (agg : Bool) (xs : List At)
  | tup (ys : List (Bool × List At))

def At.raw (v : Value) : At := .d (.raw v)
def V.a (x : At) : V := .c false [x]
def V.raw (v : Value) : V := .c false [.d (.raw v)]
def V.unk : V := .c false [.unk]

/-- A map's keys. -/
inductive MK where
  | i (n : Int)
  | s (b : List UInt8)
  deriving DecidableEq
/-- Components of data. -/
abbrev DC := Bool × List D

/-- Local objects. -/
inductive Ob where
  | cells (e : TypeId) (xs : List At)
  | row (e sz n : Nat) (get : Nat → Nat → D) (fz : Nat)
  | clo (fn : Fn) (first cap : List (Bool × List At))
  | mp (t : TypeId) (kk : Option IntKind) (l : List (MK × D))
  | lp (l nt : Nat) (tl : List (Nat × V)) (ps : List Nat) (asg body : Code) (busy : Bool) (pend : Option Code)
  | gone

/-- Whether it has a block of its own: a row that is nil has none. -/
def Ob.blk (k : Option Nat) : Ob → Bool
  | .cells .. => true
  | .mp .. => true
  | .lp .. => true
  | .row .. => k.isSome
  | _ => false
def Ob.fzc : Ob → Nat
  | .row _ sz _ _ fz => fz * sz
  | _ => 0
def Ob.len : Ob → Nat
  | .row _ _ n _ _ => n
  | _ => 0

structure Fr where
  nt : Nat
  tl : List (Nat × V)
structure St where
  cur : Fr
  rest : List Fr
  heap : List Ob

def vlook : List (Nat × V) → Nat → V
  | [], _ => .unk
  | (i, v) :: l, t => if i = t then v else vlook l t
def Fr.get (f : Fr) (t : Nat) : V := vlook f.tl t
def Fr.set (f : Fr) (t : Nat) (v : V) : Fr := ⟨f.nt, (t, v) :: f.tl⟩
def St.set (s : St) (t : Option Nat) (v : V) : St :=
  match t with
  | some t => { s with cur := s.cur.set t v }
  | none => s

def constV : Value → V
  | .agg cs => if cs.toList.all Value.oneCell' then .c true (cs.toList.map At.raw) else .unk
  | .tuple _ => .unk
  | v => .raw v
def St.eval (s : St) : Operand → V
  | .tmp t => s.cur.get t
  | .const v => constV v
  | .global g => .raw (.pointer (some ⟨g, 0, none⟩))
  | .func f => .raw (.func (.func f) #[] #[])

/-! ### What the words mean in a world -/
structure Cx where
  ρ : Nat → Nat
  κ : Nat → Option Nat
  γ : Nat → Value
def Cx.cap (c : Cx) (id : Nat) : Nat := (c.κ id).getD 0
def Cx.ad (c : Cx) (id : Nat) : Option Addr := (c.κ id).map fun _ => ⟨c.ρ id, 0, none⟩

def D.Rep (I : Nat → Nat → Prop) (w : World) : D → Value → Prop
  | .raw v, u => u = v ∧ v.oneCell' = true
  | .sl n sz get, u => ∃ a c, u = .slice a n c ∧ n ≤ c ∧ c ≤ maxLen ∧ (0 < n → ∃ b o, a = some ⟨b, o, none⟩ ∧
      ∀ i, i < n → ∀ j, j < sz → I b (o + (i * sz + j)) ∧ ∃ x, w.cell? ⟨b, o + (i * sz + j), none⟩ = some x ∧ (get i j).Rep I w x)

def obLen (H : List Ob) (id : Nat) : Nat := ((H[id]?).map Ob.len).getD 0

def AtRep (I : Nat → Nat → Prop) (w : World) (H : List Ob) (c : Cx) : At → Value → Prop
  | .d x, v => x.Rep I w v
  | .ref id off, v => id < H.length ∧ v = .pointer (some ⟨c.ρ id, off, none⟩)
  | .row id n, v => id < H.length ∧ n ≤ obLen H id ∧ v = .slice (c.ad id) n (c.cap id)
  | .el id sz i j, v => id < H.length ∧ v = .pointer (some ⟨c.ρ id, i * sz + j, none⟩)
  | .fel m get, v => ∃ b o, v = .pointer (some ⟨b, o, none⟩) ∧ ∀ j, j < m → I b (o + j) ∧ ∃ x, w.cell? ⟨b, o + j, none⟩ = some x ∧ (get j).Rep I w x
  | .emp, v => ∃ a, v = .slice a 0 0
  | .sd id n, v => id < H.length ∧ ∃ p, v = .pointer p ∧ (0 < n → p = some ⟨c.ρ id, 0, none⟩)
  | .mp id, v => id < H.length ∧ v = .map (some (c.ρ id))
  | .clo id, v => id < H.length ∧ v = c.γ id ∧ v.oneCell' = true
  | .yld id, v => id < H.length ∧ v = .func (.yield (c.ρ id)) #[] #[]
  | .mref id off, v => id < H.length ∧ (v = .pointer none ∨ v = .pointer (some ⟨c.ρ id, off, none⟩))
  | .unk, _ => True

def All2 {α β : Type} (R : α → β → Prop) : List α → List β → Prop
  | [], [] => True
  | a :: l, b :: m => R a b ∧ All2 R l m
  | _, _ => False

def CRep (I : Nat → Nat → Prop) (w : World) (H : List Ob) (c : Cx) (agg : Bool) (xs : List At) (v : Value) : Prop :=
  match agg, xs with
  | true, xs => ∃ cs : Array Value, v = .agg cs ∧ All2 (AtRep I w H c) xs cs.toList
  | false, [x] => AtRep I w H c x v
  | false, _ => False
def PRep (I : Nat → Nat → Prop) (w : World) (H : List Ob) (c : Cx) (p : Bool × List At) (v : Value) : Prop := CRep I w H c p.1 p.2 v
def VRep (I : Nat → Nat → Prop) (w : World) (H : List Ob) (c : Cx) : V → Value → Prop
  | .c g xs, v => CRep I w H c g xs v
  | .tup ys, v => ∃ vs : Array Value, v = .tuple vs ∧ All2 (PRep I w H c) ys vs.toList

def FRep (I : Nat → Nat → Prop) (w : World) (H : List Ob) (c : Cx) (f : Fr) (tmps : Array Value) : Prop :=
  tmps.size = f.nt ∧ ∀ t, VRep I w H c (f.get t) (tmps.getD t undef)

def dcRep (I : Nat → Nat → Prop) (w : World) (p : DC) (v : Value) : Prop :=
  match p.1, p.2 with
  | true, xs => ∃ cs : Array Value, v = .agg cs ∧ All2 (D.Rep I w) xs cs.toList
  | false, [x] => x.Rep I w v
  | false, _ => False
def MK.Rep (kk : Option IntKind) : MK → Value → Prop
  | .i n, v => ∃ k, kk = some k ∧ v = .int k n
  | .s b, v => kk = none ∧ v = .string ⟨⟨b⟩⟩
def ObRep (B : Nat) (I : Nat → Nat → Prop) (w : World) (H : List Ob) (c : Cx) (id : Nat) : Ob → Prop
  | .cells e xs => B ≤ c.ρ id ∧ ∃ cur, w.heap[c.ρ id]? = some (.cells cur e (0, 0)) ∧ All2 (AtRep I w H c) xs cur.toList ∧ ∀ v ∈ cur.toList, v.oneCell' = true
  | .row e sz n get fz => n ≤ c.cap id ∧ c.cap id ≤ maxLen ∧ ∀ k, c.κ id = some k → B ≤ c.ρ id ∧ ∃ cur, w.heap[c.ρ id]? = some (.cells cur e (0, 0)) ∧ cur.size = k * sz ∧
      ∀ i, i < n → ∀ j, j < sz → ∃ x, cur[i * sz + j]? = some x ∧ (get i j).Rep I w x
  | .clo fn first cap => ∃ fs cs : Array Value, c.γ id = .func fn fs cs ∧ All2 (PRep I w H c) first fs.toList ∧ All2 (PRep I w H c) cap cs.toList
  | .mp t kk l => B ≤ c.ρ id ∧ ∃ es clock, w.heap[c.ρ id]? = some (.map es clock) ∧ All2 (fun p e => p.1.Rep kk e.key ∧ p.2.Rep I w e.val) l es.toList
  | .lp l nt tl ps asg body busy pend => B ≤ c.ρ id ∧ c.ρ id = l ∧ ∃ lr : Loop, w.heap[c.ρ id]? = some (.loop lr) ∧ lr.state = (if busy then .busy else if pend.isSome then .done else .ready) ∧ lr.pending = pend ∧
      lr.params.toList = ps ∧ lr.assign = asg ∧ lr.body = body ∧ FRep I w H c ⟨nt, tl⟩ lr.tmps
  | .gone => True

/-- The cells that nobody writes any more. -/
def imm (B : Nat) (I0 : Nat → Nat → Prop) (c : Cx) (H : List Ob) (w : World) : Nat → Nat → Prop := fun b o =>
  (b < B ∧ I0 b o) ∨ (B ≤ b ∧ b < w.heap.size ∧ ∀ id ob, H[id]? = some ob → ob.blk (c.κ id) = true → c.ρ id = b → o < ob.fzc)

theorem cap_lt {c : Cx} {id i : Nat} (h : i < c.cap id) : ∃ k, c.κ id = some k ∧ i < k := by
  unfold Cx.cap at h
  cases hk : c.κ id with
  | none => rw [hk] at h; simp at h
  | some k => rw [hk] at h; exact ⟨k, rfl, h⟩
theorem cap_some {c : Cx} {id k : Nat} (h : c.κ id = some k) : c.cap id = k := by unfold Cx.cap; rw [h]; rfl
theorem ad_some {c : Cx} {id k : Nat} (h : c.κ id = some k) : c.ad id = some ⟨c.ρ id, 0, none⟩ := by unfold Cx.ad; rw [h]; rfl
theorem cap_none {c : Cx} {id : Nat} (h : c.κ id = none) : c.cap id = 0 := by unfold Cx.cap; rw [h]; rfl
theorem ad_none {c : Cx} {id : Nat} (h : c.κ id = none) : c.ad id = none := by unfold Cx.ad; rw [h]; rfl
theorem row_blk {e sz n fz k : Nat} {get : Nat → Nat → D} {o : Option Nat} (h : o = some k) : (Ob.row e sz n get fz).blk o = true := by subst h; rfl
/-- Blocks for deferred calls of rounds: the marks among the deferred calls of the frames. -/
def markOf (d : Deferred) : Option Nat := match d.target with | .collected r => some r | _ => none
def amarks (as : List Act) : List Nat := as.flatMap fun a => a.defers.filterMap markOf
structure MarksOk (B : Nat) (as : List Act) (w : World) : Prop where
  nodup : (amarks as).Nodup
  blk : ∀ r ∈ amarks as, B ≤ r ∧ w.heap[r]? = some (.deferred (some []))
/-- The blocks for deferred calls stay. -/
def Kd (w w' : World) : Prop := ∀ r : Nat, w.heap[r]? = some (.deferred (some [])) → w'.heap[r]? = some (.deferred (some []))
theorem MarksOk.mono {B : Nat} {as : List Act} {w w' : World} (h : MarksOk B as w) (hk : Kd w w') : MarksOk B as w' := ⟨h.nodup, fun r hr => ⟨(h.blk r hr).1, hk r (h.blk r hr).2⟩⟩
/-- What the program's own tables hold. -/
structure GlobOk (P : Program) (B : Nat) (w : World) : Prop where
  low : ∀ g, P.globalNamed "internal/strconv.uint64pow10" = some g → g < B
  pow10 : Lib.TabIs P w "internal/strconv.uint64pow10" .u64 Lib.pow10Tab
theorem GlobOk.below {P : Program} {B B' : Nat} {w w' : World} (h : GlobOk P B w) (hb : Below B w w') (hB : B ≤ B') : GlobOk P B' w' := by
  refine ⟨fun g hg => Nat.lt_of_lt_of_le (h.low g hg) hB, ?_⟩
  have h2 := h.pow10
  unfold Lib.TabIs World.var? at h2 ⊢
  obtain ⟨g, hg, h3⟩ := Option.bind_eq_some_iff.1 h2
  rw [hg]
  simp only [Option.bind_some]
  rw [hb.block g (h.low g hg)]
  exact h3
structure Rel (B : Nat) (I0 : Nat → Nat → Prop) (w0 : World) (c : Cx) (s : St) (a : Act) (as : List Act) (w : World) : Prop where
  below : Below B w0 w
  size : B ≤ w.heap.size
  obs : ∀ id ob, s.heap[id]? = some ob → ObRep B (imm B I0 c s.heap w) w s.heap c id ob
  inj : ∀ i j ob ob', s.heap[i]? = some ob → s.heap[j]? = some ob' → ob.blk (c.κ i) = true → ob'.blk (c.κ j) = true → c.ρ i = c.ρ j → i = j
  cur : FRep (imm B I0 c s.heap w) w s.heap c s.cur a.tmps
  rest : All2 (fun f a' => FRep (imm B I0 c s.heap w) w s.heap c f a'.tmps) s.rest as
  marks : MarksOk B (a :: as) w

end Go.Proofs.Vl
