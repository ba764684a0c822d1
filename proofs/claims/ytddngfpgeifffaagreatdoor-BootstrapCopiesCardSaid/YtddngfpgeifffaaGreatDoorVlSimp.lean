/- A part of the proof: Simp. -/
import Derived.Test.YtddngfpgeifffaaGreatDoorVlSpec
set_option linter.unusedVariables false
set_option linter.unusedSimpArgs false
/- A small logic of abstract values: how simp runs the evaluator. What is still to be computed stands as an argument of a word of its own ('optK', 'condK', ..); simp looks into that argument alone. -/
namespace Go.Proofs.Vl
open Go Go.RowKit

/-! ### words -/
/-- What every congruence looks at, too, so that simp takes it to have changed something, and looks at nothing else. -/
def tick : Nat := 0
@[simp] theorem tick_zero : tick = 0 := Nat.le_antisymm (Nat.le_of_eq (by unfold tick; decide)) (Nat.zero_le _)
def optK {α : Type} (o : Option α) (k : α → Prop) : Prop := match o with | some a => k a | none => False
@[congr] theorem optK_congr {α : Type} {o o' : Option α} {k : α → Prop} {tk : Nat} (htk : tick = tk) (h : o = o') : optK o k = optK o' k := h ▸ rfl
@[simp] theorem optK_some {α : Type} (a : α) (k : α → Prop) : optK (some a) k = k a := rfl
@[simp] theorem optK_none {α : Type} (k : α → Prop) : optK none k = False := rfl
/-- A value of a value. -/
def obK {α β : Type} (o : Option α) (k : α → Option β) : Option β := o.bind k
@[congr] theorem obK_congr {α β : Type} {o o' : Option α} {k : α → Option β} {tk : Nat} (htk : tick = tk) (h : o = o') : obK o k = obK o' k := h ▸ rfl
@[simp] theorem obK_some {α β : Type} (a : α) (k : α → Option β) : obK (some a) k = k a := rfl
@[simp] theorem obK_none {α β : Type} (k : α → Option β) : obK none k = none := rfl
def ckO {β : Type} (p : Prop) [Decidable p] (o : Option β) : Option β := if p then o else none
@[congr] theorem ckO_congr {β : Type} {p p' : Prop} [i : Decidable p] [i' : Decidable p'] {o : Option β} {tk : Nat} (htk : tick = tk) (h : p = p') : ckO p o = ckO p' o := by subst h; unfold ckO; by_cases hp : p <;> simp [hp]
@[simp] theorem ckO_true {β : Type} [i : Decidable True] (o : Option β) : ckO True o = o := by unfold ckO; simp
@[simp] theorem ckO_false {β : Type} [i : Decidable False] (o : Option β) : ckO False o = none := by unfold ckO; simp

/-- A test. -/
def ifK (p : Prop) [Decidable p] (A B : Prop) : Prop := if p then A else B
@[congr] theorem ifK_congr {p p' : Prop} [i : Decidable p] [i' : Decidable p'] {A B : Prop} {tk : Nat} (htk : tick = tk) (h : p = p') : ifK p A B = ifK p' A B := by subst h; unfold ifK; by_cases hp : p <;> simp [hp]
@[simp] theorem ifK_true [i : Decidable True] (A B : Prop) : ifK True A B = A := by unfold ifK; simp
@[simp] theorem ifK_false [i : Decidable False] (A B : Prop) : ifK False A B = B := by unfold ifK; simp
theorem ifK_yes {p : Prop} [Decidable p] {A B : Prop} (hp : p) (h : A) : ifK p A B := by unfold ifK; rw [if_pos hp]; exact h
theorem ifK_no {p : Prop} [Decidable p] {A B : Prop} (hp : ¬ p) (h : B) : ifK p A B := by unfold ifK; rw [if_neg hp]; exact h
theorem ifK_both {p : Prop} [Decidable p] {A B : Prop} (h1 : p → A) (h2 : ¬ p → B) : ifK p A B := by unfold ifK; split; exact h1 ‹_›; exact h2 ‹_›
def boolK (b : Bool) (A B : Prop) : Prop := if b = true then A else B
@[congr] theorem boolK_congr {b b' : Bool} {A B : Prop} {tk : Nat} (htk : tick = tk) (h : b = b') : boolK b A B = boolK b' A B := h ▸ rfl
theorem boolK_both {b : Bool} {A B : Prop} (h1 : b = true → A) (h2 : b = false → B) : boolK b A B := by cases b; exact h2 rfl; exact h1 rfl
@[simp] theorem boolK_true (A B : Prop) : boolK true A B = A := rfl
@[simp] theorem boolK_false (A B : Prop) : boolK false A B = B := rfl
def condK (v : V) (A B : Prop) : Prop := match v with | .c false [.d (.raw (.bool b))] => boolK b A B | _ => False
@[congr] theorem condK_congr {v v' : V} {A B : Prop} {tk : Nat} (htk : tick = tk) (h : v = v') : condK v A B = condK v' A B := h ▸ rfl
@[simp] theorem condK_bool (b : Bool) (A B : Prop) : condK (.c false [.d (.raw (.bool b))]) A B = boolK b A B := rfl
/-- What must hold. -/
def chk (p : Prop) [Decidable p] (A : Prop) : Prop := if p then A else False
@[congr] theorem chk_congr {p p' : Prop} [i : Decidable p] [i' : Decidable p'] {A : Prop} {tk : Nat} (htk : tick = tk) (h : p = p') : chk p A = chk p' A := by subst h; unfold chk; simp
@[simp] theorem chk_true [i : Decidable True] (A : Prop) : chk True A = A := by unfold chk; simp
@[simp] theorem chk_false [i : Decidable False] (A : Prop) : chk False A = False := by unfold chk; simp
theorem chk_intro {p : Prop} [Decidable p] {A : Prop} (hp : p) (h : A) : chk p A := by unfold chk; rw [if_pos hp]; exact h

section
variable {P : Program} {s s' : St}
@[congr] theorem awp_congr {cd : Code} {K : AX → St → Prop} {tk : Nat} (htk : tick = tk) (h : s = s') : awp P cd s K = awp P cd s' K := h ▸ rfl
@[congr] theorem evOps_congr {all l : List Oper} {k : St → Prop} {x : V → St → Prop} {tk : Nat} (htk : tick = tk) (h : s = s') : evOps P all l s k x = evOps P all l s' k x := h ▸ rfl
@[congr] theorem evOp_congr {o : Oper} {k x : V → St → Prop} {tk : Nat} (htk : tick = tk) (h : s = s') : evOp P o s k x = evOp P o s' k x := h ▸ rfl
@[congr] theorem thenK_congr {k : St → Prop} {K : AX → St → Prop} {a a' : AX} {tk : Nat} (htk : tick = tk) (h1 : a = a') (h : s = s') : thenK k K a s = thenK k K a' s' := h1 ▸ h ▸ rfl
@[congr] theorem blockK_congr {id : Nat} {K : AX → St → Prop} {a a' : AX} {tk : Nat} (htk : tick = tk) (h1 : a = a') (h : s = s') : blockK id K a s = blockK id K a' s' := h1 ▸ h ▸ rfl
@[congr] theorem retK_congr {fn : Func} {k x : V → St → Prop} {a a' : AX} {tk : Nat} (htk : tick = tk) (h1 : a = a') (h : s = s') : retK P fn k x a s = retK P fn k x a' s' := h1 ▸ h ▸ rfl
@[congr] theorem ALoop_congr {cd : Code} {K : AX → St → Prop} {tk : Nat} (htk : tick = tk) (h : s = s') : ALoop P cd s K = ALoop P cd s' K := h ▸ rfl
@[congr] theorem AOther_congr {cd : Code} {K : AX → St → Prop} {tk : Nat} (htk : tick = tk) (h : s = s') : AOther P cd s K = AOther P cd s' K := h ▸ rfl
@[congr] theorem ADraw_congr {id : Nat} {ops : Array Oper} {K : AX → St → Prop} {tk : Nat} (htk : tick = tk) (h : s = s') : ADraw P id ops s K = ADraw P id ops s' K := h ▸ rfl
@[congr] theorem ACall_congr {g : FuncId} {l l' : List (Bool × List At)} {k x : V → St → Prop} {tk : Nat} (htk : tick = tk) (h1 : l = l') (h : s = s') : ACall P g l s k x = ACall P g l' s' k x := h1 ▸ h ▸ rfl
@[congr] theorem evRes_congr {l l' : List ResultVar} {k : List (Bool × List At) → Prop} {tk : Nat} (htk : tick = tk) (h0 : l = l') (h : s = s') : evRes P s l k = evRes P s' l' k := h0 ▸ h ▸ rfl
@[congr] theorem popK_congr {k : St → Prop} {tk : Nat} (htk : tick = tk) (h : s = s') : popK s k = popK s' k := h ▸ rfl

/-! ### code -/
variable {K : AX → St → Prop}
@[simp] theorem awp_skip : awp P .skip s K = K .normal s := rfl
@[simp] theorem awp_region (id : Nat) (l : List Oper) : awp P (.region id ⟨l⟩ false) s K = evOps P l l s (fun s' => K .normal s') (fun v s' => K (.panic v) s') := by simp [awp]
@[simp] theorem awp_draw (id : Nat) (ops : Array Oper) : awp P (.region id ops true) s K = ADraw P id ops s K := by simp [awp]
@[simp] theorem awp_seq (x y : Code) : awp P (.seq x y) s K = awp P x s (thenK (fun s' => awp P y s' K) K) := rfl
@[simp] theorem awp_cond (cc : Operand) (x y : Code) : awp P (.cond cc x y) s K = condK (s.eval cc) (awp P x s K) (awp P y s K) := by
  show (match s.eval cc with | .c false [.d (.raw (.bool b))] => if b = true then awp P x s K else awp P y s K | _ => False) = _
  generalize s.eval cc = v
  unfold condK
  split <;> rfl
@[simp] theorem awp_block (id : Nat) (x : Code) : awp P (.block id x) s K = awp P x s (blockK id K) := rfl
@[simp] theorem awp_loop (x : Code) : awp P (.loop x) s K = ALoop P x s K := rfl
@[simp] theorem awp_exit (id : Nat) : awp P (.exit id) s K = K (.exit id) s := rfl
@[simp] theorem awp_ret : awp P .ret s K = K .ret s := rfl
@[simp] theorem thenK_normal (k : St → Prop) : thenK k K .normal s = k s := rfl
@[simp] theorem thenK_exit (k : St → Prop) (i : Nat) : thenK k K (.exit i) s = K (.exit i) s := rfl
@[simp] theorem thenK_ret (k : St → Prop) : thenK k K .ret s = K .ret s := rfl
@[simp] theorem thenK_panic (k : St → Prop) (v : V) : thenK k K (.panic v) s = K (.panic v) s := rfl
@[simp] theorem blockK_normal (id : Nat) : blockK id K .normal s = K .normal s := rfl
@[simp] theorem blockK_same (id : Nat) : blockK id K (.exit id) s = K .normal s := by simp [blockK]
theorem blockK_other (id i : Nat) (h : i ≠ id) : blockK id K (.exit i) s = K (.exit i) s := by simp [blockK, h]
@[simp] theorem blockK_exit (id i : Nat) : blockK id K (.exit i) s = boolK (Nat.beq i id) (K .normal s) (K (.exit i) s) := by
  unfold blockK boolK
  by_cases h : i = id
  · subst h; simp
  · have : Nat.beq i id = false := by
      cases hb : Nat.beq i id
      · rfl
      · exact absurd (Nat.eq_of_beq_eq_true hb) h
    simp [h, this]
@[simp] theorem blockK_ret (id : Nat) : blockK id K .ret s = K .ret s := rfl
@[simp] theorem blockK_panic (id : Nat) (v : V) : blockK id K (.panic v) s = K (.panic v) s := rfl

/-! ### operations -/
variable {k x : V → St → Prop} {all rest : List Oper} {k0 : St → Prop} {d : Option Tmp} {ty0 : TypeId} {p : String} {af : Array Edge} {g : Option (Nat × Bool)}
@[simp] theorem evOps_nil : evOps P all [] s k0 x = k0 s := rfl
@[simp] theorem evOps_cons (op : Op) : evOps P all (⟨d, op, ty0, p, af, none⟩ :: rest) s k0 x = evOp P ⟨d, op, ty0, p, af, none⟩ s (fun v s' => evOps P all rest (s'.set d v) k0 x) x := rfl
def guardK (b want : Bool) (A B : Prop) : Prop := if b = want then A else B
@[congr] theorem guardK_congr {b b' want : Bool} {A B : Prop} {tk : Nat} (htk : tick = tk) (h : b = b') : guardK b want A B = guardK b' want A B := h ▸ rfl
@[simp] theorem guardK_true (b : Bool) (A B : Prop) : guardK b true A B = boolK b A B := rfl
@[simp] theorem guardK_false (b : Bool) (A B : Prop) : guardK b false A B = boolK b B A := by cases b <;> rfl
@[simp] theorem evOps_guard (op : Op) (j : Nat) (want : Bool) : evOps P all (⟨d, op, ty0, p, af, some (j, want)⟩ :: rest) s k0 x =
    optK (gval all s j) fun b => guardK b want (evOp P ⟨d, op, ty0, p, af, some (j, want)⟩ s (fun v s' => evOps P all rest (s'.set d v) k0 x) x) (evOps P all rest (s.set d .unk) k0 x) := by
  rw [evOps]; simp only; unfold optK; split <;> simp_all [guardK]
def gdst (all : List Oper) (j : Nat) : Option Nat := (all[j]?).bind (·.dst)
@[simp] theorem gdst_zero (o : Oper) (l : List Oper) : gdst (o :: l) 0 = o.dst := rfl
@[simp] theorem gdst_succ (o : Oper) (l : List Oper) (j : Nat) : gdst (o :: l) (j + 1) = gdst l j := rfl
def boolOf (v : V) : Option Bool := match v with | .c false [.d (.raw (.bool b))] => some b | _ => none
@[simp] theorem boolOf_bool (b : Bool) : boolOf (.c false [.d (.raw (.bool b))]) = some b := rfl
theorem gval_eq (j : Nat) : gval all s j = match gdst all j with | some t => boolOf (s.cur.get t) | none => none := by
  unfold gval gdst boolOf; rfl
@[simp] theorem gval_of (j : Nat) : gval all s j = obK (gdst all j) fun t => boolOf (s.cur.get t) := by
  rw [gval_eq]; cases gdst all j <;> rfl

@[simp] theorem evOp_move (y : Operand) : evOp P ⟨d, .move y, ty0, p, af, g⟩ s k x = k (s.eval y) s := rfl
@[simp] theorem evOp_assign (y : Operand) : evOp P ⟨d, .assign y, ty0, p, af, g⟩ s k x = k (s.eval y) s := rfl
@[simp] theorem evOp_pick (cc y z : Operand) : evOp P ⟨d, .pick cc y z, ty0, p, af, g⟩ s k x = condK (s.eval cc) (k (s.eval y) s) (k (s.eval z) s) := by
  unfold evOp condK; simp only; split <;> simp_all [boolK]

@[simp] theorem evOp_alloc (t : TypeId) : evOp P ⟨d, .alloc t, ty0, p, af, g⟩ s k x = optK (zc P t) fun l => k (.a (.ref s.heap.length 0)) { s with heap := s.heap ++ [.cells t (l.map At.raw)] } := by
  show (match zc P t with | some l => _ | none => False) = _
  cases zc P t <;> rfl
def cellsK (v : V) (k : Bool → List At → Prop) : Prop := match v with | .c g xs => k g xs | _ => False
@[congr] theorem cellsK_congr {v v' : V} {k : Bool → List At → Prop} {tk : Nat} (htk : tick = tk) (h : v = v') : cellsK v k = cellsK v' k := h ▸ rfl
@[simp] theorem cellsK_c (g : Bool) (xs : List At) (k : Bool → List At → Prop) : cellsK (.c g xs) k = k g xs := rfl
@[simp] theorem evOp_box (t : TypeId) (y : Operand) : evOp P ⟨d, .box t y, ty0, p, af, g⟩ s k x = cellsK (s.eval y) fun _ xs => chk (xs.all At.known = true) (k (.a (.ref s.heap.length 0)) { s with heap := s.heap ++ [.cells t xs] }) := by
  show (match s.eval y with | .c _ xs => _ | _ => False) = _
  cases s.eval y <;> rfl

/-! load -/
@[simp] theorem evOp_load (t : TypeId) (y : Operand) : evOp P ⟨d, .load t y, ty0, p, af, g⟩ s k x = evLoad P t (s.eval y) s fun v => k v s := rfl
@[congr] theorem evLoad_congr {t : TypeId} {p p' : V} {k : V → Prop} {tk : Nat} (htk : tick = tk) (h1 : p = p') (h : s = s') : evLoad P t p s k = evLoad P t p' s' k := h1 ▸ h ▸ rfl
def obCells (ob : Ob) (k : TypeId → List At → Prop) : Prop := match ob with | .cells e xs => k e xs | _ => False
@[congr] theorem obCells_congr {v v' : Ob} {k : TypeId → List At → Prop} {tk : Nat} (htk : tick = tk) (h : v = v') : obCells v k = obCells v' k := h ▸ rfl
@[simp] theorem obCells_c (e : TypeId) (xs : List At) (k : TypeId → List At → Prop) : obCells (.cells e xs) k = k e xs := rfl
def obRow (ob : Ob) (k : Nat → Nat → Nat → (Nat → Nat → D) → Nat → Prop) : Prop := match ob with | .row e sz n get fz => k e sz n get fz | _ => False
@[congr] theorem obRow_congr {v v' : Ob} {k : Nat → Nat → Nat → (Nat → Nat → D) → Nat → Prop} {tk : Nat} (htk : tick = tk) (h : v = v') : obRow v k = obRow v' k := h ▸ rfl
@[simp] theorem obRow_c (e sz n : Nat) (get : Nat → Nat → D) (fz : Nat) (k : Nat → Nat → Nat → (Nat → Nat → D) → Nat → Prop) : obRow (.row e sz n get fz) k = k e sz n get fz := rfl
@[simp] theorem evLoad_ref (t : TypeId) (id off : Nat) (k : V → Prop) : evLoad P t (.c false [.ref id off]) s k = optK (ty P t) fun q => optK (s.heap[id]?) fun ob => obCells ob fun e xs =>
    boolK q.1 (chk (off + q.2 ≤ xs.length) (k (.c true ((xs.drop off).take q.2)))) (optK (xs[off]?) fun x => k (.c false [x])) := by
  unfold evLoad
  cases ty P t with
  | none => rfl
  | some q =>
    obtain ⟨g, n⟩ := q
    simp only [optK_some]
    cases s.heap[id]? with
    | none => rfl
    | some ob =>
      cases ob with
      | cells e xs => cases g with
        | true => rfl
        | false => simp only [optK_some, obCells_c, boolK_false]; cases xs[off]? <;> rfl
      | _ => rfl
@[simp] theorem evLoad_fel (t : TypeId) (m : Nat) (get : Nat → D) (k : V → Prop) : evLoad P t (.c false [.fel m get]) s k = optK (ty P t) fun q => chk (q.2 ≤ m ∧ (q.1 = false → q.2 = 1)) (k (.c q.1 (mk get 0 q.2))) := by
  unfold evLoad
  cases ty P t with
  | none => rfl
  | some q => rfl
@[simp] theorem evLoad_el (t : TypeId) (id sz i j : Nat) (k : V → Prop) : evLoad P t (.c false [.el id sz i j]) s k = optK (ty P t) fun q => optK (s.heap[id]?) fun ob => obRow ob fun _ sz' len get _ =>
    chk (sz' = sz ∧ i < len ∧ j + q.2 ≤ sz ∧ (q.1 = false → q.2 = 1)) (k (.c q.1 (mk (get i) j q.2))) := by
  unfold evLoad
  cases ty P t with
  | none => rfl
  | some q =>
    obtain ⟨g, n⟩ := q
    simp only [optK_some]
    cases s.heap[id]? with
    | none => rfl
    | some ob => cases ob <;> rfl
/-! store -/
@[simp] theorem evOp_store (t : TypeId) (y z : Operand) : evOp P ⟨d, .store t y z, ty0, p, af, g⟩ s k x = evStore P t (s.eval y) (s.eval z) s fun s' => k .unk s' := rfl
@[congr] theorem evStore_congr {t : TypeId} {p p' v v' : V} {k : St → Prop} {tk : Nat} (htk : tick = tk) (h1 : p = p') (h2 : v = v') (h : s = s') : evStore P t p v s k = evStore P t p' v' s' k := h1 ▸ h2 ▸ h ▸ rfl
@[simp] theorem evStore_ref (t : TypeId) (id off : Nat) (g : Bool) (ys : List At) (k : St → Prop) : evStore P t (.c false [.ref id off]) (.c g ys) s k = optK (ty P t) fun q => optK (s.heap[id]?) fun ob => obCells ob fun e xs =>
    chk (ys.length = q.2 ∧ off + q.2 ≤ xs.length ∧ ys.all At.known = true) (k { s with heap := s.heap.set id (.cells e (putList xs off ys)) }) := by
  unfold evStore
  cases ty P t with
  | none => rfl
  | some q =>
    obtain ⟨g, n⟩ := q
    simp only [optK_some]
    cases s.heap[id]? with
    | none => rfl
    | some ob => cases ob <;> rfl
@[simp] theorem evStore_el (t : TypeId) (id sz i j : Nat) (g : Bool) (ys : List At) (k : St → Prop) : evStore P t (.c false [.el id sz i j]) (.c g ys) s k = optK (ty P t) fun q => optK (s.heap[id]?) fun ob => obRow ob fun e sz' len get fz =>
    chk (ys.length = q.2 ∧ sz' = sz ∧ i < len ∧ fz ≤ i ∧ j + q.2 ≤ sz ∧ ys.all At.isD = true) (k { s with heap := s.heap.set id (.row e sz len (updRow get i j (ys.map At.toD)) fz) }) := by
  unfold evStore
  cases ty P t with
  | none => rfl
  | some q =>
    obtain ⟨g, n⟩ := q
    simp only [optK_some]
    cases s.heap[id]? with
    | none => rfl
    | some ob => cases ob <;> rfl
/-! nilCheck -/
def nilK (v : V) (k : V → Prop) : Prop := match v with
  | .c false [.ref id off] => k (.a (.ref id off))
  | .c false [.el id sz i j] => k (.a (.el id sz i j))
  | .c false [.fel m get] => k (.a (.fel m get))
  | _ => False
@[congr] theorem nilK_congr {v v' : V} {k : V → Prop} {tk : Nat} (htk : tick = tk) (h : v = v') : nilK v k = nilK v' k := h ▸ rfl
@[simp] theorem nilK_ref (id off : Nat) (k : V → Prop) : nilK (.c false [.ref id off]) k = k (.c false [.ref id off]) := rfl
@[simp] theorem nilK_el (id sz i j : Nat) (k : V → Prop) : nilK (.c false [.el id sz i j]) k = k (.c false [.el id sz i j]) := rfl
@[simp] theorem nilK_fel (m : Nat) (get : Nat → D) (k : V → Prop) : nilK (.c false [.fel m get]) k = k (.c false [.fel m get]) := rfl
@[simp] theorem evOp_nilCheck (y : Operand) : evOp P ⟨d, .nilCheck y, ty0, p, af, g⟩ s k x = nilK (s.eval y) fun v => k v s := by
  show (match s.eval y with | .c false [.ref id off] => _ | .c false [.el id sz i j] => _ | .c false [.fel m get] => _ | _ => False) = _
  unfold nilK
  split <;> rfl
/-! binary operations -/
@[simp] theorem isLit_const (v : Value) : isLit (.const v) = true := rfl
@[simp] theorem isLit_tmp (t : Tmp) : isLit (.tmp t) = false := rfl
@[simp] theorem evOp_binOp (op : BinOp) (t t' : TypeId) (y z : Operand) : evOp P ⟨d, .binOp op t y z t', ty0, p, af, g⟩ s k x = evEqX P op t (isLit z) (s.eval y) (s.eval z) (fun v => k v s) (evCmp P op t (s.eval y) (s.eval z) (fun v => k v s) (fun v => x v s)) := rfl
@[congr] theorem evEqX_congr {op : BinOp} {t : TypeId} {l l' : Bool} {p p' v v' : V} {k : V → Prop} {els : Prop} {tk : Nat} (htk : tick = tk) (h0 : l = l') (h1 : p = p') (h2 : v = v') : evEqX P op t l p v k els = evEqX P op t l' p' v' k els := h0 ▸ h1 ▸ h2 ▸ rfl
section
variable {op : BinOp} {t : TypeId} {l : Bool} {k : V → Prop} {els : Prop}
def eqResK (op : BinOp) (b : Bool) (k : V → Prop) : Prop := eqRes op b k
@[congr] theorem eqResK_congr {b b' : Bool} {tk : Nat} (htk : tick = tk) (h : b = b') : eqResK op b k = eqResK op b' k := h ▸ rfl
@[simp] theorem eqResK_eql (b : Bool) : eqResK .eql b k = k (.c false [.d (.raw (.bool b))]) := rfl
@[simp] theorem eqResK_neq (b : Bool) : eqResK .neq b k = k (.c false [.d (.raw (.bool !b))]) := rfl
@[simp] theorem evEqX_int (κ κ' : IntKind) (n m : Int) : evEqX P op t l (.c false [.d (.raw (.int κ n))]) (.c false [.d (.raw (.int κ' m))]) k els = els := rfl
@[simp] theorem evEqX_str (a b : ByteArray) : evEqX P op t l (.c false [.d (.raw (.string a))]) (.c false [.d (.raw (.string b))]) k els = els := rfl
@[simp] theorem evEqX_ptr (v : V) (a : Option Addr) : evEqX P op t l v (.c false [.d (.raw (.pointer a))]) k els = els := by
  unfold evEqX; split <;> first | rfl | (rename_i h; cases h)
@[simp] theorem evEqX_ref (v : V) (id off : Nat) : evEqX P op t l v (.c false [.ref id off]) k els = els := by
  unfold evEqX; split <;> first | rfl | (rename_i h; cases h)
@[simp] theorem evEqX_nil : evEqX P op t l (.c false [.d (.raw .nilIface)]) (.c false [.d (.raw .nilIface)]) k els = chk (l = true ∧ isIface P t = true) (eqResK op true k) := rfl
@[simp] theorem evEqX_bool (a b : Bool) : evEqX P op t l (.c false [.d (.raw (.bool a))]) (.c false [.d (.raw (.bool b))]) k els = chk (isBoolT P t = true) (eqResK op (a == b) k) := rfl
@[simp] theorem evEqX_agg (xs ys : List At) : evEqX P op t l (.c true xs) (.c true ys) k els = optK (eqKinds P t) fun q => optK (eqVals q xs ys) fun b => eqResK op b k := by
  unfold evEqX optK
  cases eqKinds P t with
  | none => rfl
  | some q => simp only; cases eqVals q xs ys <;> rfl
def bool2 (b : Bool) (o : Option Bool) : Option Bool := o.map fun r => b && r
@[simp] theorem bool2_some (b r : Bool) : bool2 b (some r) = some (b && r) := rfl
@[simp] theorem eqVals_nil (xs ys : List At) : eqVals [] xs ys = some true := rfl
def eqV1 (st : Bool) (x y : At) (r : Bool) : Option Bool := match x, y with
  | .d (.raw (.int k a)), .d (.raw (.int k' b)) => if k = k' ∧ st = false then some ((a == b) && r) else none
  | .d (.raw (.string a)), .d (.raw (.string b)) => if st = true then some ((a.data.toList == b.data.toList) && r) else none
  | _, _ => none
@[congr] theorem eqV1_congr {st : Bool} {x x' y y' : At} {r r' : Bool} {tk : Nat} (htk : tick = tk) (h1 : x = x') (h2 : y = y') (h3 : r = r') : eqV1 st x y r = eqV1 st x' y' r' := h1 ▸ h2 ▸ h3 ▸ rfl
@[simp] theorem eqV1_int (κ : IntKind) (a b : Int) (r : Bool) : eqV1 false (.d (.raw (.int κ a))) (.d (.raw (.int κ b))) r = some ((a == b) && r) := by simp [eqV1]
@[simp] theorem eqV1_str (a b : ByteArray) (r : Bool) : eqV1 true (.d (.raw (.string a))) (.d (.raw (.string b))) r = some ((a.data.toList == b.data.toList) && r) := rfl
@[simp] theorem eqVals_cons (off : Nat) (st : Bool) (q : List (Nat × Bool)) (xs ys : List At) : eqVals ((off, st) :: q) xs ys = obK (xs[off]?) fun x => obK (ys[off]?) fun y => obK (eqVals q xs ys) fun r => eqV1 st x y r := by
  show (match xs[off]?, ys[off]?, eqVals q xs ys with
    | some (.d (.raw (.int k a))), some (.d (.raw (.int k' b))), some r => if k = k' ∧ st = false then some ((a == b) && r) else none
    | some (.d (.raw (.string a))), some (.d (.raw (.string b))), some r => if st = true then some ((a.data.toList == b.data.toList) && r) else none
    | _, _, _ => none) = _
  generalize xs[off]? = o1
  generalize ys[off]? = o2
  generalize eqVals q xs ys = o3
  cases o1 with
  | none => rfl
  | some x =>
    cases o2 with
    | none => simp only [obK_some, obK_none]
    | some y =>
      cases o3 with
      | none => simp only [obK_some, obK_none]
      | some r =>
        simp only [obK_some]
        cases x with
        | d dx =>
          cases dx with
          | raw vx =>
            cases vx <;> first
              | rfl
              | (cases y with
                 | d dy =>
                   cases dy with
                   | raw vy => cases vy <;> rfl
                   | sl => rfl
                 | _ => rfl)
          | sl => rfl
        | _ => rfl
end
@[congr] theorem evCmp_congr {op : BinOp} {t : TypeId} {p p' v v' : V} {k x : V → Prop} {tk : Nat} (htk : tick = tk) (h1 : p = p') (h2 : v = v') : evCmp P op t p v k x = evCmp P op t p' v' k x := h1 ▸ h2 ▸ rfl
@[simp] theorem evCmp_int (op : BinOp) (t : TypeId) (κ κ' : IntKind) (n m : Int) (k x : V → Prop) : evCmp P op t (.c false [.d (.raw (.int κ n))]) (.c false [.d (.raw (.int κ' m))]) k x = evBin op (.c false [.d (.raw (.int κ n))]) (.c false [.d (.raw (.int κ' m))]) k x := by cases op <;> rfl
@[simp] theorem evCmp_str (op : BinOp) (t : TypeId) (a b : ByteArray) (k x : V → Prop) : evCmp P op t (.c false [.d (.raw (.string a))]) (.c false [.d (.raw (.string b))]) k x = evBin op (.c false [.d (.raw (.string a))]) (.c false [.d (.raw (.string b))]) k x := by cases op <;> rfl
@[simp] theorem evCmp_nn (t : TypeId) (k x : V → Prop) : evCmp P .eql t (.c false [.d (.raw (.pointer none))]) (.c false [.d (.raw (.pointer none))]) k x = boolK (isPtr P t) (k (.c false [.d (.raw (.bool true))])) False := rfl
@[simp] theorem evCmp_nn' (t : TypeId) (k x : V → Prop) : evCmp P .neq t (.c false [.d (.raw (.pointer none))]) (.c false [.d (.raw (.pointer none))]) k x = boolK (isPtr P t) (k (.c false [.d (.raw (.bool false))])) False := rfl
@[simp] theorem evCmp_rn (t id o : Nat) (k x : V → Prop) : evCmp P .eql t (.c false [.ref id o]) (.c false [.d (.raw (.pointer none))]) k x = boolK (isPtr P t) (k (.c false [.d (.raw (.bool false))])) False := rfl
@[simp] theorem evCmp_rn' (t id o : Nat) (k x : V → Prop) : evCmp P .neq t (.c false [.ref id o]) (.c false [.d (.raw (.pointer none))]) k x = boolK (isPtr P t) (k (.c false [.d (.raw (.bool true))])) False := rfl
@[simp] theorem evCmp_rr (t id o id' o' : Nat) (k x : V → Prop) : evCmp P .eql t (.c false [.ref id o]) (.c false [.ref id' o']) k x = chk (id = id' ∧ o = o' ∧ isPtr P t = true) (k (.c false [.d (.raw (.bool true))])) := rfl
@[simp] theorem evCmp_rr' (t id o id' o' : Nat) (k x : V → Prop) : evCmp P .neq t (.c false [.ref id o]) (.c false [.ref id' o']) k x = chk (id = id' ∧ o = o' ∧ isPtr P t = true) (k (.c false [.d (.raw (.bool false))])) := rfl
@[congr] theorem evBin_congr {op : BinOp} {p p' v v' : V} {k x : V → Prop} {tk : Nat} (htk : tick = tk) (h1 : p = p') (h2 : v = v') : evBin op p v k x = evBin op p' v' k x := h1 ▸ h2 ▸ rfl
section
variable {κ κ' : IntKind} {n m : Int} {k x : V → Prop} {a b : ByteArray}
@[simp] theorem evBin_add : evBin .add (.c false [.d (.raw (.int κ n))]) (.c false [.d (.raw (.int κ m))]) k x = k (.c false [.d (.raw (.int κ (κ.wrap (n + m))))]) := by simp [evBin, binV, V.raw]
@[simp] theorem evBin_sub : evBin .sub (.c false [.d (.raw (.int κ n))]) (.c false [.d (.raw (.int κ m))]) k x = k (.c false [.d (.raw (.int κ (κ.wrap (n - m))))]) := by simp [evBin, binV, V.raw]
@[simp] theorem evBin_mul : evBin .mul (.c false [.d (.raw (.int κ n))]) (.c false [.d (.raw (.int κ m))]) k x = k (.c false [.d (.raw (.int κ (κ.wrap (n * m))))]) := by simp [evBin, binV, V.raw]
@[simp] theorem evBin_quo : evBin .quo (.c false [.d (.raw (.int κ n))]) (.c false [.d (.raw (.int κ m))]) k x = ifK (m = 0) (x (.c false [.unk])) (k (.c false [.d (.raw (.int κ (κ.wrap (n.tdiv m))))])) := by simp [evBin, V.raw, V.unk, ifK]
@[simp] theorem evBin_rem : evBin .rem (.c false [.d (.raw (.int κ n))]) (.c false [.d (.raw (.int κ m))]) k x = ifK (m = 0) (x (.c false [.unk])) (k (.c false [.d (.raw (.int κ (n.tmod m)))])) := by simp [evBin, V.raw, V.unk, ifK]
@[simp] theorem evBin_shl (h : 0 ≤ m) : evBin .shl (.c false [.d (.raw (.int κ n))]) (.c false [.d (.raw (.int κ' m))]) k x = k (.c false [.d (.raw (.int κ (κ.wrap (n * 2 ^ (min m.toNat κ.bits)))))]) := by simp [evBin, binV, V.raw, show ¬ m < 0 by omega]
@[simp] theorem evBin_shr (h : 0 ≤ m) : evBin .shr (.c false [.d (.raw (.int κ n))]) (.c false [.d (.raw (.int κ' m))]) k x = k (.c false [.d (.raw (.int κ (n.fdiv (2 ^ (min m.toNat κ.bits)))))]) := by simp [evBin, binV, V.raw, show ¬ m < 0 by omega]
def bAnd (κ : IntKind) (n m : Int) : Int := κ.wrap (BitVec.ofInt κ.bits n &&& BitVec.ofInt κ.bits m).toNat
def bOr (κ : IntKind) (n m : Int) : Int := κ.wrap (BitVec.ofInt κ.bits n ||| BitVec.ofInt κ.bits m).toNat
def bXor (κ : IntKind) (n m : Int) : Int := κ.wrap (BitVec.ofInt κ.bits n ^^^ BitVec.ofInt κ.bits m).toNat
def bAndNot (κ : IntKind) (n m : Int) : Int := κ.wrap (BitVec.ofInt κ.bits n &&& ~~~BitVec.ofInt κ.bits m).toNat
@[simp] theorem evBin_and : evBin .and (.c false [.d (.raw (.int κ n))]) (.c false [.d (.raw (.int κ m))]) k x = k (.c false [.d (.raw (.int κ (bAnd κ n m)))]) := by unfold evBin binV; simp only [if_true]; rfl
@[simp] theorem evBin_or : evBin .or (.c false [.d (.raw (.int κ n))]) (.c false [.d (.raw (.int κ m))]) k x = k (.c false [.d (.raw (.int κ (bOr κ n m)))]) := by unfold evBin binV; simp only [if_true]; rfl
@[simp] theorem evBin_xor : evBin .xor (.c false [.d (.raw (.int κ n))]) (.c false [.d (.raw (.int κ m))]) k x = k (.c false [.d (.raw (.int κ (bXor κ n m)))]) := by unfold evBin binV; simp only [if_true]; rfl
@[simp] theorem evBin_andNot : evBin .andNot (.c false [.d (.raw (.int κ n))]) (.c false [.d (.raw (.int κ m))]) k x = k (.c false [.d (.raw (.int κ (bAndNot κ n m)))]) := by unfold evBin binV; simp only [if_true]; rfl
@[simp] theorem evBin_eql : evBin .eql (.c false [.d (.raw (.int κ n))]) (.c false [.d (.raw (.int κ m))]) k x = k (.c false [.d (.raw (.bool (n == m)))]) := by simp [evBin, binV, V.raw]
@[simp] theorem evBin_neq : evBin .neq (.c false [.d (.raw (.int κ n))]) (.c false [.d (.raw (.int κ m))]) k x = k (.c false [.d (.raw (.bool (n != m)))]) := by simp [evBin, binV, V.raw]
@[simp] theorem evBin_lss : evBin .lss (.c false [.d (.raw (.int κ n))]) (.c false [.d (.raw (.int κ m))]) k x = k (.c false [.d (.raw (.bool (decide (n < m))))]) := by simp [evBin, binV, V.raw]
@[simp] theorem evBin_leq : evBin .leq (.c false [.d (.raw (.int κ n))]) (.c false [.d (.raw (.int κ m))]) k x = k (.c false [.d (.raw (.bool (decide (n ≤ m))))]) := by simp [evBin, binV, V.raw]
@[simp] theorem evBin_gtr : evBin .gtr (.c false [.d (.raw (.int κ n))]) (.c false [.d (.raw (.int κ m))]) k x = k (.c false [.d (.raw (.bool (decide (n > m))))]) := by simp [evBin, binV, V.raw]
@[simp] theorem evBin_geq : evBin .geq (.c false [.d (.raw (.int κ n))]) (.c false [.d (.raw (.int κ m))]) k x = k (.c false [.d (.raw (.bool (decide (n ≥ m))))]) := by simp [evBin, binV, V.raw]
@[simp] theorem evBin_sadd (l m : List UInt8) : evBin .add (.c false [.d (.raw (.string ⟨⟨l⟩⟩))]) (.c false [.d (.raw (.string ⟨⟨m⟩⟩))]) k x = chk (l.length + m.length ≤ 9223372036854775807) (k (.c false [.d (.raw (.string ⟨⟨l ++ m⟩⟩))])) := by
  unfold evBin chk V.raw
  simp only
  have e : (⟨⟨l⟩⟩ : ByteArray) ++ ⟨⟨m⟩⟩ = ⟨⟨l ++ m⟩⟩ := ByteArray.mk_append_mk l m
  rw [e]; rfl
@[simp] theorem evBin_seql (l m : List UInt8) : evBin .eql (.c false [.d (.raw (.string ⟨⟨l⟩⟩))]) (.c false [.d (.raw (.string ⟨⟨m⟩⟩))]) k x = k (.c false [.d (.raw (.bool (l == m)))]) := by
  have e : ∀ l : List UInt8, (⟨⟨l⟩⟩ : ByteArray).toList = l := fun l => ByteArray.toList_mk l
  simp only [evBin, binV, V.raw, e]
@[simp] theorem evBin_sneq (l m : List UInt8) : evBin .neq (.c false [.d (.raw (.string ⟨⟨l⟩⟩))]) (.c false [.d (.raw (.string ⟨⟨m⟩⟩))]) k x = k (.c false [.d (.raw (.bool (l != m)))]) := by
  have e : ∀ l : List UInt8, (⟨⟨l⟩⟩ : ByteArray).toList = l := fun l => ByteArray.toList_mk l
  simp only [evBin, binV, V.raw, e]; rfl
end

/-! the rest -/
section
variable {s s' : St} {k x : V → St → Prop}
@[simp] theorem evOp_not (t : TypeId) (y : Operand) : evOp P ⟨d, .unOp .not t y, ty0, p, af, g⟩ s k x = optK (boolOf (s.eval y)) fun b => k (.c false [.d (.raw (.bool !b))]) s := by
  show (match s.eval y with | .c false [.d (.raw (.bool b))] => k (.raw (.bool !b)) s | _ => False) = _
  unfold boolOf
  split <;> rfl
def tupK (v : V) (k : List (Bool × List At) → Prop) : Prop := match v with | .tup ys => k ys | _ => False
@[congr] theorem tupK_congr {v v' : V} {k : List (Bool × List At) → Prop} {tk : Nat} (htk : tick = tk) (h : v = v') : tupK v k = tupK v' k := h ▸ rfl
@[simp] theorem tupK_t (ys : List (Bool × List At)) (k : List (Bool × List At) → Prop) : tupK (.tup ys) k = k ys := rfl
@[simp] theorem evOp_extract (y : Operand) (i : Nat) : evOp P ⟨d, .extract y i, ty0, p, af, g⟩ s k x = tupK (s.eval y) fun ys => optK (ys[i]?) fun q => k (.c q.1 q.2) s := by
  show (match s.eval y with | .tup ys => (match ys[i]? with | some q => k (.c q.1 q.2) s | none => False) | _ => False) = _
  cases s.eval y with
  | c => rfl
  | tup ys => simp only [tupK_t]; cases ys[i]? <;> rfl
@[simp] theorem evOp_fieldAddr (t f : Nat) (y : Operand) : evOp P ⟨d, .fieldAddr t y f, ty0, p, af, g⟩ s k x = evFieldAddr P t f (s.eval y) s fun v => k v s := rfl
@[congr] theorem evFieldAddr_congr {t f : Nat} {p p' : V} {k : V → Prop} {tk : Nat} (htk : tick = tk) (h1 : p = p') (h : s = s') : evFieldAddr P t f p s k = evFieldAddr P t f p' s' k := h1 ▸ h ▸ rfl
@[simp] theorem evFieldAddr_ref (t f id o : Nat) (k : V → Prop) : evFieldAddr P t f (.c false [.ref id o]) s k = optK (fieldOff P t f) fun off => k (.c false [.ref id (o + off)]) := by
  unfold evFieldAddr; cases fieldOff P t f <;> rfl
@[simp] theorem evFieldAddr_el (t f id sz i j : Nat) (k : V → Prop) : evFieldAddr P t f (.c false [.el id sz i j]) s k = optK (fieldOff P t f) fun off => k (.c false [.el id sz i (j + off)]) := by
  unfold evFieldAddr; cases fieldOff P t f <;> rfl
@[simp] theorem evFieldAddr_fel (t f m : Nat) (get : Nat → D) (k : V → Prop) : evFieldAddr P t f (.c false [.fel m get]) s k = optK (fieldOff P t f) fun off => k (.c false [.fel (m - off) fun j => get (off + j)]) := by
  unfold evFieldAddr; cases fieldOff P t f <;> rfl
@[simp] theorem evOp_field (t f : Nat) (y : Operand) : evOp P ⟨d, .field t y f, ty0, p, af, g⟩ s k x = evField P t f (s.eval y) fun v => k v s := rfl
@[congr] theorem evField_congr {t f : Nat} {p p' : V} {k : V → Prop} {tk : Nat} (htk : tick = tk) (h1 : p = p') : evField P t f p k = evField P t f p' k := h1 ▸ rfl
@[simp] theorem evField_agg (t f : Nat) (xs : List At) (k : V → Prop) : evField P t f (.c true xs) k = optK (fieldPart P t f) fun q => chk (q.2.2 + q.2.1 ≤ xs.length) (boolK q.1 (k (.c true ((xs.drop q.2.2).take q.2.1))) (optK (xs[q.2.2]?) fun x => k (.c false [x]))) := by
  unfold evField
  cases fieldPart P t f with
  | none => rfl
  | some q =>
    obtain ⟨g, n, off⟩ := q
    simp only [optK_some]
    cases g with
    | true => rfl
    | false => simp only [boolK_false]; cases xs[off]? <;> rfl
@[simp] theorem evOp_indexAddr (t : Nat) (y z : Operand) : evOp P ⟨d, .indexAddr t y z, ty0, p, af, g⟩ s k x = evIndexAddr P t (s.eval y) (s.eval z) s (fun v => k v s) (fun v => x v s) := rfl
@[congr] theorem evIndexAddr_congr {t : Nat} {p p' i i' : V} {k x : V → Prop} {tk : Nat} (htk : tick = tk) (h1 : p = p') (h2 : i = i') (h : s = s') : evIndexAddr P t p i s k x = evIndexAddr P t p' i' s' k x := h1 ▸ h2 ▸ h ▸ rfl
@[simp] theorem evIndexAddr_sl (t n sz : Nat) (get : Nat → Nat → D) (κ : IntKind) (q : Int) (k x : V → Prop) : evIndexAddr P t (.c false [.d (.sl n sz get)]) (.c false [.d (.raw (.int κ q))]) s k x =
    optK (rowInfo P t) fun r => chk (r.2.1 = sz) (ifK (0 ≤ q ∧ q < n) (k (.c false [.fel sz (get q.toNat)])) (x (.c false [.unk]))) := by
  unfold evIndexAddr; cases rowInfo P t <;> rfl
@[simp] theorem evIndexAddr_row (t id n : Nat) (κ : IntKind) (q : Int) (k x : V → Prop) : evIndexAddr P t (.c false [.row id n]) (.c false [.d (.raw (.int κ q))]) s k x =
    optK (rowInfo P t) fun r => ifK (0 ≤ q ∧ q < n) (k (.c false [.el id r.2.1 q.toNat 0])) (x (.c false [.unk])) := by
  unfold evIndexAddr; cases rowInfo P t <;> rfl
@[simp] theorem evIndexAddr_nil (t : Nat) (κ : IntKind) (q : Int) (k x : V → Prop) : evIndexAddr P t (.c false [.d (.raw (.slice none 0 0))]) (.c false [.d (.raw (.int κ q))]) s k x = optK (rowInfo P t) fun _ => x (.c false [.unk]) := by
  unfold evIndexAddr; cases rowInfo P t <;> rfl
@[simp] theorem evIndexAddr_ref (t id off : Nat) (κ : IntKind) (q : Int) (k x : V → Prop) : evIndexAddr P t (.c false [.ref id off]) (.c false [.d (.raw (.int κ q))]) s k x =
    optK (arrInfo P t) fun r => ifK (0 ≤ q ∧ q < r.1) (k (.c false [.ref id (off + q.toNat * r.2)])) (chk (1 < r.1) (x (.c false [.unk]))) := by
  unfold evIndexAddr; cases arrInfo P t <;> rfl
@[simp] theorem evOp_index (t : Nat) (y z : Operand) : evOp P ⟨d, .index t y z, ty0, p, af, g⟩ s k x = evIndex P t (s.eval y) (s.eval z) (fun v => k v s) (fun v => x v s) := rfl
@[congr] theorem evIndex_congr {t : Nat} {p p' i i' : V} {k x : V → Prop} {tk : Nat} (htk : tick = tk) (h1 : p = p') (h2 : i = i') : evIndex P t p i k x = evIndex P t p' i' k x := h1 ▸ h2 ▸ rfl
@[simp] theorem evIndex_str (t : Nat) (l : List UInt8) (κ : IntKind) (q : Int) (k x : V → Prop) : evIndex P t (.c false [.d (.raw (.string ⟨⟨l⟩⟩))]) (.c false [.d (.raw (.int κ q))]) k x =
    chk (isStr P t = true) (ifK (0 ≤ q ∧ q < l.length) (k (.c false [.d (.raw (.int .u8 ((l.getD q.toNat 0).toNat)))])) (x (.c false [.unk]))) := rfl
@[simp] theorem evOp_slice (t : Nat) (y : Operand) (lo hi mx : Option Operand) : evOp P ⟨d, .slice t y lo hi mx, ty0, p, af, g⟩ s k x = evSlice P t (s.eval y) lo hi mx s k x := rfl
@[congr] theorem evSlice_congr {t : Nat} {p p' : V} {lo hi mx : Option Operand} {k x : V → St → Prop} {tk : Nat} (htk : tick = tk) (h1 : p = p') (h : s = s') : evSlice P t p lo hi mx s k x = evSlice P t p' lo hi mx s' k x := h1 ▸ h ▸ rfl
def intOf (v : V) : Option Int := match v with | .c false [.d (.raw (.int _ q))] => some q | _ => none
@[simp] theorem intOf_int (κ : IntKind) (q : Int) : intOf (.c false [.d (.raw (.int κ q))]) = some q := rfl
@[simp] theorem bnd_none (q : Int) : bnd s q none = some q := rfl
@[simp] theorem bnd_some (q : Int) (y : Operand) : bnd s q (some y) = intOf (s.eval y) := by
  show (match s.eval y with | .c false [.d (.raw (.int _ q))] => some q | _ => none) = _
  unfold intOf
  split <;> rfl
@[simp] theorem evSlice_str (t : Nat) (l : List UInt8) (lo hi : Option Operand) : evSlice P t (.c false [.d (.raw (.string ⟨⟨l⟩⟩))]) lo hi none s k x =
    chk (isStr P t = true) (optK (bnd s 0 lo) fun a => optK (bnd s l.length hi) fun b => ifK (0 ≤ a ∧ a ≤ b ∧ b ≤ l.length) (k (.c false [.d (.raw (.string ⟨⟨(l.take b.toNat).drop a.toNat⟩⟩))]) s) (x (.c false [.unk]) s)) := by
  unfold evSlice
  simp only
  cases isStr P t with
  | false => rfl
  | true =>
    rw [chk, if_pos rfl]
    cases bnd s 0 lo with
    | none => rfl
    | some a => simp only [optK_some]; show (match true, some a, bnd s ((l.length : Nat) : Int) hi with | true, some a, some b => _ | _, _, _ => False) = _; cases bnd s ((l.length : Nat) : Int) hi <;> rfl
@[simp] theorem evSlice_sl (t n sz : Nat) (get : Nat → Nat → D) (lo hi : Option Operand) : evSlice P t (.c false [.d (.sl n sz get)]) lo hi none s k x =
    optK (rowInfo P t) fun r => optK (bnd s 0 lo) fun a => optK (bnd s n hi) fun b => chk (0 ≤ a ∧ a ≤ b ∧ b ≤ n ∧ r.2.1 = sz) (k (.c false [.d (.sl (b - a).toNat sz fun i j => get (a.toNat + i) j)]) s) := by
  unfold evSlice
  simp only
  cases rowInfo P t with
  | none => rfl
  | some r => cases bnd s 0 lo with
    | none => rfl
    | some a => cases bnd s n hi <;> rfl
@[simp] theorem evSlice_row (t id n : Nat) (hi : Option Operand) : evSlice P t (.c false [.row id n]) none hi none s k x =
    optK (rowInfo P t) fun r => optK (bnd s n hi) fun b => chk (0 ≤ b ∧ b ≤ n) (k (.c false [.row id b.toNat]) s) := by
  unfold evSlice
  simp only
  cases rowInfo P t with
  | none => rfl
  | some r => cases bnd s n hi <;> rfl
@[simp] theorem evSlice_nil (t : Nat) (lo hi : Option Operand) : evSlice P t (.c false [.d (.raw (.slice none 0 0))]) lo hi none s k x =
    optK (rowInfo P t) fun r => optK (bnd s 0 lo) fun a => optK (bnd s 0 hi) fun b => chk (a = 0 ∧ b = 0) (k (.c false [.d (.raw (.slice none 0 0))]) s) := by
  unfold evSlice
  simp only
  cases rowInfo P t with
  | none => rfl
  | some r => cases bnd s 0 lo with
    | none => rfl
    | some a => cases bnd s 0 hi <;> rfl
@[simp] theorem evOp_len (t : Nat) (y : Operand) : evOp P ⟨d, .call ⟨.builtin .len, ⟨[y]⟩, ⟨[t]⟩⟩, ty0, p, af, g⟩ s k x = evLen P t (s.eval y) fun v => k v s := rfl
@[congr] theorem evLen_congr {t : Nat} {p p' : V} {k : V → Prop} {tk : Nat} (htk : tick = tk) (h1 : p = p') : evLen P t p k = evLen P t p' k := h1 ▸ rfl
@[simp] theorem evLen_str (t : Nat) (l : List UInt8) (k : V → Prop) : evLen P t (.c false [.d (.raw (.string ⟨⟨l⟩⟩))]) k = chk (isStr P t = true) (k (.c false [.d (.raw (.int .i64 (l.length : Nat)))])) := rfl
@[simp] theorem evLen_sl (t n sz : Nat) (get : Nat → Nat → D) (k : V → Prop) : evLen P t (.c false [.d (.sl n sz get)]) k = optK (rowInfo P t) fun _ => k (.c false [.d (.raw (.int .i64 n))]) := by
  unfold evLen; cases rowInfo P t <;> rfl
@[simp] theorem evLen_row (t id n : Nat) (k : V → Prop) : evLen P t (.c false [.row id n]) k = optK (rowInfo P t) fun _ => k (.c false [.d (.raw (.int .i64 n))]) := by
  unfold evLen; cases rowInfo P t <;> rfl
@[simp] theorem evLen_nil (t : Nat) (k : V → Prop) : evLen P t (.c false [.d (.raw (.slice none 0 0))]) k = optK (rowInfo P t) fun _ => k (.c false [.d (.raw (.int .i64 0))]) := by
  unfold evLen; cases rowInfo P t <;> rfl
@[simp] theorem evLen_emp (t : Nat) (k : V → Prop) : evLen P t (.c false [.emp]) k = optK (rowInfo P t) fun _ => k (.c false [.d (.raw (.int .i64 0))]) := by
  unfold evLen; cases rowInfo P t <;> rfl
/-! calls -/
def compOf (v : V) : Option (Bool × List At) := match v with | .c g xs => some (g, xs) | _ => none
@[simp] theorem compOf_c (g : Bool) (xs : List At) : compOf (.c g xs) = some (g, xs) := rfl
@[simp] theorem parts_nil : parts s [] = some [] := rfl
@[simp] theorem parts_cons (y : Operand) (l : List Operand) : parts s (y :: l) = obK (compOf (s.eval y)) fun q => obK (parts s l) fun r => some (q :: r) := by
  show (match s.eval y, parts s l with | .c g xs, some r => some ((g, xs) :: r) | _, _ => none) = _
  cases s.eval y with
  | tup => rfl
  | c g xs => cases parts s l <;> rfl
@[simp] theorem evOp_call (f : Operand) (l : List Operand) (ts : Array TypeId) : evOp P ⟨d, .call ⟨.value f, ⟨l⟩, ts⟩, ty0, p, af, g⟩ s k x = evCall P (s.eval f) l s k x := rfl
@[congr] theorem evCall_congr {f f' : V} {l : List Operand} {k x : V → St → Prop} {tk : Nat} (htk : tick = tk) (h1 : f = f') (h : s = s') : evCall P f l s k x = evCall P f' l s' k x := h1 ▸ h ▸ rfl
def oneK (l : List (Bool × List At)) (k : V → Prop) : Prop := match l with | [(false, [y])] => k (.a y) | _ => False
@[congr] theorem oneK_congr {l l' : List (Bool × List At)} {k : V → Prop} {tk : Nat} (htk : tick = tk) (h : l = l') : oneK l k = oneK l' k := h ▸ rfl
@[simp] theorem oneK_one (y : At) (k : V → Prop) : oneK [(false, [y])] k = k (.c false [y]) := rfl
@[simp] theorem evCall_func (gg : FuncId) (l : List Operand) : evCall P (.c false [.d (.raw (.func (.func gg) ⟨[]⟩ ⟨[]⟩))]) l s k x = optK (parts s l) fun ps => boolK (callable P gg) (ACall P gg ps s k x) (boolK (noEscape P gg) (oneK ps fun v => k v s) False) := by
  unfold evCall; cases parts s l <;> rfl
def obClo (ob : Ob) (k : Fn → List (Bool × List At) → List (Bool × List At) → Prop) : Prop := match ob with | .clo fn f c => k fn f c | _ => False
@[congr] theorem obClo_congr {v v' : Ob} {k : Fn → List (Bool × List At) → List (Bool × List At) → Prop} {tk : Nat} (htk : tick = tk) (h : v = v') : obClo v k = obClo v' k := h ▸ rfl
def fnK (f : Fn) (k : FuncId → Prop) : Prop := match f with | .func g => k g | _ => False
@[simp] theorem obClo_c (fn : Fn) (f c : List (Bool × List At)) (k : Fn → List (Bool × List At) → List (Bool × List At) → Prop) : obClo (.clo fn f c) k = k fn f c := rfl
@[simp] theorem fnK_func (g : FuncId) (k : FuncId → Prop) : fnK (.func g) k = k g := rfl
@[simp] theorem evCall_clo (id : Nat) (l : List Operand) : evCall P (.c false [.clo id]) l s k x = optK (parts s l) fun ps => optK (s.heap[id]?) fun ob => obClo ob fun fn f c => fnK fn fun gg => chk (callable P gg = true) (ACall P gg (f ++ ps ++ c) s k x) := by
  unfold evCall
  cases parts s l with
  | none => rfl
  | some ps =>
    simp only [optK_some]
    cases s.heap[id]? with
    | none => rfl
    | some ob => cases ob with
      | clo fn f c => cases fn <;> rfl
      | _ => rfl
end
end
end Go.Proofs.Vl
