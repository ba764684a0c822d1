/- A part of the proof: Spec. -/
import Derived.Test.YtddngfpgeifffaaGreatDoorVlLoop
set_option linter.unusedVariables false
set_option linter.unusedSimpArgs false
/- A small logic of abstract values: contracts of functions from data to data. -/
namespace Go.Proofs.Vl
open Go Go.RowKit

def dvRep (I : Nat → Nat → Prop) (w : World) (l : List DC) (v : Value) : Prop :=
  match l with
  | [p] => dcRep I w p v
  | l => ∃ vs : Array Value, v = .tuple vs ∧ All2 (dcRep I w) l vs.toList
def up (p : DC) : Bool × List At := (p.1, p.2.map At.d)
def ups (l : List DC) : List (Bool × List At) := l.map up

/-- Called with data args the function returns data res; what was there stays. -/
def PSpec (P : Program) (g : FuncId) (args res : List DC) : Prop :=
  ∀ (I : Nat → Nat → Prop) (w : World) (vs : Array Value), GlobOk P w.heap.size w → (∀ b o, I b o → b < w.heap.size) → All2 (dcRep I w) args vs.toList →
    Calls P g vs w fun e w' => ∃ u, e = .returned u ∧ Below w.heap.size w w' ∧ dvRep (fun b o => I b o ∨ (w.heap.size ≤ b ∧ b < w'.heap.size)) w' res u

section
variable {P : Program} {B : Nat} {I0 : Nat → Nat → Prop} {w0 w : World} {c : Cx} {s : St} {a : Act} {as : List Act}

theorem dcRep_up {I : Nat → Nat → Prop} {H : List Ob} {p : DC} {v : Value} : PRep I w H c (up p) v ↔ dcRep I w p v := by
  obtain ⟨g, xs⟩ := p
  have key : ∀ (xs : List D) (vs : List Value), All2 (AtRep I w H c) (xs.map At.d) vs ↔ All2 (D.Rep I w) xs vs := by
    intro xs
    induction xs with
    | nil => intro vs; cases vs <;> exact Iff.rfl
    | cons x xs ih => intro vs; cases vs with
      | nil => exact Iff.rfl
      | cons v vs => exact and_congr Iff.rfl (ih vs)
  cases g with
  | true => exact exists_congr fun cs => and_congr Iff.rfl (key xs cs.toList)
  | false =>
    match xs with
    | [x] => exact Iff.rfl
    | [] => exact Iff.rfl
    | _ :: _ :: _ => exact Iff.rfl
theorem All2.iff_map {α β γ : Type} {R : α → β → Prop} {S : γ → β → Prop} {f : γ → α} (h : ∀ x v, R (f x) v ↔ S x v) : ∀ {l : List γ} {m : List β}, All2 R (l.map f) m ↔ All2 S l m
  | [], [] => Iff.rfl
  | [], _ :: _ => Iff.rfl
  | _ :: _, [] => Iff.rfl
  | x :: l, v :: m => and_congr (h x v) (All2.iff_map h)
theorem dvRep_up {I : Nat → Nat → Prop} {H : List Ob} {l : List DC} {v : Value} : VRep I w H c (resV (ups l)) v ↔ dvRep I w l v := by
  match l with
  | [] =>
    show (∃ vs : Array Value, v = .tuple vs ∧ All2 (PRep I w H c) (ups []) vs.toList) ↔ _
    exact exists_congr fun vs => and_congr Iff.rfl (All2.iff_map fun x v => dcRep_up)
  | [p] => exact dcRep_up (p := p)
  | p :: q :: l =>
    show (∃ vs : Array Value, v = .tuple vs ∧ All2 (PRep I w H c) (ups (p :: q :: l)) vs.toList) ↔ _
    exact exists_congr fun vs => and_congr Iff.rfl (All2.iff_map fun x v => dcRep_up)

theorem dvRep.mono {I I' : Nat → Nat → Prop} {w w' : World} (h : ∀ b o, I b o → I' b o ∧ w'.cell? ⟨b, o, none⟩ = w.cell? ⟨b, o, none⟩) {l : List DC} {v : Value} (hr : dvRep I w l v) : dvRep I' w' l v := by
  match l, hr with
  | [p], hr => exact dcRep.mono h hr
  | [], ⟨vs, e, hc⟩ => exact ⟨vs, e, hc.imp fun x v h' => dcRep.mono h h'⟩
  | _ :: _ :: _, ⟨vs, e, hc⟩ => exact ⟨vs, e, hc.imp fun x v h' => dcRep.mono h h'⟩

/-- Behind a call that leaves what was there alone. -/
theorem Rel.past (r : Rel B I0 w0 c s a as w) {w' : World} (hb : Below w.heap.size w w') : Rel B I0 w0 c s a as w' ∧
    (∀ b o, (imm B I0 c s.heap w b o ∨ (w.heap.size ≤ b ∧ b < w'.heap.size)) → imm B I0 c s.heap w' b o) := by
  have hi : ∀ b o, (imm B I0 c s.heap w b o ∨ (w.heap.size ≤ b ∧ b < w'.heap.size)) → imm B I0 c s.heap w' b o := by
    intro b o h
    rcases h with (h | ⟨h1, h2, h3⟩) | ⟨h1, h2⟩
    · exact .inl h
    · exact .inr ⟨h1, Nat.lt_of_lt_of_le h2 hb.size, h3⟩
    · refine .inr ⟨Nat.le_trans r.size h1, h2, fun id ob hob hblk hρ => ?_⟩
      have := r.ρ_lt hob hblk
      omega
  have hlt : ∀ b o, imm B I0 c s.heap w b o → b < w.heap.size := fun b o h => by
    rcases h with h | h
    · have := r.size; omega
    · exact h.2.1
  have hs : Step (fun _ => True) (imm B I0 c s.heap w) w s.heap c (imm B I0 c s.heap w') w' s.heap c :=
    ⟨fun b o h => ⟨hi b o (.inl h), hb.cell (p := ⟨b, o, none⟩) (hlt b o h)⟩, fun id h _ => ⟨h, Nat.le_refl _, rfl, rfl, rfl⟩⟩
  refine ⟨r.step hs (r.below.trans (hb.mono r.size)) (Nat.le_trans r.size hb.size) (Kd.below hb) (fun id ob h => ?_) r.inj, hi⟩
  exact ObRep.mono hs (List.getElem?_eq_some_iff.1 h).1 trivial (Ob.fits_all _) (fun hblk => hb.block _ (r.ρ_lt h hblk)) (r.obs id ob h)

/-- A contract, used. -/
theorem PSpec.use {g : FuncId} {args res : List DC} {ps : List (Bool × List At)} {k x : V → St → Prop} (h : PSpec P g args res) (ha : ps = ups args) (hk : k (resV (ups res)) s) : ACall P g ps s k x := by
  intro B I0 w0 hG c a as w vs r hv
  subst ha
  refine (h (imm B I0 c s.heap w) w vs (hG.below r.below r.size) (imm_lt r) (All2.iff_map (fun x v => dcRep_up) |>.1 hv)).mono fun e w' hh => ?_
  obtain ⟨u, rfl, hb, hu⟩ := hh
  obtain ⟨r', hi⟩ := r.past hb
  exact .inl ⟨u, _, s, c, rfl, r', dvRep_up.2 (hu.mono fun b o h => ⟨hi b o h, rfl⟩), hk⟩

/-- What a value of the callee's own shows to its caller. -/
def Shows (H : List Ob) (v : V) (res : List DC) : Prop :=
  ∀ B I0 c w u, (∀ id ob, H[id]? = some ob → ObRep B (imm B I0 c H w) w H c id ob) → (∀ id ob, H[id]? = some ob → ob.blk (c.κ id) = true → c.ρ id < w.heap.size) → VRep (imm B I0 c H w) w H c v u →
    dvRep (fun b o => imm B I0 c H w b o ∨ (B ≤ b ∧ b < w.heap.size)) w res u

def emptySt : St := ⟨⟨0, []⟩, [], []⟩
theorem rel_empty (I : Nat → Nat → Prop) (w : World) (c : Cx) : Rel w.heap.size I w c emptySt ⟨#[], []⟩ [] w :=
  ⟨Below.refl _ _, Nat.le_refl _, fun id ob h => by simp [emptySt] at h, fun i j oi oj h => by simp [emptySt] at h, ⟨rfl, fun t => trivial⟩, trivial, ⟨by simp [amarks], fun r hr => by simp [amarks] at hr⟩⟩

theorem PSpec.of_call {g : FuncId} {args res : List DC} (h : ACall P g (ups args) emptySt (fun v s' => Shows s'.heap v res) (fun _ _ => False)) : PSpec P g args res := by
  intro I w vs hG hI hv
  let c : Cx := ⟨fun _ => 0, fun _ => none, fun _ => .nilFunc⟩
  have r := rel_empty I w c
  have hi : ∀ b o, I b o → imm w.heap.size I c emptySt.heap w b o := fun b o h => .inl ⟨hI b o h, h⟩
  refine (h w.heap.size I w hG c ⟨#[], []⟩ [] w vs r ((All2.iff_map fun x v => dcRep_up).2 (hv.imp fun x v h => h.mono fun b o h => ⟨hi b o h, rfl⟩))).mono fun e w' hh => ?_
  rcases hh with ⟨u, v, s', c', rfl, r', hv, hk⟩ | ⟨u, v, s', c', _, _, _, hk⟩
  · refine ⟨u, rfl, r'.below, (hk _ _ c' w' u r'.obs (fun id ob => r'.ρ_lt) hv).mono fun b o h => ⟨?_, rfl⟩⟩
    rcases h with (h | h) | h
    · exact .inl h.2
    · exact .inr ⟨h.1, h.2.1⟩
    · exact .inr h
  · exact hk.elim

theorem PSpec.of_body {g : FuncId} {fn : Func} {body : Code} {args res : List DC} (hf : P.funcs[g]? = some fn) (hb : fn.body = some body) (hd : dstsOk fn.ntmps body = true)
    (hn : args.length ≤ fn.ntmps) (h : awp P body (enterSt emptySt fn.ntmps (ups args)) (retK P fn (fun v s' => Shows s'.heap v res) (fun _ _ => False))) : PSpec P g args res :=
  PSpec.of_call (ACall.of_body hf hb hd (by simpa [ups] using hn) h)

/-- Data shows itself. -/
theorem Shows.data (H : List Ob) (res : List DC) : Shows H (resV (ups res)) res := by
  intro B I0 c w u hob hρ hv
  exact (dvRep_up.1 hv).mono fun b o h => ⟨.inl h, rfl⟩
end
end Go.Proofs.Vl
