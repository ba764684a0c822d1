/- A part of the proof: Show. -/
import Derived.Test.YtddngfpgeifffaaGreatDoorVlSpec
set_option linter.unusedVariables false
set_option linter.unusedSimpArgs false
/- A small logic of abstract values: what a function's own values show to its caller. -/
namespace Go.Proofs.Vl
open Go Go.RowKit

/-- Two data that say the same. -/
inductive D.Eqv : D → D → Prop
  | raw (v : Value) : D.Eqv (.raw v) (.raw v)
  | sl (n sz : Nat) (get get' : Nat → Nat → D) (h : ∀ i, i < n → ∀ j, j < sz → D.Eqv (get i j) (get' i j)) : D.Eqv (.sl n sz get) (.sl n sz get')
  | nil (sz : Nat) (get' : Nat → Nat → D) : D.Eqv (.raw (.slice none 0 0)) (.sl 0 sz get')
  | none (sz sz' : Nat) (get get' : Nat → Nat → D) : D.Eqv (.sl 0 sz get) (.sl 0 sz' get')
theorem D.Eqv.refl : ∀ d : D, D.Eqv d d
  | .raw v => .raw v
  | .sl n sz get => .sl n sz get get fun i _ j _ => D.Eqv.refl (get i j)
theorem D.Eqv.of_eq {x y : D} (h : x = y) : D.Eqv x y := h ▸ D.Eqv.refl x
theorem D.Rep.eqv {I : Nat → Nat → Prop} {w : World} {x y : D} (h : D.Eqv x y) : ∀ {v : Value}, x.Rep I w v → y.Rep I w v := by
  induction h with
  | raw v => exact fun h => h
  | sl n sz get get' h ih =>
    rintro v ⟨a, c, e, h1, h2, h3⟩
    exact ⟨a, c, e, h1, h2, fun hn => by
      obtain ⟨b, o, e1, h4⟩ := h3 hn
      exact ⟨b, o, e1, fun i hi j hj => by obtain ⟨h5, x, h6, h7⟩ := h4 i hi j hj; exact ⟨h5, x, h6, ih i hi j hj h7⟩⟩⟩
  | nil sz get' => rintro v ⟨rfl, _⟩; exact ⟨none, 0, rfl, Nat.le_refl _, by decide, fun h => absurd h (by omega)⟩
  | none sz sz' get get' => rintro v ⟨a, c, e, h1, h2, _⟩; exact ⟨a, c, e, h1, h2, fun h => absurd h (by omega)⟩

/-- What one cell shows. -/
def AtShow (H : List Ob) (x : At) (d : D) : Prop :=
  ∀ B I0 c w u, (∀ id ob, H[id]? = some ob → ObRep B (imm B I0 c H w) w H c id ob) → (∀ id ob, H[id]? = some ob → ob.blk (c.κ id) = true → c.ρ id < w.heap.size) → AtRep (imm B I0 c H w) w H c x u →
    d.Rep (fun b o => imm B I0 c H w b o ∨ (B ≤ b ∧ b < w.heap.size)) w u
theorem AtShow.data {H : List Ob} {x y : D} (h : D.Eqv x y) : AtShow H (.d x) y := by
  intro B I0 c w u hob hρ hv
  exact D.Rep.eqv h (D.Rep.mono (fun b o h => ⟨.inl h, rfl⟩) x hv)
theorem AtShow.emp {H : List Ob} {sz : Nat} {get : Nat → Nat → D} : AtShow H .emp (.sl 0 sz get) := by
  rintro B I0 c w u hob hρ ⟨a, rfl⟩
  exact ⟨a, 0, rfl, Nat.le_refl _, by decide, fun h => absurd h (by omega)⟩
theorem AtShow.row {H : List Ob} {id n e sz m fz : Nat} {get get' : Nat → Nat → D} (hH : H[id]? = some (.row e sz m get fz)) (h : ∀ i, i < n → ∀ j, j < sz → D.Eqv (get i j) (get' i j)) :
    AtShow H (.row id n) (.sl n sz get') := by
  rintro B I0 c w u hob hρ ⟨h1, h2, rfl⟩
  obtain ⟨h4, h5, hr⟩ := hob id _ hH
  have hm : n ≤ m := by simpa [obLen, hH, Ob.len] using h2
  refine ⟨_, _, rfl, Nat.le_trans hm h4, h5, fun hn => ?_⟩
  obtain ⟨ck, hk, _⟩ := cap_lt (c := c) (id := id) (i := 0) (by omega)
  obtain ⟨hB, cur, hc, h3, h6⟩ := hr ck hk
  refine ⟨c.ρ id, 0, ad_some hk, fun i hi j hj => ?_⟩
  obtain ⟨x, hx, hd⟩ := h6 i (by omega) j hj
  refine ⟨.inr ⟨hB, hρ id _ hH (row_blk hk)⟩, x, ?_, D.Rep.eqv (h i hi j hj) (D.Rep.mono (fun b o h => ⟨.inl h, rfl⟩) _ hd)⟩
  have hlt : i * sz + j < cur.size := (Array.getElem?_eq_some_iff.1 hx).1
  rw [Nat.zero_add]
  simp [World.cell?, hc, hx]

def CShow (H : List Ob) (p : Bool × List At) (q : DC) : Prop := p.1 = q.1 ∧ All2 (AtShow H) p.2 q.2
theorem CShow.rep {H : List Ob} {p : Bool × List At} {q : DC} (h : CShow H p q) {B : Nat} {I0 : Nat → Nat → Prop} {c : Cx} {w : World} {u : Value}
    (hob : ∀ id ob, H[id]? = some ob → ObRep B (imm B I0 c H w) w H c id ob) (hρ : ∀ id ob, H[id]? = some ob → ob.blk (c.κ id) = true → c.ρ id < w.heap.size) (hv : PRep (imm B I0 c H w) w H c p u) :
    dcRep (fun b o => imm B I0 c H w b o ∨ (B ≤ b ∧ b < w.heap.size)) w q u := by
  obtain ⟨g, xs⟩ := p
  obtain ⟨g', ds⟩ := q
  obtain ⟨rfl, hx⟩ := h
  have key : ∀ (xs : List At) (ds : List D) (vs : List Value), All2 (AtShow H) xs ds → All2 (AtRep (imm B I0 c H w) w H c) xs vs → All2 (D.Rep (fun b o => imm B I0 c H w b o ∨ (B ≤ b ∧ b < w.heap.size)) w) ds vs := by
    intro xs
    induction xs with
    | nil => intro ds vs h1 h2; cases ds <;> cases vs <;> first | trivial | exact h1.elim | exact h2.elim
    | cons x xs ih =>
      intro ds vs h1 h2
      cases ds with
      | nil => exact h1.elim
      | cons d ds => cases vs with
        | nil => exact h2.elim
        | cons v vs => exact ⟨h1.1 B I0 c w v hob hρ h2.1, ih ds vs h1.2 h2.2⟩
  cases g with
  | true => obtain ⟨cs, e, hc⟩ := hv; exact ⟨cs, e, key xs ds _ hx hc⟩
  | false =>
    match xs, ds, hx, hv with
    | [x], [d], hx, hv => exact hx.1 B I0 c w u hob hρ hv
    | [], _, _, hv => exact hv.elim
    | _ :: _ :: _, _, _, hv => exact hv.elim
    | [x], [], hx, _ => exact hx.elim
    | [x], _ :: _ :: _, hx, _ => exact hx.2.elim
theorem Shows.one {H : List Ob} {g : Bool} {xs : List At} {q : DC} (h : CShow H (g, xs) q) : Shows H (.c g xs) [q] :=
  fun B I0 c w u hob hρ hv => h.rep hob hρ hv
theorem Shows.tup {H : List Ob} {ps : List (Bool × List At)} {qs : List DC} (h : All2 (CShow H) ps qs) (hn : ps.length ≠ 1) : Shows H (.tup ps) qs := by
  rintro B I0 c w u hob hρ ⟨vs, e, hv⟩
  have key : ∀ (ps : List (Bool × List At)) (qs : List DC) (vs : List Value), All2 (CShow H) ps qs → All2 (PRep (imm B I0 c H w) w H c) ps vs → All2 (dcRep (fun b o => imm B I0 c H w b o ∨ (B ≤ b ∧ b < w.heap.size)) w) qs vs := by
    intro ps
    induction ps with
    | nil => intro qs vs h1 h2; cases qs <;> cases vs <;> first | trivial | exact h1.elim | exact h2.elim
    | cons x xs ih =>
      intro ds vs h1 h2
      cases ds with
      | nil => exact h1.elim
      | cons d ds => cases vs with
        | nil => exact h2.elim
        | cons v vs => exact ⟨h1.1.rep hob hρ h2.1, ih ds vs h1.2 h2.2⟩
  match ps, qs, h with
  | [], [], _ => exact ⟨vs, e, key [] [] _ trivial hv⟩
  | [p], _, _ => exact absurd rfl hn
  | p :: q :: ps, [], h => exact h.elim
  | p :: q :: ps, [x], h => exact h.2.elim
  | p :: q :: ps, x :: y :: qs, h => exact ⟨vs, e, key _ _ _ h hv⟩

/-- A contract, used at data that say the same. -/
def ArgE (p : Bool × List At) (q : DC) : Prop := p.1 = q.1 ∧ All2 (fun x y => ∃ d, x = At.d d ∧ D.Eqv d y) p.2 q.2
theorem PSpec.useE {P : Program} {s : St} {g : FuncId} {args res : List DC} {ps : List (Bool × List At)} {k x : V → St → Prop} (h : PSpec P g args res) (ha : All2 ArgE ps args) (hk : k (resV (ups res)) s) : ACall P g ps s k x := by
  intro B I0 w0 hG c a as w vs r hv
  have conv : ∀ {ps : List (Bool × List At)} {args : List DC} {vs : List Value}, All2 ArgE ps args → All2 (PRep (imm B I0 c s.heap w) w s.heap c) ps vs → All2 (dcRep (imm B I0 c s.heap w) w) args vs := by
    intro ps
    induction ps with
    | nil => intro args vs h1 h2; cases args <;> cases vs <;> first | trivial | exact h1.elim | exact h2.elim
    | cons p ps ih =>
      intro args vs h1 h2
      cases args with
      | nil => exact h1.elim
      | cons q args => cases vs with
        | nil => exact h2.elim
        | cons v vs =>
          refine ⟨?_, ih h1.2 h2.2⟩
          obtain ⟨⟨hg, hx⟩, _⟩ := h1
          obtain ⟨hp, _⟩ := h2
          obtain ⟨g, xs⟩ := p
          obtain ⟨g', ds⟩ := q
          simp only at hg hx
          subst hg
          have key : ∀ (xs : List At) (ds : List D) (vs : List Value), All2 (fun x y => ∃ d, x = At.d d ∧ D.Eqv d y) xs ds → All2 (AtRep (imm B I0 c s.heap w) w s.heap c) xs vs → All2 (D.Rep (imm B I0 c s.heap w) w) ds vs := by
            intro xs
            induction xs with
            | nil => intro ds vs h1 h2; cases ds <;> cases vs <;> first | trivial | exact h1.elim | exact h2.elim
            | cons x xs ih =>
              intro ds vs h1 h2
              cases ds with
              | nil => exact h1.elim
              | cons d ds => cases vs with
                | nil => exact h2.elim
                | cons v vs =>
                  obtain ⟨⟨d0, rfl, he⟩, h1⟩ := h1
                  exact ⟨D.Rep.eqv he h2.1, ih ds vs h1 h2.2⟩
          cases g with
          | true => obtain ⟨cs, e, hc⟩ := hp; exact ⟨cs, e, key xs ds _ hx hc⟩
          | false =>
            match xs, ds, hx, hp with
            | [x], [d], hx, hp => exact (key [x] [d] [v] hx ⟨hp, trivial⟩).1
            | [], _, _, hp => exact hp.elim
            | _ :: _ :: _, _, _, hp => exact hp.elim
            | [x], [], hx, _ => exact hx.elim
            | [x], _ :: _ :: _, hx, _ => exact hx.2.elim
  refine (h (imm B I0 c s.heap w) w vs (hG.below r.below r.size) (imm_lt r) (conv ha hv)).mono fun e w' hh => ?_
  obtain ⟨u, rfl, hb, hu⟩ := hh
  obtain ⟨r', hi⟩ := r.past hb
  exact .inl ⟨u, _, s, c, rfl, r', dvRep_up.2 (hu.mono fun b o h => ⟨hi b o h, rfl⟩), hk⟩

/-! ### for simp -/
@[simp] theorem all2_nil {α β : Type} (R : α → β → Prop) : All2 R [] [] = True := rfl
@[simp] theorem all2_cons {α β : Type} (R : α → β → Prop) (a : α) (l : List α) (b : β) (m : List β) : All2 R (a :: l) (b :: m) = (R a b ∧ All2 R l m) := rfl
theorem Shows.scalar {H : List Ob} {x y : D} (h : x = y) : Shows H (.c false [.d x]) [(false, [y])] := Shows.one ⟨rfl, AtShow.data (.of_eq h), trivial⟩
theorem Shows.dec {H : List Ob} {p q : Prop} [Decidable p] [Decidable q] (h : p ↔ q) : Shows H (.c false [.d (.raw (.bool (decide p)))]) [(false, [.raw (.bool (decide q))])] := Shows.scalar (by simp only [h])
theorem Shows.dec_t {H : List Ob} {q : Prop} [Decidable q] (h : q) : Shows H (.c false [.d (.raw (.bool true))]) [(false, [.raw (.bool (decide q))])] := Shows.scalar (by rw [decide_eq_true h])
theorem Shows.dec_f {H : List Ob} {q : Prop} [Decidable q] (h : ¬ q) : Shows H (.c false [.d (.raw (.bool false))]) [(false, [.raw (.bool (decide q))])] := Shows.scalar (by rw [decide_eq_false h])
theorem Shows.int {H : List Ob} {κ : IntKind} {n m : Int} (h : n = m) : Shows H (.c false [.d (.raw (.int κ n))]) [(false, [.raw (.int κ m)])] := Shows.scalar (by rw [h])
theorem Shows.str {H : List Ob} {l m : List UInt8} (h : l = m) : Shows H (.c false [.d (.raw (.string ⟨⟨l⟩⟩))]) [(false, [.raw (.string ⟨⟨m⟩⟩)])] := Shows.scalar (by rw [h])
end Go.Proofs.Vl
