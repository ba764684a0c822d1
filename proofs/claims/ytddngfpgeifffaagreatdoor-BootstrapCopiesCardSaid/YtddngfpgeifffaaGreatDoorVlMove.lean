/- A part of the proof: Move. -/
import Derived.Test.YtddngfpgeifffaaGreatDoorVlMore
set_option linter.unusedVariables false
set_option linter.unusedSimpArgs false
/- A small logic of abstract values: an object under a new number. -/
namespace Go.Proofs.Vl
open Go Go.RowKit

def rn (id n i : Nat) : Nat := if i = id then n else i
def At.ren (id n : Nat) : At → At
  | .ref i o => .ref (rn id n i) o
  | .row i m => .row (rn id n i) m
  | .sd i m => .sd (rn id n i) m
  | .el i sz p q => .el (rn id n i) sz p q
  | .mp i => .mp (rn id n i)
  | .clo i => .clo (rn id n i)
  | .yld i => .yld (rn id n i)
  | .mref i o => .mref (rn id n i) o
  | x => x
def St.move (id : Nat) (ob : Ob) (s : St) : St :=
  ⟨s.cur.mapA (At.ren id s.heap.length), s.rest.map (Fr.mapA (At.ren id s.heap.length)), (s.heap.map (Ob.mapA (At.ren id s.heap.length))).set id .gone ++ [ob.mapA (At.ren id s.heap.length)]⟩
def Cx.move (c : Cx) (id n : Nat) : Cx := ⟨fun i => if i = n then c.ρ id else c.ρ i, fun i => if i = n then c.κ id else c.κ i, fun i => if i = n then c.γ id else c.γ i⟩

section
variable {P : Program} {B : Nat} {I0 : Nat → Nat → Prop} {w0 w : World} {c : Cx} {s : St} {a : Act} {as : List Act}

theorem move_get {id i : Nat} {ob o : Ob} (h0 : s.heap[id]? = some ob) (h : (s.move id ob).heap[i]? = some o) :
    (i = id ∧ o = .gone) ∨ (i = s.heap.length ∧ o = ob.mapA (At.ren id s.heap.length)) ∨ (i ≠ id ∧ i < s.heap.length ∧ ∃ o', s.heap[i]? = some o' ∧ o = o'.mapA (At.ren id s.heap.length)) := by
  have hid := (List.getElem?_eq_some_iff.1 h0).1
  rcases getElem?_snoc h with ⟨hl, h1⟩ | ⟨rfl, rfl⟩
  · simp at hl
    by_cases hi : i = id
    · subst hi
      rw [List.getElem?_set_self (by simpa using hl)] at h1
      simp at h1
      exact .inl ⟨rfl, h1.symm⟩
    · rw [List.getElem?_set_ne (by omega), List.getElem?_map, Option.map_eq_some_iff] at h1
      obtain ⟨o', h2, h3⟩ := h1
      exact .inr (.inr ⟨hi, hl, o', h2, h3.symm⟩)
  · exact .inr (.inl ⟨by simp, rfl⟩)

theorem Rel.move (r : Rel B I0 w0 c s a as w) {id : Nat} {ob : Ob} (h0 : s.heap[id]? = some ob) : Rel B I0 w0 (c.move id s.heap.length) (s.move id ob) a as w := by
  have hid := (List.getElem?_eq_some_iff.1 h0).1
  let n := s.heap.length
  have hcn : (c.move id n).ρ n = c.ρ id ∧ (c.move id n).κ n = c.κ id ∧ (c.move id n).γ n = c.γ id := by simp [Cx.move]
  have hci : ∀ i, i < n → (c.move id n).ρ i = c.ρ i ∧ (c.move id n).κ i = c.κ i ∧ (c.move id n).γ i = c.γ i := fun i hi => by
    have : i ≠ n := by omega
    simp [Cx.move, this]
  have hrn : ∀ i, i < n → (c.move id n).ρ (rn id n i) = c.ρ i ∧ (c.move id n).κ (rn id n i) = c.κ i ∧ (c.move id n).γ (rn id n i) = c.γ i := fun i hi => by
    unfold rn
    split
    · rename_i e; subst e; exact hcn
    · exact hci i hi
  have hlen : (s.move id ob).heap.length = n + 1 := by simp [St.move, n]
  have hrl : ∀ i, i < n → rn id n i < (s.move id ob).heap.length := fun i hi => by rw [hlen]; unfold rn; split <;> omega
  have hobl : ∀ i, i < n → obLen (s.move id ob).heap (rn id n i) = obLen s.heap i := fun i hi => by
    unfold rn
    split
    · rename_i e
      subst e
      unfold obLen
      have : (s.move i ob).heap[n]? = some (ob.mapA (At.ren i n)) := by
        simp only [St.move]
        rw [List.getElem?_append_right (by simp [n])]
        simp [n]
      rw [this, h0]
      simp [Ob.len_mapA]
    · rename_i hne
      unfold obLen
      simp only [St.move]
      rw [List.getElem?_append_left (by simpa using hi), List.getElem?_set_ne (by omega), List.getElem?_map]
      cases s.heap[i]? <;> simp [Ob.len_mapA]
  have hi : ∀ b o, imm B I0 c s.heap w b o → imm B I0 (c.move id n) (s.move id ob).heap w b o := by
    rintro b o (h' | ⟨h1, h2, h3⟩)
    · exact .inl h'
    · refine .inr ⟨h1, h2, fun i oi hob hb hρ => ?_⟩
      rcases move_get h0 hob with ⟨_, rfl⟩ | ⟨rfl, rfl⟩ | ⟨_, hlt, o', g1, rfl⟩
      · cases hb
      · rw [Ob.fzc_mapA]; rw [Ob.blk_mapA, hcn.2.1] at hb; rw [hcn.1] at hρ; exact h3 id ob h0 hb hρ
      · rw [Ob.fzc_mapA]; rw [Ob.blk_mapA, (hci i hlt).2.1] at hb; rw [(hci i hlt).1] at hρ; exact h3 i o' g1 hb hρ
  have hd : ∀ b o, imm B I0 c s.heap w b o → imm B I0 (c.move id n) (s.move id ob).heap w b o ∧ w.cell? ⟨b, o, none⟩ = w.cell? ⟨b, o, none⟩ := fun b o h => ⟨hi b o h, rfl⟩
  have hf : ∀ x v, AtRep (imm B I0 c s.heap w) w s.heap c x v → AtRep (imm B I0 (c.move id n) (s.move id ob).heap w) w (s.move id ob).heap (c.move id n) (x.ren id n) v := by
    intro x v hx
    cases x with
    | d x => exact D.Rep.mono hd x hx
    | row i m =>
      obtain ⟨g1, g2, rfl⟩ := hx
      obtain ⟨e1, e2, e3⟩ := hrn i g1
      exact ⟨hrl i g1, by rw [hobl i g1]; exact g2, by simp [Cx.ad, Cx.cap, e1, e2]⟩
    | ref i o => obtain ⟨h1, h2⟩ := hx; exact ⟨hrl i h1, by rw [(hrn i h1).1]; exact h2⟩
    | el i sz p q => obtain ⟨h1, h2⟩ := hx; exact ⟨hrl i h1, by rw [(hrn i h1).1]; exact h2⟩
    | fel m gt =>
      obtain ⟨b, o, e1, hc⟩ := hx
      exact ⟨b, o, e1, fun j hj => by obtain ⟨h1, x, h2, h3⟩ := hc j hj; exact ⟨hi _ _ h1, x, h2, D.Rep.mono hd _ h3⟩⟩
    | emp => exact hx
    | sd i m => obtain ⟨h1, h2⟩ := hx; exact ⟨hrl i h1, by rw [(hrn i h1).1]; exact h2⟩
    | mp i => obtain ⟨h1, h2⟩ := hx; exact ⟨hrl i h1, by rw [(hrn i h1).1]; exact h2⟩
    | clo i => obtain ⟨h1, h2⟩ := hx; exact ⟨hrl i h1, by rw [(hrn i h1).2.2]; exact h2⟩
    | yld i => obtain ⟨h1, h2⟩ := hx; exact ⟨hrl i h1, by rw [(hrn i h1).1]; exact h2⟩
    | mref i o => obtain ⟨h1, h2⟩ := hx; exact ⟨hrl i h1, by rw [(hrn i h1).1]; exact h2⟩
    | unk => trivial
  have hob : ∀ i j o', (c.move id n).ρ j = c.ρ i → (c.move id n).κ j = c.κ i → (c.move id n).γ j = c.γ i → ObRep B (imm B I0 c s.heap w) w s.heap c i o' →
      ObRep B (imm B I0 (c.move id n) (s.move id ob).heap w) w (s.move id ob).heap (c.move id n) j (o'.mapA (At.ren id n)) := by
    intro i j o' e1 e2 e3 hr
    cases o' with
    | cells e xs => obtain ⟨hB, cur, hc, ha, h1⟩ := hr; exact ⟨by rw [e1]; exact hB, cur, by rw [e1]; exact hc, All2.map_left (ha.imp fun x v h => hf x v h), h1⟩
    | row e' sz' m gt fz' =>
      obtain ⟨g2, g3, g4⟩ := hr
      refine ⟨by unfold Cx.cap at g2 ⊢; rw [e2]; exact g2, by unfold Cx.cap at g3 ⊢; rw [e2]; exact g3, fun k hk => ?_⟩
      rw [e2] at hk
      obtain ⟨hB, cur, hc, h1, hg⟩ := g4 k hk
      exact ⟨by rw [e1]; exact hB, cur, by rw [e1]; exact hc, h1, fun q hq j hj => by obtain ⟨x, hx, hxr⟩ := hg q hq j hj; exact ⟨x, hx, D.Rep.mono hd _ hxr⟩⟩
    | clo fn f cp => obtain ⟨fs, cs, hg, h1, h2⟩ := hr; exact ⟨fs, cs, by rw [e3]; exact hg, All2.map_left (h1.imp fun p v h => CRep.mapA hf h), All2.map_left (h2.imp fun p v h => CRep.mapA hf h)⟩
    | mp t kk l => obtain ⟨hB, es, clock, hc, ha⟩ := hr; exact ⟨by rw [e1]; exact hB, es, clock, by rw [e1]; exact hc, ha.imp fun p e ⟨h6, h7⟩ => ⟨h6, D.Rep.mono hd _ h7⟩⟩
    | lp l nt tl ps asg body busy pend =>
      obtain ⟨hB, hl, lr, hc, h6, h7, h8, h9, h10, h11⟩ := hr
      exact ⟨by rw [e1]; exact hB, by rw [e1]; exact hl, lr, by rw [e1]; exact hc, h6, h7, h8, h9, h10, FRep.mapA (fr := ⟨nt, tl⟩) hf rfl h11⟩
    | gone => trivial
  refine ⟨r.below, r.size, fun i o ho => ?_, fun i j oi oj h1 h2 bi bj e => ?_, FRep.mapA hf rfl r.cur, All2.map_left (r.rest.imp fun f a' h => FRep.mapA hf rfl h), r.marks⟩
  · rcases move_get h0 ho with ⟨_, rfl⟩ | ⟨rfl, rfl⟩ | ⟨hne, hlt, o', g1, rfl⟩
    · trivial
    · exact hob id _ ob hcn.1 hcn.2.1 hcn.2.2 (r.obs id ob h0)
    · exact hob i i o' (hci i hlt).1 (hci i hlt).2.1 (hci i hlt).2.2 (r.obs i o' g1)
  · have back : ∀ {i : Nat} {oi : Ob}, (s.move id ob).heap[i]? = some oi → oi.blk ((c.move id n).κ i) = true → ∃ i' o', s.heap[i']? = some o' ∧ o'.blk (c.κ i') = true ∧ (c.move id n).ρ i = c.ρ i' ∧ i = rn id n i' := by
      intro i oi h hb
      rcases move_get h0 h with ⟨_, rfl⟩ | ⟨rfl, rfl⟩ | ⟨hne, hlt, o', g1, rfl⟩
      · cases hb
      · rw [Ob.blk_mapA, hcn.2.1] at hb; exact ⟨id, ob, h0, hb, hcn.1, by simp [rn, n]⟩
      · rw [Ob.blk_mapA, (hci i hlt).2.1] at hb; exact ⟨i, o', g1, hb, (hci i hlt).1, by simp [rn, hne]⟩
    obtain ⟨i', o1, g1, b1, e1, rfl⟩ := back h1 bi
    obtain ⟨j', o2, g2, b2, e2, rfl⟩ := back h2 bj
    rw [r.inj i' j' o1 o2 g1 g2 b1 b2 (by rw [← e1, ← e2]; exact e)]
theorem AWP.move (id : Nat) {ob : Ob} {cd : Code} {K : AX → St → Prop} (h : s.heap[id]? = some ob) (h' : AWP P cd (s.move id ob) K) : AWP P cd s K :=
  AWP.weaken (fun B I0 w0 hG c a as w r => ⟨_, r.move h⟩) h'
end

/-! ### for simp -/
@[simp] theorem move_is (c : Fr) (r : List Fr) (h : List Ob) (id : Nat) (ob : Ob) : St.move id ob ⟨c, r, h⟩ = ⟨c.mapA (At.ren id h.length), r.map (Fr.mapA (At.ren id h.length)), (h.map (Ob.mapA (At.ren id h.length))).set id .gone ++ [ob.mapA (At.ren id h.length)]⟩ := rfl
@[simp] theorem ren_d (id n : Nat) (x : D) : At.ren id n (.d x) = .d x := rfl
@[simp] theorem ren_ref (id n i o : Nat) : At.ren id n (.ref i o) = .ref (rn id n i) o := rfl
@[simp] theorem ren_row (id n i o : Nat) : At.ren id n (.row i o) = .row (rn id n i) o := rfl
@[simp] theorem ren_sd (id n i o : Nat) : At.ren id n (.sd i o) = .sd (rn id n i) o := rfl
@[simp] theorem ren_el (id n i sz p q : Nat) : At.ren id n (.el i sz p q) = .el (rn id n i) sz p q := rfl
@[simp] theorem ren_fel (id n m : Nat) (g : Nat → D) : At.ren id n (.fel m g) = .fel m g := rfl
@[simp] theorem ren_mp (id n i : Nat) : At.ren id n (.mp i) = .mp (rn id n i) := rfl
@[simp] theorem ren_clo (id n i : Nat) : At.ren id n (.clo i) = .clo (rn id n i) := rfl
@[simp] theorem ren_yld (id n i : Nat) : At.ren id n (.yld i) = .yld (rn id n i) := rfl
@[simp] theorem ren_mref (id n i o : Nat) : At.ren id n (.mref i o) = .mref (rn id n i) o := rfl
@[simp] theorem ren_emp (id n : Nat) : At.ren id n .emp = .emp := rfl
@[simp] theorem ren_unk (id n : Nat) : At.ren id n .unk = .unk := rfl
@[simp] theorem rn_is (id n i : Nat) : rn id n i = if i = id then n else i := rfl
end Go.Proofs.Vl
