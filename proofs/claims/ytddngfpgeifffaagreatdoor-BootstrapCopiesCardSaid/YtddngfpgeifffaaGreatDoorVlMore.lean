/- A part of the proof: More. -/
import Derived.Test.YtddngfpgeifffaaGreatDoorVlRange
import Derived.Test.YtddngfpgeifffaaGreatDoorVlShow
set_option linter.unusedVariables false
set_option linter.unusedSimpArgs false
/- A small logic of abstract values: what is known is said otherwise: nil slices as rows, rows as data. -/
namespace Go.Proofs.Vl
open Go Go.RowKit

def V.mapA (f : At → At) : V → V
  | .c g xs => .c g (xs.map f)
  | .tup ys => .tup (ys.map fun p => (p.1, p.2.map f))
def Fr.mapA (f : At → At) (fr : Fr) : Fr := ⟨fr.nt, fr.tl.map fun p => (p.1, p.2.mapA f)⟩
def Ob.mapA (f : At → At) : Ob → Ob
  | .cells e xs => .cells e (xs.map f)
  | .clo fn first cap => .clo fn (first.map fun p => (p.1, p.2.map f)) (cap.map fun p => (p.1, p.2.map f))
  | .lp l nt tl ps asg body busy pend => .lp l nt (tl.map fun p => (p.1, p.2.mapA f)) ps asg body busy pend
  | o => o
def partsA (f : At → At) (l : List (Bool × List At)) : List (Bool × List At) := l.map fun p => (p.1, p.2.map f)

/-- A row becomes data. -/
def At.frz (id sz : Nat) (get : Nat → Nat → D) : At → At
  | .row i m => if i = id then .d (.sl m sz get) else .row i m
  | .el i sz a b => if i = id then .unk else .el i sz a b
  | .sd i m => if i = id then .unk else .sd i m
  | .ref i o => if i = id then .unk else .ref i o
  | .mp i => if i = id then .unk else .mp i
  | .clo i => if i = id then .unk else .clo i
  | .yld i => if i = id then .unk else .yld i
  | .mref i o => if i = id then .unk else .mref i o
  | x => x
def St.freeze (s : St) (id sz : Nat) (get : Nat → Nat → D) : St := ⟨s.cur.mapA (At.frz id sz get), s.rest.map (Fr.mapA (At.frz id sz get)), (s.heap.map (Ob.mapA (At.frz id sz get))).set id .gone⟩

section
variable {P : Program} {B : Nat} {I0 : Nat → Nat → Prop} {w0 w : World} {c : Cx} {s : St} {a : Act} {as : List Act}

theorem AWP.weaken {s s' : St} {cd : Code} {K : AX → St → Prop} (h : ∀ B I0 w0, GlobOk P B w0 → ∀ c a as w, Rel B I0 w0 c s a as w → ∃ c', Rel B I0 w0 c' s' a as w) (h' : AWP P cd s' K) : AWP P cd s K :=
  fun rd hrd B I0 w0 hG c a as w r => let ⟨c', r'⟩ := h B I0 w0 hG c a as w r; h' rd hrd B I0 w0 hG c' a as w r'
theorem ACall.weaken {s s' : St} {g : FuncId} {ps ps' : List (Bool × List At)} {k x : V → St → Prop}
    (h : ∀ B I0 w0, GlobOk P B w0 → ∀ c a as w, Rel B I0 w0 c s a as w → ∃ c', Rel B I0 w0 c' s' a as w ∧ ∀ vs, All2 (PRep (imm B I0 c s.heap w) w s.heap c) ps vs → All2 (PRep (imm B I0 c' s'.heap w) w s'.heap c') ps' vs) (h' : ACall P g ps' s' k x) : ACall P g ps s k x :=
  fun B I0 w0 hG c a as w vs r hv => let ⟨c', r', hp⟩ := h B I0 w0 hG c a as w r; h' B I0 w0 hG c' a as w vs r' (hp _ hv)

/-! ### nil slices as rows -/
def Cx.newNil (c : Cx) (id : Nat) : Cx := { c with κ := fun i => if i = id then none else c.κ i }
theorem Rel.addNil (r : Rel B I0 w0 c s a as w) (e sz : Nat) (get : Nat → Nat → D) :
    Step (fun _ => True) (imm B I0 c s.heap w) w s.heap c (imm B I0 (c.newNil s.heap.length) (s.heap ++ [Ob.row e sz 0 get 0]) w) w (s.heap ++ [Ob.row e sz 0 get 0]) (c.newNil s.heap.length) ∧
    Rel B I0 w0 (c.newNil s.heap.length) { s with heap := s.heap ++ [Ob.row e sz 0 get 0] } a as w := by
  have hi : ∀ b o, imm B I0 c s.heap w b o → imm B I0 (c.newNil s.heap.length) (s.heap ++ [Ob.row e sz 0 get 0]) w b o := by
    rintro b o (h | ⟨h1, h2, h3⟩)
    · exact .inl h
    · refine .inr ⟨h1, h2, fun id ob hob hb hρ => ?_⟩
      rcases getElem?_snoc hob with ⟨hlt, hx⟩ | ⟨e1, rfl⟩
      · have : ¬ id = s.heap.length := by omega
        simp only [Cx.newNil, if_neg this] at hb
        exact h3 id ob hx hb hρ
      · subst e1
        simp [Cx.newNil, Ob.blk] at hb
  have hs : Step (fun _ => True) (imm B I0 c s.heap w) w s.heap c (imm B I0 (c.newNil s.heap.length) (s.heap ++ [Ob.row e sz 0 get 0]) w) w (s.heap ++ [Ob.row e sz 0 get 0]) (c.newNil s.heap.length) :=
    ⟨fun b o h => ⟨hi b o h, rfl⟩, fun id hid _ => ⟨by simp; omega, by rw [obLen_snoc _ _ _ hid]; exact Nat.le_refl _, rfl, by simp only [Cx.newNil]; rw [if_neg (by omega)], rfl⟩⟩
  refine ⟨hs, r.step hs r.below r.size (fun _ h => h) (fun id ob h => ?_) (fun i j oi oj hi hj bi bj e => ?_)⟩
  · rcases getElem?_snoc h with ⟨hid, hx⟩ | ⟨rfl, rfl⟩
    · exact ObRep.mono hs hid trivial (Ob.fits_all _) (fun _ => rfl) (r.obs id ob hx)
    · exact ⟨Nat.zero_le _, by simp [Cx.newNil, Cx.cap], fun k hk => by simp [Cx.newNil] at hk⟩
  · rcases getElem?_snoc hi with ⟨h1, hi2⟩ | ⟨e1, rfl⟩
    · rcases getElem?_snoc hj with ⟨h2, hj2⟩ | ⟨e2, rfl⟩
      · have n1 : ¬ i = s.heap.length := by omega
        have n2 : ¬ j = s.heap.length := by omega
        simp only [Cx.newNil, if_neg n1] at bi
        simp only [Cx.newNil, if_neg n2] at bj
        exact r.inj i j oi oj hi2 hj2 bi bj e
      · subst e2; simp [Cx.newNil, Ob.blk] at bj
    · subst e1; simp [Cx.newNil, Ob.blk] at bi
theorem nil_row (H : List Ob) (c : Cx) (I : Nat → Nat → Prop) (w : World) (e sz : Nat) (get : Nat → Nat → D) : AtRep I w (H ++ [.row e sz 0 get 0]) (c.newNil H.length) (.row H.length 0) (.slice none 0 0) :=
  ⟨by simp, Nat.zero_le _, by simp [Cx.newNil, Cx.ad, Cx.cap]⟩

/-- A slot's value said otherwise. -/
theorem Rel.setSlot (r : Rel B I0 w0 c s a as w) (t : Nat) (v : V) (ht : t < s.cur.nt) (hv : VRep (imm B I0 c s.heap w) w s.heap c v (a.tmps.getD t undef)) : Rel B I0 w0 c { s with cur := s.cur.set t v } a as w := by
  refine ⟨r.below, r.size, r.obs, r.inj, ⟨r.cur.1, fun u => ?_⟩, r.rest, r.marks⟩
  simp only [Fr.get, Fr.set, vlook_set]
  split
  · rename_i e; subst e; exact hv
  · exact r.cur.2 u
/-- A slot's nil slice as a row. -/
theorem AWP.adopt (t e sz : Nat) (get : Nat → Nat → D) {cd : Code} {K : AX → St → Prop} (ht : t < s.cur.nt) (hn : s.cur.get t = .c false [.d (.raw (.slice none 0 0))])
    (h : AWP P cd ⟨s.cur.set t (.a (.row s.heap.length 0)), s.rest, s.heap ++ [Ob.row e sz 0 get 0]⟩ K) : AWP P cd s K := by
  refine AWP.weaken (fun B I0 w0 hG c a as w r => ?_) h
  obtain ⟨_, r1⟩ := r.addNil e sz get
  have hv := r.cur.2 t
  rw [hn] at hv
  obtain ⟨ev, _⟩ := hv
  exact ⟨_, r1.setSlot t (.a (.row s.heap.length 0)) ht (by rw [ev]; exact nil_row s.heap c (imm B I0 (c.newNil s.heap.length) (s.heap ++ [Ob.row e sz 0 get 0]) w) w e sz get)⟩

/-! ### cells said otherwise -/
theorem Rel.setAbs (r : Rel B I0 w0 c s a as w) {id e : Nat} {xs ys : List At} (h : s.heap[id]? = some (.cells e xs)) (hy : ∀ cur, w.heap[c.ρ id]? = some (.cells cur e (0, 0)) → All2 (AtRep (imm B I0 c s.heap w) w s.heap c) xs cur.toList → All2 (AtRep (imm B I0 c s.heap w) w s.heap c) ys cur.toList) :
    Step (fun _ => True) (imm B I0 c s.heap w) w s.heap c (imm B I0 c (s.heap.set id (.cells e ys)) w) w (s.heap.set id (.cells e ys)) c ∧ Rel B I0 w0 c { s with heap := s.heap.set id (.cells e ys) } a as w := by
  have hlt := (List.getElem?_eq_some_iff.1 h).1
  have key : ∀ (i : Nat) (o : Ob), (s.heap.set id (.cells e ys))[i]? = some o → ∃ o' : Ob, s.heap[i]? = some o' ∧ o.fzc = o'.fzc ∧ ∀ k, o.blk k = o'.blk k := by
    intro i o ho
    by_cases hi : i = id
    · subst hi
      rw [List.getElem?_set_self hlt] at ho
      simp at ho; subst ho
      exact ⟨_, h, rfl, fun _ => rfl⟩
    · rw [List.getElem?_set_ne (by omega)] at ho
      exact ⟨o, ho, rfl, fun _ => rfl⟩
  have hi : ∀ b o, imm B I0 c s.heap w b o → imm B I0 c (s.heap.set id (.cells e ys)) w b o := by
    rintro b o (h' | ⟨h1, h2, h3⟩)
    · exact .inl h'
    · refine .inr ⟨h1, h2, fun i ob hob hb hρ => ?_⟩
      obtain ⟨o', g1, g2, g3⟩ := key i ob hob
      rw [g2]; exact h3 i o' g1 (by rw [← g3]; exact hb) hρ
  have hs : Step (fun _ => True) (imm B I0 c s.heap w) w s.heap c (imm B I0 c (s.heap.set id (.cells e ys)) w) w (s.heap.set id (.cells e ys)) c :=
    ⟨fun b o h => ⟨hi b o h, rfl⟩, fun i hi _ => ⟨by simpa using hi, obLen_set _ _ _ _ _ h (Nat.le_refl _), rfl, rfl, rfl⟩⟩
  refine ⟨hs, r.step hs r.below r.size (fun _ h => h) (fun i ob ho => ?_) (fun i j oi oj hi hj bi bj e => ?_)⟩
  · by_cases hi' : i = id
    · subst hi'
      rw [List.getElem?_set_self hlt] at ho
      simp at ho; subst ho
      obtain ⟨hB, cur, hc, ha, h1⟩ := r.obs i _ h
      exact ⟨hB, cur, hc, (hy _ hc ha).imp fun x v h => AtRep.mono hs (At.fits_all x) h, h1⟩
    · rw [List.getElem?_set_ne (by omega)] at ho
      exact ObRep.mono hs (List.getElem?_eq_some_iff.1 ho).1 trivial (Ob.fits_all _) (fun _ => rfl) (r.obs i ob ho)
  · obtain ⟨o1, g1, _, g3⟩ := key i oi hi
    obtain ⟨o2, k1, _, k3⟩ := key j oj hj
    exact r.inj i j o1 o2 g1 k1 (by rw [← g3]; exact bi) (by rw [← k3]; exact bj) e
theorem All2.set_same {α β : Type} {R : α → β → Prop} {y : α} : ∀ {l : List α} {m : List β} (i : Nat), All2 R l m → (∀ v, m[i]? = some v → R y v) → All2 R (l.set i y) m
  | [], [], i, _, _ => by cases i <;> exact trivial
  | x :: l, v :: m, 0, ⟨h1, h2⟩, h => ⟨h v rfl, h2⟩
  | x :: l, v :: m, i + 1, ⟨h1, h2⟩, h => ⟨h1, All2.set_same i h2 fun u hu => h u (by simpa using hu)⟩
/-- A cell's nil slice as a row. -/
theorem Rel.adoptCell (r : Rel B I0 w0 c s a as w) {id e : Nat} {xs : List At} (i : Nat) (e' sz : Nat) (get : Nat → Nat → D) (h : s.heap[id]? = some (.cells e xs)) (hn : xs[i]? = some (.d (.raw (.slice none 0 0)))) :
    ∃ c', Step (fun _ => True) (imm B I0 c s.heap w) w s.heap c (imm B I0 c' ((s.heap ++ [Ob.row e' sz 0 get 0]).set id (.cells e (xs.set i (.row s.heap.length 0)))) w) w ((s.heap ++ [Ob.row e' sz 0 get 0]).set id (.cells e (xs.set i (.row s.heap.length 0)))) c' ∧
      Rel B I0 w0 c' { s with heap := (s.heap ++ [Ob.row e' sz 0 get 0]).set id (.cells e (xs.set i (.row s.heap.length 0))) } a as w := by
  obtain ⟨s1, r1⟩ := r.addNil e' sz get
  have hlt := (List.getElem?_eq_some_iff.1 h).1
  have h1 : (s.heap ++ [Ob.row e' sz 0 get 0])[id]? = some (.cells e xs) := by rw [List.getElem?_append_left hlt]; exact h
  obtain ⟨s2, r2⟩ := r1.setAbs (ys := xs.set i (.row s.heap.length 0)) h1 (fun cur _ hv => hv.set_same i fun v hv' => by
    obtain ⟨v', hv1, hv2⟩ := hv.get hn
    rw [hv'] at hv1
    simp at hv1
    subst hv1
    obtain ⟨rfl, _⟩ := hv2
    exact nil_row s.heap c (imm B I0 (c.newNil s.heap.length) (s.heap ++ [Ob.row e' sz 0 get 0]) w) w e' sz get)
  refine ⟨_, ⟨fun b o hb => ?_, fun id' hid _ => ?_⟩, r2⟩
  · exact ⟨(s2.d b o (s1.d b o hb).1).1, rfl⟩
  · obtain ⟨g1, g2, g3, g4, g5⟩ := s1.ob id' hid trivial
    obtain ⟨k1, k2, k3, k4, k5⟩ := s2.ob id' g1 trivial
    exact ⟨k1, Nat.le_trans g2 k2, k3.trans g3, k4.trans g4, k5.trans g5⟩
theorem AWP.adoptCell (id i e' sz : Nat) (get : Nat → Nat → D) {e : Nat} {xs : List At} {cd : Code} {K : AX → St → Prop} (h : s.heap[id]? = some (.cells e xs)) (hn : xs[i]? = some (.d (.raw (.slice none 0 0))))
    (h' : AWP P cd { s with heap := (s.heap ++ [Ob.row e' sz 0 get 0]).set id (.cells e (xs.set i (.row s.heap.length 0))) } K) : AWP P cd s K :=
  AWP.weaken (fun B I0 w0 hG c a as w r => let ⟨c', _, r'⟩ := r.adoptCell i e' sz get h hn; ⟨c', r'⟩) h'

/-- A pointer that is nil or the own address: either way. -/
theorem ACall.splitRef {id e i j off : Nat} {xs : List At} {g : FuncId} {ps : List (Bool × List At)} {k x : V → St → Prop} (h : s.heap[id]? = some (.cells e xs)) (hx : xs[i]? = some (.mref j off))
    (h1 : ACall P g ps { s with heap := s.heap.set id (.cells e (xs.set i (.d (.raw (.pointer none))))) } k x)
    (h2 : ACall P g ps { s with heap := s.heap.set id (.cells e (xs.set i (.ref j off))) } k x) : ACall P g ps s k x := by
  intro B I0 w0 hG c a as w vs r hv
  obtain ⟨hB, cur, hc, ha, _⟩ := r.obs id _ h
  obtain ⟨v, hv1, hj, hv2⟩ := ha.get hx
  have go : ∀ y : At, AtRep (imm B I0 c s.heap w) w s.heap c y v → ACall P g ps { s with heap := s.heap.set id (.cells e (xs.set i y)) } k x → Calls P g vs w fun e w' =>
      (∃ u v s' c', e = .returned u ∧ Rel B I0 w0 c' s' a as w' ∧ VRep (imm B I0 c' s'.heap w') w' s'.heap c' v u ∧ k v s') ∨
      (∃ u v s' c', e = .panicked [{ v := u, recovered := false }] ∧ Rel B I0 w0 c' s' a as w' ∧ VRep (imm B I0 c' s'.heap w') w' s'.heap c' v u ∧ x v s') := by
    intro y hy hcall
    obtain ⟨s1, r1⟩ := r.setAbs (ys := xs.set i y) h (fun cur' hc' hv => hv.set_same i fun u hu => by
      rw [hc] at hc'; simp at hc'; subst hc'
      rw [hv1] at hu; simp at hu; subst hu; exact hy)
    exact hcall B I0 w0 hG c a as w vs r1 (hv.imp fun p v hp => CRep.mono s1 (fun x _ => At.fits_all x) hp)
  rcases hv2 with rfl | rfl
  · exact go (.d (.raw (.pointer none))) ⟨rfl, rfl⟩ h1
  · exact go (.ref j off) ⟨hj, rfl⟩ h2
/-- What the call leaves is said with less. -/
theorem ACall.weakRef {id e i j off : Nat} {g : FuncId} {ps : List (Bool × List At)} {k x : V → St → Prop}
    (h : ACall P g ps s (fun v s1 => ∃ xs, s1.heap[id]? = some (.cells e xs) ∧ xs[i]? = some (.ref j off) ∧ k v { s1 with heap := s1.heap.set id (.cells e (xs.set i (.mref j off))) }) x) : ACall P g ps s k x := by
  intro B I0 w0 hG c a as w vs r hv
  refine (h B I0 w0 hG c a as w vs r hv).mono fun e w' hh => ?_
  rcases hh with ⟨u, v, s', c', rfl, r', hvv, xs, h1, h2, hk⟩ | hh
  · obtain ⟨st, r2⟩ := r'.setAbs (ys := xs.set i (.mref j off)) h1 (fun cur hc hv => hv.set_same i fun u hu => by
      obtain ⟨v', g1, g2⟩ := hv.get h2
      rw [hu] at g1; simp at g1; subst g1
      exact ⟨g2.1, .inr g2.2⟩)
    exact .inl ⟨u, v, _, c', rfl, r2, VRep.mono st (V.fits_all v) hvv, hk⟩
  · exact .inr hh
theorem set_same {α : Type} {l : List α} {i : Nat} {x : α} (h : l[i]? = some x) : l.set i x = l := by
  obtain ⟨hi, rfl⟩ := List.getElem?_eq_some_iff.1 h
  exact List.set_getElem_self hi

/-- A fresh builder: its address is nil or its own, its bytes are a row. -/
theorem AWP.adoptB (id : Nat) {cd : Code} {K : AX → St → Prop} {e e5 : Nat} (h : s.heap[id]? = some (.cells e [.d (.raw (.pointer none)), .d (.raw (.slice none 0 0))]))
    (h' : AWP P cd { s with heap := (s.heap ++ [Ob.row e5 1 0 nilD 0]).set id (.cells e [.mref id 0, .row s.heap.length 0]) } K) : AWP P cd s K := by
  refine AWP.weaken (fun B I0 w0 hG c a as w r => ?_) h'
  have hlt := (List.getElem?_eq_some_iff.1 h).1
  obtain ⟨c', _, r'⟩ := r.adoptCell (xs := [.d (.raw (.pointer none)), .d (.raw (.slice none 0 0))]) 1 e5 1 nilD h rfl
  have hid : ((s.heap ++ [Ob.row e5 1 0 nilD 0]).set id (.cells e [.d (.raw (.pointer none)), .row s.heap.length 0]))[id]? = some (.cells e [.d (.raw (.pointer none)), .row s.heap.length 0]) := List.getElem?_set_self (by simp; omega)
  obtain ⟨_, r2⟩ := r'.setAbs (ys := [.mref id 0, .row s.heap.length 0]) hid (fun cur _ hv => by
    match hc : cur.toList, hv with
    | [p, q], ⟨h1, h2, _⟩ =>
      obtain ⟨rfl, _⟩ := h1
      exact ⟨⟨by simp; omega, .inl rfl⟩, h2, trivial⟩)
  refine ⟨c', ?_⟩
  simpa [List.set_set] using r2

/-! ### rows as data -/
theorem CRep.mapA {I I' : Nat → Nat → Prop} {w w' : World} {H H' : List Ob} {c c' : Cx} {f : At → At} (hf : ∀ x v, AtRep I w H c x v → AtRep I' w' H' c' (f x) v) {g : Bool} {xs : List At} {v : Value} (h : CRep I w H c g xs v) : CRep I' w' H' c' g (xs.map f) v := by
  cases g with
  | true => obtain ⟨cs, e, hc⟩ := h; exact ⟨cs, e, All2.map_left (hc.imp fun x v h => hf x v h)⟩
  | false =>
    match xs, h with
    | [x], h => exact hf x v h
    | [], h => exact h
    | _ :: _ :: _, h => exact h
theorem VRep.mapA {I I' : Nat → Nat → Prop} {w w' : World} {H H' : List Ob} {c c' : Cx} {f : At → At} (hf : ∀ x v, AtRep I w H c x v → AtRep I' w' H' c' (f x) v) {x : V} {v : Value} (h : VRep I w H c x v) : VRep I' w' H' c' (x.mapA f) v := by
  cases x with
  | c g xs => exact CRep.mapA hf h
  | tup ys => obtain ⟨vs, e, hc⟩ := h; exact ⟨vs, e, All2.map_left (hc.imp fun p v h => CRep.mapA hf h)⟩
theorem FRep.mapA {I I' : Nat → Nat → Prop} {w w' : World} {H H' : List Ob} {c c' : Cx} {f : At → At} (hf : ∀ x v, AtRep I w H c x v → AtRep I' w' H' c' (f x) v) (hu : f .unk = .unk) {fr : Fr} {tmps : Array Value} (h : FRep I w H c fr tmps) : FRep I' w' H' c' (fr.mapA f) tmps :=
  ⟨h.1, fun t => by
    show VRep _ _ _ _ (vlook (fr.tl.map fun p => (p.1, p.2.mapA f)) t) _
    rw [vlook_map' (V.mapA f) (by simp [V.mapA, V.unk, hu])]
    exact VRep.mapA hf (h.2 t)⟩
theorem Ob.blk_mapA (f : At → At) (k : Option Nat) (o : Ob) : (o.mapA f).blk k = o.blk k := by cases o <;> rfl
theorem Ob.fzc_mapA (f : At → At) (o : Ob) : (o.mapA f).fzc = o.fzc := by cases o <;> rfl
theorem Ob.len_mapA (f : At → At) (o : Ob) : (o.mapA f).len = o.len := by cases o <;> rfl

theorem freeze_get {id sz : Nat} {get : Nat → Nat → D} {i : Nat} {o : Ob} (h : (s.freeze id sz get).heap[i]? = some o) : (i = id ∧ o = .gone) ∨ (i ≠ id ∧ ∃ o', s.heap[i]? = some o' ∧ o = o'.mapA (At.frz id sz get)) := by
  simp only [St.freeze] at h
  by_cases hi : i = id
  · subst hi
    rw [List.getElem?_set] at h
    rw [if_pos rfl] at h
    split at h
    · simp at h; exact .inl ⟨rfl, h.symm⟩
    · cases h
  · rw [List.getElem?_set_ne (by omega), List.getElem?_map, Option.map_eq_some_iff] at h
    obtain ⟨o', h1, h2⟩ := h
    exact .inr ⟨hi, o', h1, h2.symm⟩

theorem Rel.freeze (r : Rel B I0 w0 c s a as w) {id e sz n fz : Nat} {get : Nat → Nat → D} (h : s.heap[id]? = some (.row e sz n get fz)) :
    Rel B I0 w0 c (s.freeze id sz get) a as w ∧ ∀ x v, AtRep (imm B I0 c s.heap w) w s.heap c x v → AtRep (imm B I0 c (s.freeze id sz get).heap w) w (s.freeze id sz get).heap c (x.frz id sz get) v := by
  have hid := (List.getElem?_eq_some_iff.1 h).1
  have hi : ∀ b o, imm B I0 c s.heap w b o → imm B I0 c (s.freeze id sz get).heap w b o := by
    rintro b o (h' | ⟨h1, h2, h3⟩)
    · exact .inl h'
    · refine .inr ⟨h1, h2, fun i ob hob hb hρ => ?_⟩
      rcases freeze_get hob with ⟨_, rfl⟩ | ⟨_, o', g1, rfl⟩
      · cases hb
      · rw [Ob.fzc_mapA]; rw [Ob.blk_mapA] at hb; exact h3 i o' g1 hb hρ
  have hd : ∀ b o, imm B I0 c s.heap w b o → imm B I0 c (s.freeze id sz get).heap w b o ∧ w.cell? ⟨b, o, none⟩ = w.cell? ⟨b, o, none⟩ := fun b o h => ⟨hi b o h, rfl⟩
  have hlen : (s.freeze id sz get).heap.length = s.heap.length := by simp [St.freeze]
  have hobl : ∀ i, i ≠ id → obLen (s.freeze id sz get).heap i = obLen s.heap i := fun i hne => by
    unfold obLen
    simp only [St.freeze]
    rw [List.getElem?_set_ne (by omega), List.getElem?_map]
    cases s.heap[i]? <;> simp [Ob.len_mapA]
  obtain ⟨hcap, hmx, hr0⟩ := r.obs id _ h
  have hf : ∀ x v, AtRep (imm B I0 c s.heap w) w s.heap c x v → AtRep (imm B I0 c (s.freeze id sz get).heap w) w (s.freeze id sz get).heap c (x.frz id sz get) v := by
    intro x v hx
    cases x with
    | d x => exact D.Rep.mono hd x hx
    | row i m =>
      obtain ⟨g1, g2, rfl⟩ := hx
      simp only [At.frz]
      split
      · rename_i e0
        subst e0
        have hm : m ≤ n := by simpa [obLen, h, Ob.len] using g2
        refine ⟨_, _, rfl, Nat.le_trans hm hcap, hmx, fun hm0 => ?_⟩
        obtain ⟨k, hk, _⟩ := cap_lt (c := c) (id := i) (i := 0) (by omega)
        obtain ⟨hB, cur, hc, hsz, hg⟩ := hr0 k hk
        refine ⟨c.ρ i, 0, ad_some hk, fun q hq j hj => ?_⟩
        obtain ⟨x, hx, hxr⟩ := hg q (by omega) j hj
        refine ⟨.inr ⟨hB, r.ρ_lt h (row_blk hk), fun i' ob hob hb hρ => ?_⟩, x, ?_, D.Rep.mono hd _ hxr⟩
        · rcases freeze_get hob with ⟨_, rfl⟩ | ⟨hne, o', g1, rfl⟩
          · cases hb
          · rw [Ob.blk_mapA] at hb
            exact absurd (r.inj i' i o' _ g1 h hb (row_blk hk) hρ) hne
        · rw [Nat.zero_add]; simp [World.cell?, hc, hx]
      · rename_i hne; exact ⟨by rw [hlen]; exact g1, by rw [hobl i hne]; exact g2, rfl⟩
    | ref i o => obtain ⟨h1, h2⟩ := hx; simp only [At.frz]; split; (trivial); exact ⟨by rw [hlen]; exact h1, h2⟩
    | el i sz p q => obtain ⟨h1, h2⟩ := hx; simp only [At.frz]; split; (trivial); exact ⟨by rw [hlen]; exact h1, h2⟩
    | fel m gt =>
      obtain ⟨b, o, e1, hc⟩ := hx
      exact ⟨b, o, e1, fun j hj => by obtain ⟨h1, x, h2, h3⟩ := hc j hj; exact ⟨hi _ _ h1, x, h2, D.Rep.mono hd _ h3⟩⟩
    | emp => exact hx
    | sd i m => obtain ⟨h1, h2⟩ := hx; simp only [At.frz]; split; (trivial); exact ⟨by rw [hlen]; exact h1, h2⟩
    | mp i => obtain ⟨h1, h2⟩ := hx; simp only [At.frz]; split; (trivial); exact ⟨by rw [hlen]; exact h1, h2⟩
    | clo i => obtain ⟨h1, h2⟩ := hx; simp only [At.frz]; split; (trivial); exact ⟨by rw [hlen]; exact h1, h2⟩
    | yld i => obtain ⟨h1, h2⟩ := hx; simp only [At.frz]; split; (trivial); exact ⟨by rw [hlen]; exact h1, h2⟩
    | mref i o => obtain ⟨h1, h2⟩ := hx; simp only [At.frz]; split; (trivial); exact ⟨by rw [hlen]; exact h1, h2⟩
    | unk => trivial
  refine ⟨⟨r.below, r.size, fun i o ho => ?_, fun i j oi oj h1 h2 bi bj e => ?_, FRep.mapA hf rfl r.cur, All2.map_left (r.rest.imp fun f a' h => FRep.mapA hf rfl h), r.marks⟩, hf⟩
  · rcases freeze_get ho with ⟨_, rfl⟩ | ⟨hne, o', g1, rfl⟩
    · trivial
    · have hr := r.obs i o' g1
      cases o' with
      | cells e xs => obtain ⟨hB, cur, hc, ha, h1⟩ := hr; exact ⟨hB, cur, hc, All2.map_left (ha.imp fun x v h => hf x v h), h1⟩
      | row e' sz' m gt fz' =>
        obtain ⟨g2, g3, g4⟩ := hr
        exact ⟨g2, g3, fun k hk => by
          obtain ⟨hB, cur, hc, h1, hg⟩ := g4 k hk
          exact ⟨hB, cur, hc, h1, fun q hq j hj => by obtain ⟨x, hx, hxr⟩ := hg q hq j hj; exact ⟨x, hx, D.Rep.mono hd _ hxr⟩⟩⟩
      | clo fn f cp => obtain ⟨fs, cs, hg, h1, h2⟩ := hr; exact ⟨fs, cs, hg, All2.map_left (h1.imp fun p v h => CRep.mapA hf h), All2.map_left (h2.imp fun p v h => CRep.mapA hf h)⟩
      | mp t kk l => obtain ⟨hB, es, clock, hc, ha⟩ := hr; exact ⟨hB, es, clock, hc, ha.imp fun p e ⟨h6, h7⟩ => ⟨h6, D.Rep.mono hd _ h7⟩⟩
      | lp l nt tl ps asg body busy pend =>
        obtain ⟨hB, hl, lr, hc, h6, h7, h8, h9, h10, h11⟩ := hr
        exact ⟨hB, hl, lr, hc, h6, h7, h8, h9, h10, FRep.mapA (fr := ⟨nt, tl⟩) hf rfl h11⟩
      | gone => trivial
  · rcases freeze_get h1 with ⟨_, rfl⟩ | ⟨_, o1, g1, rfl⟩
    · cases bi
    · rcases freeze_get h2 with ⟨_, rfl⟩ | ⟨_, o2, k1, rfl⟩
      · cases bj
      · rw [Ob.blk_mapA] at bi bj; exact r.inj i j o1 o2 g1 k1 bi bj e

theorem AWP.freeze (id : Nat) {e sz n fz : Nat} {get : Nat → Nat → D} {cd : Code} {K : AX → St → Prop} (h : s.heap[id]? = some (.row e sz n get fz)) (h' : AWP P cd (s.freeze id sz get) K) : AWP P cd s K :=
  AWP.weaken (fun B I0 w0 hG c a as w r => ⟨c, (r.freeze h).1⟩) h'
theorem ACall.freeze (id : Nat) {e sz n fz : Nat} {get : Nat → Nat → D} {g : FuncId} {ps : List (Bool × List At)} {k x : V → St → Prop} (h : s.heap[id]? = some (.row e sz n get fz))
    (h' : ACall P g (partsA (At.frz id sz get) ps) (s.freeze id sz get) k x) : ACall P g ps s k x :=
  ACall.weaken (fun B I0 w0 hG c a as w r => ⟨c, (r.freeze h).1, fun vs hv => All2.map_left (hv.imp fun p v hp => CRep.mapA (r.freeze h).2 hp)⟩) h'
end
end Go.Proofs.Vl
