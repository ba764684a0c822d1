/- A part of the proof: Pure. -/
import Derived.Test.YtddngfpgeifffaaGreatDoorVlDraw
set_option linter.unusedVariables false
set_option linter.unusedSimpArgs false
/- A small logic of abstract values: a region that draws its order and leaves memory alone. -/
namespace Go.Proofs.Vl
open Go Go.RowKit

def expect : List Oper → List V → (Nat → V) → Nat → V
  | o :: l, v :: vs, f, t => if o.dst = some t then v else expect l vs f t
  | _, _, f, t => f t
def operTmps : List Operand → List Nat
  | [] => []
  | .tmp t :: l => t :: operTmps l
  | _ :: l => operTmps l
def opTmps (o : Oper) : List Nat := operTmps o.op.operands.toList
def pureSteps (P : Program) (all : List Oper) (vals : List V) (s : St) : List Oper → List V → Prop
  | [], [] => True
  | o :: l, v :: vs => (∀ tl, (∀ t ∈ opTmps o, vlook tl t = expect all vals s.cur.get t) →
      evOps P all [o] ⟨⟨s.cur.nt, tl⟩, s.rest, s.heap⟩ (fun s' => s' = (⟨⟨s.cur.nt, tl⟩, s.rest, s.heap⟩ : St).set o.dst v) (fun _ _ => False)) ∧ pureSteps P all vals s l vs
  | _, _ => False
theorem pureSteps_nil {P : Program} {all : List Oper} {vals : List V} {s : St} : pureSteps P all vals s [] [] = True := rfl
theorem pureSteps_cons {P : Program} {all : List Oper} {vals : List V} {s : St} {o : Oper} {l : List Oper} {v : V} {vs : List V} : pureSteps P all vals s (o :: l) (v :: vs) = ((∀ tl, (∀ t ∈ opTmps o, vlook tl t = expect all vals s.cur.get t) →
      evOps P all [o] ⟨⟨s.cur.nt, tl⟩, s.rest, s.heap⟩ (fun s' => s' = (⟨⟨s.cur.nt, tl⟩, s.rest, s.heap⟩ : St).set o.dst v) (fun _ _ => False)) ∧ pureSteps P all vals s l vs) := rfl
def nodupD : List Oper → Bool
  | [] => true
  | o :: l => (match o.dst with | some t => l.all fun p => decide (p.dst ≠ some t) | none => true) && nodupD l
/-- Every operand that an operation of the region writes is waited for; what is waited for lies ahead. -/
def waitsOk (l : List Oper) : Bool :=
  (List.range l.length).all fun i => match l[i]? with
    | none => true
    | some o => o.after.toList.all (fun e => !Region.binds .any e || decide (e.on < i)) &&
      (opTmps o).all fun t => (List.range l.length).all fun j => match l[j]? with
        | none => true
        | some p => decide (p.dst ≠ some t) || o.after.toList.any fun e => Region.binds .any e && decide (e.on = j)
def pureOk (nt : Nat) (l : List Oper) : Bool := Region.noSelect ⟨l⟩ && l.all (dstOk nt) && noDefer l && nodupD l && waitsOk l && l.all (·.guard.isNone)

theorem expect_at : ∀ {l : List Oper} {vals : List V} {f : Nat → V} {i : Nat} {o : Oper} {v : V} {t : Nat}, nodupD l = true → l[i]? = some o → vals[i]? = some v → o.dst = some t → expect l vals f t = v
  | [], _, _, i, _, _, _, _, h, _, _ => by simp at h
  | p :: l, [], _, i, _, _, _, _, _, h, _ => by simp at h
  | p :: l, u :: vals, f, 0, o, v, t, hn, h1, h2, h3 => by
    simp at h1 h2
    subst h1; subst h2
    simp [expect, h3]
  | p :: l, u :: vals, f, i + 1, o, v, t, hn, h1, h2, h3 => by
    simp only [nodupD, Bool.and_eq_true] at hn
    simp at h1 h2
    have hp : p.dst ≠ some t := fun e => by
      have := hn.1
      rw [e] at this
      have := List.all_eq_true.1 this o (List.mem_of_getElem? h1)
      simp [h3] at this
    simp only [expect, if_neg hp]
    exact expect_at hn.2 h1 h2 h3
theorem pureSteps_at {P : Program} {all : List Oper} {vals : List V} {s : St} : ∀ {l : List Oper} {vs : List V} {i : Nat} {o : Oper}, pureSteps P all vals s l vs → l[i]? = some o → ∃ v, vs[i]? = some v ∧
    ∀ tl, (∀ t ∈ opTmps o, vlook tl t = expect all vals s.cur.get t) → evOps P all [o] ⟨⟨s.cur.nt, tl⟩, s.rest, s.heap⟩ (fun s' => s' = (⟨⟨s.cur.nt, tl⟩, s.rest, s.heap⟩ : St).set o.dst v) (fun _ _ => False)
  | [], _, i, o, _, h => by simp at h
  | _ :: _, [], i, o, h, _ => h.elim
  | p :: l, v :: vs, 0, o, h, ho => by simp at ho; subst ho; exact ⟨v, rfl, h.1⟩
  | p :: l, v :: vs, i + 1, o, h, ho => by
    simp at ho
    obtain ⟨u, h1, h2⟩ := pureSteps_at h.2 ho
    exact ⟨u, by simpa using h1, h2⟩

/-- As 'pureSteps'; the heap is a function of what is done. -/
def updB (f : Nat → Bool) (i : Nat) : Nat → Bool := fun j => if j = i then true else f j
def effSteps (P : Program) (all : List Oper) (vals : List V) (s : St) (hp : (Nat → Bool) → List Ob) : Nat → List Oper → List V → Prop
  | _, [], [] => True
  | i, o :: l, v :: vs => (∀ tl (f : Nat → Bool), f i = false → (∀ e ∈ o.after.toList, Region.binds .any e = true → f e.on = true) → (∀ (j : Nat) (p : Oper), f j = true → all[j]? = some p → ∀ e ∈ p.after.toList, Region.binds .any e = true → f e.on = true) →
      (∀ t ∈ opTmps o, vlook tl t = expect all vals s.cur.get t) →
      evOps P all [o] ⟨⟨s.cur.nt, tl⟩, s.rest, hp f⟩ (fun s' => s' = (⟨⟨s.cur.nt, tl⟩, s.rest, hp (updB f i)⟩ : St).set o.dst v) (fun _ _ => False)) ∧ effSteps P all vals s hp (i + 1) l vs
  | _, _, _ => False
theorem effSteps_nil {P : Program} {all : List Oper} {vals : List V} {s : St} {hp : (Nat → Bool) → List Ob} {i : Nat} : effSteps P all vals s hp i [] [] = True := rfl
theorem effSteps_cons {P : Program} {all : List Oper} {vals : List V} {s : St} {hp : (Nat → Bool) → List Ob} {i : Nat} {o : Oper} {l : List Oper} {v : V} {vs : List V} : effSteps P all vals s hp i (o :: l) (v :: vs) = ((∀ tl (f : Nat → Bool), f i = false → (∀ e ∈ o.after.toList, Region.binds .any e = true → f e.on = true) → (∀ (j : Nat) (p : Oper), f j = true → all[j]? = some p → ∀ e ∈ p.after.toList, Region.binds .any e = true → f e.on = true) →
      (∀ t ∈ opTmps o, vlook tl t = expect all vals s.cur.get t) →
      evOps P all [o] ⟨⟨s.cur.nt, tl⟩, s.rest, hp f⟩ (fun s' => s' = (⟨⟨s.cur.nt, tl⟩, s.rest, hp (updB f i)⟩ : St).set o.dst v) (fun _ _ => False)) ∧ effSteps P all vals s hp (i + 1) l vs) := rfl
theorem effSteps_at {P : Program} {all : List Oper} {vals : List V} {s : St} {hp : (Nat → Bool) → List Ob} : ∀ {l : List Oper} {vs : List V} {n i : Nat} {o : Oper}, effSteps P all vals s hp n l vs → l[i]? = some o → ∃ v, vs[i]? = some v ∧
    ∀ tl (f : Nat → Bool), f (n + i) = false → (∀ e ∈ o.after.toList, Region.binds .any e = true → f e.on = true) → (∀ (j : Nat) (p : Oper), f j = true → all[j]? = some p → ∀ e ∈ p.after.toList, Region.binds .any e = true → f e.on = true) →
      (∀ t ∈ opTmps o, vlook tl t = expect all vals s.cur.get t) →
      evOps P all [o] ⟨⟨s.cur.nt, tl⟩, s.rest, hp f⟩ (fun s' => s' = (⟨⟨s.cur.nt, tl⟩, s.rest, hp (updB f (n + i))⟩ : St).set o.dst v) (fun _ _ => False)
  | [], _, n, i, o, _, h => by simp at h
  | _ :: _, [], n, i, o, h, _ => h.elim
  | p :: l, v :: vs, n, 0, o, h, ho => by simp at ho; subst ho; exact ⟨v, rfl, h.1⟩
  | p :: l, v :: vs, n, i + 1, o, h, ho => by
    simp at ho
    obtain ⟨u, h1, h2⟩ := effSteps_at h.2 ho
    refine ⟨u, by simpa using h1, ?_⟩
    rw [show n + (i + 1) = n + 1 + i by omega]
    exact h2

section
variable {P : Program} {B : Nat} {I0 : Nat → Nat → Prop} {w0 : World} {s : St} {as : List Act}

theorem ready_spec {l : List Oper} {L : Array Bool} {i : Nat} (h : i ∈ Region.ready .any ⟨l⟩ L) : i < l.length ∧ L.getD i true = false ∧ ∃ o, l[i]? = some o ∧ ∀ e ∈ o.after.toList, Region.binds .any e = true → L.getD e.on false = true := by
  unfold Region.ready at h
  obtain ⟨h1, h2⟩ := List.mem_filter.1 h
  simp only [List.mem_range] at h1
  simp only [Bool.and_eq_true, Bool.not_eq_true'] at h2
  obtain ⟨h2, h3⟩ := h2
  have h1' : i < l.length := h1
  refine ⟨h1', h2, l[i], List.getElem?_eq_getElem h1', fun e he hb => ?_⟩
  have e0 : (⟨l⟩ : Array Oper)[i]? = some l[i] := by simp [h1']
  rw [e0] at h3
  simp only [Option.map_some, Option.getD_some] at h3
  have := Array.all_eq_true'.1 h3 e (by simpa using he)
  simpa [hb] using this
theorem ready_none {l : List Oper} {L : Array Bool} (hw : waitsOk l = true) (hs : L.size = l.length) (h : Region.ready .any ⟨l⟩ L = []) : ∀ i, i < l.length → L.getD i false = true := by
  intro i
  induction i using Nat.strongRecOn with
  | _ i ih =>
    intro hi
    refine Classical.byContradiction fun hc => ?_
    have hc' : L.getD i true = false := by
      have : i < L.size := by omega
      simp only [Array.getD_eq_getD_getElem?, Array.getElem?_eq_getElem this, Option.getD_some, Bool.not_eq_true] at hc ⊢
      exact hc
    have hm : i ∈ Region.ready .any ⟨l⟩ L := by
      unfold Region.ready
      refine List.mem_filter.2 ⟨by simpa using hi, ?_⟩
      have e0 : (⟨l⟩ : Array Oper)[i]? = some l[i] := by simp [hi]
      rw [e0]
      simp only [hc', Bool.not_false, Option.map_some, Option.getD_some, Bool.true_and]
      refine Array.all_eq_true'.2 fun e he => ?_
      have h1 := List.all_eq_true.1 hw i (by simpa using hi)
      rw [List.getElem?_eq_getElem hi] at h1
      simp only [Bool.and_eq_true] at h1
      have h2 := List.all_eq_true.1 h1.1 e (by simpa using he)
      simp only [Bool.or_eq_true, Bool.not_eq_true', decide_eq_true_eq] at h2
      rcases h2 with h2 | h2
      · simp [h2]
      · rw [ih _ h2 (by omega)]
        simp
    rw [h] at hm
    cases hm

/-- A region that draws its order, whose operations leave memory alone: each has its value, whenever it comes. -/
theorem ADraw.pure {id : Nat} {l : List Oper} {K : AX → St → Prop} (vals : List V) (hm : P.follows .mixedOrders = true) (hok : pureOk s.cur.nt l = true) (hstep : pureSteps P l vals s l vals)
    (hk : ∀ tl, (∀ t, vlook tl t = expect l vals s.cur.get t) → K .normal ⟨⟨s.cur.nt, tl⟩, s.rest, s.heap⟩) : ADraw P id ⟨l⟩ s K := by
  intro rd hrd B I0 w0 hG c a as w r
  simp only [pureOk, Bool.and_eq_true] at hok
  obtain ⟨⟨⟨⟨⟨h1, h3⟩, h4⟩, hnd⟩, hw⟩, hg⟩ := hok
  let Q : Exit → Act → World → Prop := fun e a' w' => match e with
    | .normal => ∃ (s' : St) (c' : Cx), Rel B I0 w0 c' s' a' as w' ∧ Kin a a' ∧ K .normal s'
    | _ => False
  have key : ∀ (n : Nat) (L : Array Bool) (s' : St) (c' : Cx) (a' : Act) (w' : World), Rel B I0 w0 c' s' a' as w' → Kin a a' → L.size = l.length → L.toList.countP (· == false) ≤ n →
      s'.cur.nt = s.cur.nt → s'.rest = s.rest → s'.heap = s.heap → (∀ t, (∀ j o, l[j]? = some o → o.dst = some t → L.getD j false = true) → s'.cur.get t = expect l vals s.cur.get t) →
      wpAnyIn (fen none) 0 P .any ⟨l⟩ Q n L a' w' := by
    intro n
    induction n with
    | zero =>
      intro L s' c' a' w' r' hs hL hc hn hr hh hT
      have hall : ∀ j, j < l.length → L.getD j false = true := by
        intro j hj
        have h0 : L.toList.countP (· == false) = 0 := by omega
        rw [List.countP_eq_zero] at h0
        have hj' : j < L.size := by omega
        have := h0 L[j] (by simp)
        simpa [Array.getD_eq_getD_getElem?, hj'] using this
      have hr0 : Region.ready .any ⟨l⟩ L = [] := by
        refine List.eq_nil_iff_forall_not_mem.2 fun i hi => ?_
        obtain ⟨h5, h6, _⟩ := ready_spec hi
        have h7 := hall i h5
        have : i < L.size := by omega
        simp only [Array.getD_eq_getD_getElem?, Array.getElem?_eq_getElem this, Option.getD_some] at h6 h7
        rw [h6] at h7; cases h7
      refine ⟨hr0, s', c', r', hs, ?_⟩
      have := hk s'.cur.tl fun t => hT t fun j o ho _ => hall j (List.getElem?_eq_some_iff.1 ho).1
      rw [← hn, ← hr, ← hh] at this
      exact this
    | succ n ih =>
      intro L s' c' a' w' r' hs hL hc hn hr hh hT
      refine ⟨fun h0 => ?_, fun i hi => ?_⟩
      · have hall := ready_none hw hL h0
        refine ⟨s', c', r', hs, ?_⟩
        have := hk s'.cur.tl fun t => hT t fun j o ho _ => hall j (List.getElem?_eq_some_iff.1 ho).1
        rw [← hn, ← hr, ← hh] at this
        exact this
      · obtain ⟨hil, hLi, o, ho, haft⟩ := ready_spec hi
        obtain ⟨v, hv, hst⟩ := pureSteps_at hstep ho
        have hwi := List.all_eq_true.1 hw i (by simpa using hil)
        rw [ho] at hwi
        simp only [Bool.and_eq_true] at hwi
        have hlook : ∀ t ∈ opTmps o, vlook s'.cur.tl t = expect l vals s.cur.get t := by
          intro t ht
          refine hT t fun j p hp hd => ?_
          have h5 := List.all_eq_true.1 (List.all_eq_true.1 hwi.2 t ht) j (by simpa using (List.getElem?_eq_some_iff.1 hp).1)
          rw [hp] at h5
          simp only [hd, ne_eq, not_true, decide_false, Bool.false_or] at h5
          obtain ⟨e, he, h6⟩ := List.any_eq_true.1 h5
          simp only [Bool.and_eq_true, decide_eq_true_eq] at h6
          rw [← h6.2]
          exact haft e he h6.1
        have hev := hst s'.cur.tl hlook
        rw [← hn, ← hr, ← hh] at hev
        have hd : dstOk s'.cur.nt o = true := by rw [hn]; exact List.all_eq_true.1 h3 o (List.mem_of_getElem? ho)
        have hLs : i < L.size := by omega
        refine wpOp_ev hG r' (by simpa using ho) hd hev (fun s2 c2 a2 w2 r2 hs2 hk2 => ?_) (fun v s2 c2 w2 u r2 hv2 hx2 => hx2.elim)
        subst hk2
        refine ih (L.setIfInBounds i true) _ c2 a2 w2 r2 (hs.trans hs2) (by simpa using hL) ?_ ?_ ?_ ?_ ?_
        · rw [Array.toList_setIfInBounds, List.countP_set (by simpa using hLs)]
          have h8 : L[i] = false := by simpa [Array.getD_eq_getD_getElem?, hLs] using hLi
          have h9 : 0 < L.toList.countP (· == false) := List.countP_pos_iff.2 ⟨L[i], by simp, by simp [h8]⟩
          have h10 : L.toList[i]'(by simpa using hLs) = false := by simpa using h8
          rw [h10]
          show L.toList.countP (· == false) - 1 + 0 ≤ n
          omega
        · rw [St.nt_set]; exact hn
        · cases o.dst <;> exact hr
        · cases o.dst <;> exact hh
        · intro t ht
          by_cases hdt : o.dst = some t
          · rw [expect_at hnd ho hv hdt, hdt]
            simp [St.set, Fr.set, Fr.get, vlook]
          · have hget : (St.set s' o.dst v).cur.get t = s'.cur.get t := by
              cases hod : o.dst with
              | none => rfl
              | some d =>
                have : d ≠ t := fun e => hdt (by rw [hod, e])
                simp [St.set, Fr.set, Fr.get, vlook, this]
            rw [show ({ cur := { nt := s'.cur.nt, tl := s'.cur.tl }, rest := s'.rest, heap := s'.heap } : St) = s' from rfl, hget]
            refine hT t fun j p hp hdp => ?_
            have hji : j ≠ i := fun e => by subst e; rw [ho] at hp; cases hp; exact hdt hdp
            have := ht j p hp hdp
            simp only [Array.getD_eq_getD_getElem?, Array.getElem?_setIfInBounds, if_neg (Ne.symm hji)] at this ⊢
            exact this
  have hwp : (Code.region id ⟨l⟩ true).wpIn (fen rd) 0 P Q a w := by
    refine wpIn_region_any hm (wpAnyIn_rd rd (noDefer_spec h4) _ _ _ _ ?_)
    have r1 : Rel B I0 w0 c s a as { w with drawn := w.drawn + 1 } := r.same rfl rfl rfl rfl
    refine key _ _ s c a _ r1 (Kin.refl a) (by simp) ?_ rfl rfl rfl fun t ht => ?_
    · refine Nat.le_trans (List.countP_le_length) (by simp)
    · have hnone : ∀ (l' : List Oper) (vs : List V), (∀ (j : Nat) (o : Oper), l'[j]? = some o → o.dst ≠ some t) → expect l' vs s.cur.get t = s.cur.get t := by
        intro l'
        induction l' with
        | nil => intro vs h; cases vs <;> rfl
        | cons p l' ih =>
          intro vs h
          cases vs with
          | nil => rfl
          | cons v vs =>
            have := h 0 p rfl
            simp only [expect, if_neg this]
            exact ih vs fun j o ho => h (j + 1) o (by simpa using ho)
      refine (hnone l vals fun j o ho hd => ?_).symm
      have := ht j o ho hd
      simp [Array.getD_eq_getD_getElem?] at this
      have hj := (List.getElem?_eq_some_iff.1 ho).1
      simp [hj] at this
  refine wpIn_mono hwp ?_
  intro e a' w' hq
  cases e with
  | normal => obtain ⟨s', c', h1, h2, h3⟩ := hq; exact ⟨.normal, s', c', trivial, h1, h2, h3⟩
  | _ => exact hq.elim
/-- A region that draws its order, the heap a function of what is done. -/
theorem ADraw.eff {id : Nat} {l : List Oper} {K : AX → St → Prop} (vals : List V) (hp : (Nat → Bool) → List Ob) (hp0 : hp (fun _ => false) = s.heap) (hpE : ∀ f, (∀ i, i < l.length → f i = true) → hp f = hp fun _ => true) (hm : P.follows .mixedOrders = true) (hok : pureOk s.cur.nt l = true) (hstep : effSteps P l vals s hp 0 l vals)
    (hk : ∀ tl, (∀ t, vlook tl t = expect l vals s.cur.get t) → K .normal ⟨⟨s.cur.nt, tl⟩, s.rest, hp fun _ => true⟩) : ADraw P id ⟨l⟩ s K := by
  intro rd hrd B I0 w0 hG c a as w r
  simp only [pureOk, Bool.and_eq_true] at hok
  obtain ⟨⟨⟨⟨⟨h1, h3⟩, h4⟩, hnd⟩, hw⟩, hg⟩ := hok
  let Q : Exit → Act → World → Prop := fun e a' w' => match e with
    | .normal => ∃ (s' : St) (c' : Cx), Rel B I0 w0 c' s' a' as w' ∧ Kin a a' ∧ K .normal s'
    | _ => False
  have key : ∀ (n : Nat) (L : Array Bool) (s' : St) (c' : Cx) (a' : Act) (w' : World), Rel B I0 w0 c' s' a' as w' → Kin a a' → L.size = l.length → L.toList.countP (· == false) ≤ n →
      s'.cur.nt = s.cur.nt → s'.rest = s.rest → s'.heap = hp (fun j => L.getD j false) → (∀ (j : Nat) (p : Oper), L.getD j false = true → l[j]? = some p → ∀ e ∈ p.after.toList, Region.binds .any e = true → L.getD e.on false = true) → (∀ t, (∀ j o, l[j]? = some o → o.dst = some t → L.getD j false = true) → s'.cur.get t = expect l vals s.cur.get t) →
      wpAnyIn (fen none) 0 P .any ⟨l⟩ Q n L a' w' := by
    intro n
    induction n with
    | zero =>
      intro L s' c' a' w' r' hs hL hc hn hr hh hcl hT
      have hall : ∀ j, j < l.length → L.getD j false = true := by
        intro j hj
        have h0 : L.toList.countP (· == false) = 0 := by omega
        rw [List.countP_eq_zero] at h0
        have hj' : j < L.size := by omega
        have := h0 L[j] (by simp)
        simpa [Array.getD_eq_getD_getElem?, hj'] using this
      have hr0 : Region.ready .any ⟨l⟩ L = [] := by
        refine List.eq_nil_iff_forall_not_mem.2 fun i hi => ?_
        obtain ⟨h5, h6, _⟩ := ready_spec hi
        have h7 := hall i h5
        have : i < L.size := by omega
        simp only [Array.getD_eq_getD_getElem?, Array.getElem?_eq_getElem this, Option.getD_some] at h6 h7
        rw [h6] at h7; cases h7
      refine ⟨hr0, s', c', r', hs, ?_⟩
      have := hk s'.cur.tl fun t => hT t fun j o ho _ => hall j (List.getElem?_eq_some_iff.1 ho).1
      rw [← hpE _ hall, ← hn, ← hr, ← hh] at this
      exact this
    | succ n ih =>
      intro L s' c' a' w' r' hs hL hc hn hr hh hcl hT
      refine ⟨fun h0 => ?_, fun i hi => ?_⟩
      · have hall := ready_none hw hL h0
        refine ⟨s', c', r', hs, ?_⟩
        have := hk s'.cur.tl fun t => hT t fun j o ho _ => hall j (List.getElem?_eq_some_iff.1 ho).1
        rw [← hpE _ hall, ← hn, ← hr, ← hh] at this
        exact this
      · obtain ⟨hil, hLi, o, ho, haft⟩ := ready_spec hi
        obtain ⟨v, hv, hst⟩ := effSteps_at hstep ho
        have hwi := List.all_eq_true.1 hw i (by simpa using hil)
        rw [ho] at hwi
        simp only [Bool.and_eq_true] at hwi
        have hlook : ∀ t ∈ opTmps o, vlook s'.cur.tl t = expect l vals s.cur.get t := by
          intro t ht
          refine hT t fun j p hp hd => ?_
          have h5 := List.all_eq_true.1 (List.all_eq_true.1 hwi.2 t ht) j (by simpa using (List.getElem?_eq_some_iff.1 hp).1)
          rw [hp] at h5
          simp only [hd, ne_eq, not_true, decide_false, Bool.false_or] at h5
          obtain ⟨e, he, h6⟩ := List.any_eq_true.1 h5
          simp only [Bool.and_eq_true, decide_eq_true_eq] at h6
          rw [← h6.2]
          exact haft e he h6.1
        have hLs : i < L.size := by omega
        have hev := hst s'.cur.tl (fun j => L.getD j false) (by simpa [Array.getD_eq_getD_getElem?, hLs] using hLi) haft hcl hlook
        rw [← hn, ← hr, ← hh] at hev
        have hd : dstOk s'.cur.nt o = true := by rw [hn]; exact List.all_eq_true.1 h3 o (List.mem_of_getElem? ho)
        refine wpOp_ev hG r' (by simpa using ho) hd hev (fun s2 c2 a2 w2 r2 hs2 hk2 => ?_) (fun v s2 c2 w2 u r2 hv2 hx2 => hx2.elim)
        subst hk2
        refine ih (L.setIfInBounds i true) _ c2 a2 w2 r2 (hs.trans hs2) (by simpa using hL) ?_ ?_ ?_ ?_ ?_ ?_
        · rw [Array.toList_setIfInBounds, List.countP_set (by simpa using hLs)]
          have h8 : L[i] = false := by simpa [Array.getD_eq_getD_getElem?, hLs] using hLi
          have h9 : 0 < L.toList.countP (· == false) := List.countP_pos_iff.2 ⟨L[i], by simp, by simp [h8]⟩
          have h10 : L.toList[i]'(by simpa using hLs) = false := by simpa using h8
          rw [h10]
          show L.toList.countP (· == false) - 1 + 0 ≤ n
          omega
        · rw [St.nt_set]; exact hn
        · cases o.dst <;> exact hr
        · have e : (fun j => (L.setIfInBounds i true).getD j false) = updB (fun j => L.getD j false) (0 + i) := by
            funext j
            unfold updB
            simp only [Array.getD_eq_getD_getElem?, Array.getElem?_setIfInBounds, Nat.zero_add]
            by_cases hji : i = j
            · subst hji; simp [hLs]
            · rw [if_neg hji, if_neg (Ne.symm hji)]
          rw [e]
          cases o.dst <;> rfl
        · intro j p hj hp' e he hb
          have hmono : ∀ x, L.getD x false = true → (L.setIfInBounds i true).getD x false = true := by
            intro x hx
            simp only [Array.getD_eq_getD_getElem?, Array.getElem?_setIfInBounds] at hx ⊢
            split
            · rename_i e; subst e; simp [hLs]
            · exact hx
          by_cases hji : j = i
          · subst hji
            rw [ho] at hp'
            cases hp'
            exact hmono _ (haft e he hb)
          · refine hmono _ (hcl j p ?_ hp' e he hb)
            simp only [Array.getD_eq_getD_getElem?, Array.getElem?_setIfInBounds, if_neg (Ne.symm hji)] at hj ⊢
            exact hj
        · intro t ht
          by_cases hdt : o.dst = some t
          · rw [expect_at hnd ho hv hdt, hdt]
            simp [St.set, Fr.set, Fr.get, vlook]
          · have hget : (St.set s' o.dst v).cur.get t = s'.cur.get t := by
              cases hod : o.dst with
              | none => rfl
              | some d =>
                have : d ≠ t := fun e => hdt (by rw [hod, e])
                simp [St.set, Fr.set, Fr.get, vlook, this]
            have hget2 : (St.set ⟨⟨s'.cur.nt, s'.cur.tl⟩, s'.rest, hp (updB (fun j => L.getD j false) (0 + i))⟩ o.dst v).cur.get t = (St.set s' o.dst v).cur.get t := by cases o.dst <;> rfl
            rw [hget2, hget]
            refine hT t fun j p hp hdp => ?_
            have hji : j ≠ i := fun e => by subst e; rw [ho] at hp; cases hp; exact hdt hdp
            have := ht j p hp hdp
            simp only [Array.getD_eq_getD_getElem?, Array.getElem?_setIfInBounds, if_neg (Ne.symm hji)] at this ⊢
            exact this
  have hwp : (Code.region id ⟨l⟩ true).wpIn (fen rd) 0 P Q a w := by
    refine wpIn_region_any hm (wpAnyIn_rd rd (noDefer_spec h4) _ _ _ _ ?_)
    have r1 : Rel B I0 w0 c s a as { w with drawn := w.drawn + 1 } := r.same rfl rfl rfl rfl
    refine key _ _ s c a _ r1 (Kin.refl a) (by simp) ?_ rfl rfl ?_ ?_ fun t ht => ?_
    · refine Nat.le_trans (List.countP_le_length) (by simp)
    · rw [← hp0]
      congr 1
      funext j
      simp only [Array.getD_eq_getD_getElem?, Array.getElem?_replicate]
      split <;> rfl
    · intro j p hj
      simp only [Array.getD_eq_getD_getElem?, Array.getElem?_replicate] at hj
      split at hj <;> cases hj
    · have hnone : ∀ (l' : List Oper) (vs : List V), (∀ (j : Nat) (o : Oper), l'[j]? = some o → o.dst ≠ some t) → expect l' vs s.cur.get t = s.cur.get t := by
        intro l'
        induction l' with
        | nil => intro vs h; cases vs <;> rfl
        | cons p l' ih =>
          intro vs h
          cases vs with
          | nil => rfl
          | cons v vs =>
            have := h 0 p rfl
            simp only [expect, if_neg this]
            exact ih vs fun j o ho => h (j + 1) o (by simpa using ho)
      refine (hnone l vals fun j o ho hd => ?_).symm
      have := ht j o ho hd
      simp [Array.getD_eq_getD_getElem?] at this
      have hj := (List.getElem?_eq_some_iff.1 ho).1
      simp [hj] at this
  refine wpIn_mono hwp ?_
  intro e a' w' hq
  cases e with
  | normal => obtain ⟨s', c', h1, h2, h3⟩ := hq; exact ⟨.normal, s', c', trivial, h1, h2, h3⟩
  | _ => exact hq.elim
end
end Go.Proofs.Vl
