/- A part of the proof: Loop. -/
import Derived.LoopN
import Derived.Test.YtddngfpgeifffaaGreatDoorVlCall
set_option linter.unusedVariables false
set_option linter.unusedSimpArgs false
/- A small logic of abstract values: what is forgotten; loops. -/
namespace Go.Proofs.Vl
open Go Go.RowKit

def At.clip (n : Nat) : At → At
  | .ref id off => if id < n then .ref id off else .unk
  | .row id m => if id < n then .row id m else .unk
  | .sd id m => if id < n then .sd id m else .unk
  | .el id sz i j => if id < n then .el id sz i j else .unk
  | .mp id => if id < n then .mp id else .unk
  | .clo id => if id < n then .clo id else .unk
  | .yld id => if id < n then .yld id else .unk
  | .mref id o => if id < n then .mref id o else .unk
  | x => x
def V.clip (n : Nat) : V → V
  | .c g xs => .c g (xs.map (At.clip n))
  | .tup ys => .tup (ys.map fun p => (p.1, p.2.map (At.clip n)))
def Ob.clip (n : Nat) : Ob → Ob
  | .cells e xs => .cells e (xs.map (At.clip n))
  | .clo fn first cap => .clo fn (first.map fun p => (p.1, p.2.map (At.clip n))) (cap.map fun p => (p.1, p.2.map (At.clip n)))
  | .lp l nt tl ps asg body busy pend => .lp l nt (tl.map fun p => (p.1, p.2.clip n)) ps asg body busy pend
  | o => o
def keepTL (f : Fr) (n : Nat) : List Nat → List (Nat × V)
  | [] => []
  | t :: l => (t, (f.get t).clip n) :: keepTL f n l
def Fr.clip (n : Nat) (f : Fr) : Fr := ⟨f.nt, f.tl.map fun p => (p.1, p.2.clip n)⟩
def St.trim (L : List Nat) (n : Nat) (s : St) : St := ⟨⟨s.cur.nt, keepTL s.cur n L⟩, s.rest.map (Fr.clip n), (s.heap.take n).map (Ob.clip n)⟩

section
variable {P : Program} {B : Nat} {I0 : Nat → Nat → Prop} {w0 w : World} {c : Cx} {s : St} {a : Act} {as : List Act}

theorem Ob.blk_clip (n : Nat) (k : Option Nat) (o : Ob) : (o.clip n).blk k = o.blk k := by cases o <;> rfl
theorem Ob.fzc_clip (n : Nat) (o : Ob) : (o.clip n).fzc = o.fzc := by cases o <;> rfl
theorem Ob.len_clip (n : Nat) (o : Ob) : (o.clip n).len = o.len := by cases o <;> rfl
theorem trim_get {H : List Ob} {n i : Nat} {ob : Ob} (h : ((H.take n).map (Ob.clip n))[i]? = some ob) : ∃ o, i < n ∧ H[i]? = some o ∧ ob = o.clip n := by
  rw [List.getElem?_map, Option.map_eq_some_iff] at h
  obtain ⟨o, ho, rfl⟩ := h
  rw [List.getElem?_take] at ho
  split at ho
  · exact ⟨o, ‹_›, ho, rfl⟩
  · cases ho
theorem imm_trim (n : Nat) {b o : Nat} (h : imm B I0 c s.heap w b o) : imm B I0 c ((s.heap.take n).map (Ob.clip n)) w b o := by
  rcases h with h | ⟨h1, h2, h3⟩
  · exact .inl h
  · refine .inr ⟨h1, h2, fun id ob hob hb hρ => ?_⟩
    obtain ⟨o', _, ho, rfl⟩ := trim_get hob
    rw [Ob.fzc_clip]
    rw [Ob.blk_clip] at hb
    exact h3 id o' ho hb hρ
theorem AtRep.clip {x : At} {v : Value} (n : Nat) (h : AtRep (imm B I0 c s.heap w) w s.heap c x v) : AtRep (imm B I0 c ((s.heap.take n).map (Ob.clip n)) w) w ((s.heap.take n).map (Ob.clip n)) c (x.clip n) v := by
  have hl : ∀ id, id < s.heap.length → id < n → id < ((s.heap.take n).map (Ob.clip n)).length := fun id h1 h2 => by simp; omega
  have ho : ∀ id, id < n → obLen ((s.heap.take n).map (Ob.clip n)) id = obLen s.heap id := fun id h1 => by
    unfold obLen
    rw [List.getElem?_map, List.getElem?_take, if_pos h1]
    cases s.heap[id]? <;> simp [Ob.len_clip]
  have hd : ∀ b o, imm B I0 c s.heap w b o → imm B I0 c ((s.heap.take n).map (Ob.clip n)) w b o ∧ w.cell? ⟨b, o, none⟩ = w.cell? ⟨b, o, none⟩ := fun b o h => ⟨imm_trim n h, rfl⟩
  cases x with
  | d x => exact D.Rep.mono hd x h
  | ref id off => obtain ⟨h1, h2⟩ := h; simp only [At.clip]; split; (exact ⟨hl _ h1 ‹_›, h2⟩); trivial
  | row id m => obtain ⟨h1, h2, h3⟩ := h; simp only [At.clip]; split; (exact ⟨hl _ h1 ‹_›, by rw [ho _ ‹_›]; exact h2, h3⟩); trivial
  | el id sz i j => obtain ⟨h1, h2⟩ := h; simp only [At.clip]; split; (exact ⟨hl _ h1 ‹_›, h2⟩); trivial
  | fel m get =>
    obtain ⟨b, o, e, hc⟩ := h
    exact ⟨b, o, e, fun j hj => by obtain ⟨h1, x, h2, h3⟩ := hc j hj; exact ⟨imm_trim n h1, x, h2, D.Rep.mono hd _ h3⟩⟩
  | emp => exact h
  | sd id m => obtain ⟨h1, h2⟩ := h; simp only [At.clip]; split; (exact ⟨hl _ h1 ‹_›, h2⟩); trivial
  | mp id => obtain ⟨h1, h2⟩ := h; simp only [At.clip]; split; (exact ⟨hl _ h1 ‹_›, h2⟩); trivial
  | clo id => obtain ⟨h1, h2⟩ := h; simp only [At.clip]; split; (exact ⟨hl _ h1 ‹_›, h2⟩); trivial
  | yld id => obtain ⟨h1, h2⟩ := h; simp only [At.clip]; split; (exact ⟨hl _ h1 ‹_›, h2⟩); trivial
  | mref id o => obtain ⟨h1, h2⟩ := h; simp only [At.clip]; split; (exact ⟨hl _ h1 ‹_›, h2⟩); trivial
  | unk => trivial
theorem CRep.clip {g : Bool} {xs : List At} {v : Value} (n : Nat) (h : CRep (imm B I0 c s.heap w) w s.heap c g xs v) :
    CRep (imm B I0 c ((s.heap.take n).map (Ob.clip n)) w) w ((s.heap.take n).map (Ob.clip n)) c g (xs.map (At.clip n)) v := by
  cases g with
  | true => obtain ⟨cs, e, hc⟩ := h; exact ⟨cs, e, All2.map_left (hc.imp fun x v h => AtRep.clip n h)⟩
  | false =>
    match xs, h with
    | [x], h => exact AtRep.clip n h
    | [], h => exact h
    | _ :: _ :: _, h => exact h
theorem VRep.clip {x : V} {v : Value} (n : Nat) (h : VRep (imm B I0 c s.heap w) w s.heap c x v) :
    VRep (imm B I0 c ((s.heap.take n).map (Ob.clip n)) w) w ((s.heap.take n).map (Ob.clip n)) c (x.clip n) v := by
  cases x with
  | c g xs => exact CRep.clip n h
  | tup ys => obtain ⟨vs, e, hc⟩ := h; exact ⟨vs, e, All2.map_left (hc.imp fun p v h => CRep.clip n h)⟩
theorem vlook_map (f : V → V) (hf : f .unk = .unk) (t : Nat) : ∀ l : List (Nat × V), vlook (l.map fun p => (p.1, f p.2)) t = f (vlook l t)
  | [] => hf.symm
  | (i, v) :: l => by
    simp only [List.map_cons, vlook]
    split
    · rfl
    · exact vlook_map f hf t l
theorem vlook_keep (f : Fr) (n t : Nat) : ∀ L, vlook (keepTL f n L) t = (f.get t).clip n ∨ vlook (keepTL f n L) t = .unk
  | [] => .inr rfl
  | u :: L => by
    simp only [keepTL, vlook]
    split
    · rename_i e; subst e; exact .inl rfl
    · exact vlook_keep f n t L

theorem Rel.trim (r : Rel B I0 w0 c s a as w) (L : List Nat) (n : Nat) : Rel B I0 w0 c (s.trim L n) a as w := by
  refine ⟨r.below, r.size, fun id ob h => ?_, fun i j oi oj hi hj bi bj e => ?_, ⟨r.cur.1, fun t => ?_⟩, All2.map_left (r.rest.imp fun f a' h => ⟨h.1, fun t => ?_⟩), r.marks⟩
  · obtain ⟨o, hn, ho, rfl⟩ := trim_get h
    have hr := r.obs id o ho
    cases o with
    | cells e xs => obtain ⟨hB, cur, hc, ha, h1⟩ := hr; exact ⟨hB, cur, hc, All2.map_left (ha.imp fun x v h => AtRep.clip n h), h1⟩
    | row e sz m get fz =>
      obtain ⟨h2, h3, hr⟩ := hr
      refine ⟨h2, h3, fun k hk => ?_⟩
      obtain ⟨hB, cur, hc, h1, hg⟩ := hr k hk
      exact ⟨hB, cur, hc, h1, fun i hi j hj => by
        obtain ⟨x, hx, hd⟩ := hg i hi j hj
        exact ⟨x, hx, D.Rep.mono (fun b o h => ⟨imm_trim n h, rfl⟩) _ hd⟩⟩
    | clo fn first cap =>
      obtain ⟨fs, cs, hg, h1, h2⟩ := hr
      exact ⟨fs, cs, hg, All2.map_left (h1.imp fun p v h => CRep.clip n h), All2.map_left (h2.imp fun p v h => CRep.clip n h)⟩
    | mp t kk l =>
      obtain ⟨hB, es, clock, hc, ha⟩ := hr
      exact ⟨hB, es, clock, hc, ha.imp fun p e ⟨h6, h7⟩ => ⟨h6, D.Rep.mono (fun b o h => ⟨imm_trim n h, rfl⟩) _ h7⟩⟩
    | lp l nt tl ps asg body busy pend =>
      obtain ⟨hB, hl, lr, hc, h6, h7, h8, h9, h10, h11, h12⟩ := hr
      exact ⟨hB, hl, lr, hc, h6, h7, h8, h9, h10, h11, fun t => by
        show VRep _ _ _ _ (vlook (tl.map fun p => (p.1, p.2.clip n)) t) _
        rw [vlook_map (V.clip n) rfl]
        exact VRep.clip n (h12 t)⟩
    | gone => trivial
  · obtain ⟨o1, _, h1, rfl⟩ := trim_get hi
    obtain ⟨o2, _, h2, rfl⟩ := trim_get hj
    rw [Ob.blk_clip] at bi bj
    exact r.inj i j o1 o2 h1 h2 bi bj e
  · show VRep _ _ _ _ (vlook (keepTL s.cur n L) t) _
    rcases vlook_keep s.cur n t L with h | h <;> rw [h]
    · exact VRep.clip n (r.cur.2 t)
    · trivial
  · show VRep _ _ _ _ (vlook (f.tl.map fun p => (p.1, p.2.clip n)) t) _
    rw [vlook_map (V.clip n) rfl]
    exact VRep.clip n (h.2 t)

theorem AWP.trim {cd : Code} {K : AX → St → Prop} (L : List Nat) (n : Nat) (h : AWP P cd (s.trim L n) K) : AWP P cd s K :=
  fun rd hrd B I0 w0 hG c a as w r => h rd hrd B I0 w0 hG c a as w (r.trim L n)

/-- At most k rounds; between two rounds all is forgotten but the slots of L and the first n objects. -/
def ARounds (P : Program) (L : List Nat) (n : Nat) (cd : Code) (K : AX → St → Prop) : Nat → St → Prop
  | 0, _ => False
  | k + 1, s => awp P cd s (thenK (fun s' => ARounds P L n cd K k (s'.trim L n)) K)

theorem AWP.loop {L : List Nat} {n : Nat} {cd : Code} {K : AX → St → Prop} : ∀ (k : Nat) {s : St}, dstsOk s.cur.nt cd = true → ARounds P L n cd K k s → AWP P (.loop cd) s K := by
  have key : ∀ (rd : Option Nat) (hrd : rd.isSome = true → noRange cd = true) (k : Nat) {B : Nat} {I0 : Nat → Nat → Prop} {w0 : World} (hG : GlobOk P B w0) {as : List Act} {nt : Nat} {s : St} {c : Cx} {a : Act} {w : World}, s.cur.nt = nt → dstsOk nt cd = true → ARounds P L n cd K k s → Rel B I0 w0 c s a as w →
      ∀ Q : Exit → Act → World → Prop, (∀ e a' w', (∃ ax s' c', XRep (imm B I0 c' s'.heap w') w' s'.heap c' ax e ∧ Rel B I0 w0 c' s' a' as w' ∧ Kin a a' ∧ K ax s') → Q e a' w') → Code.roundsIn (fen rd) 0 P cd Q k a w := by
    intro rd hrd k
    induction k with
    | zero => intro B I0 w0 hG as nt s c a w _ _ h; exact h.elim
    | succ k ih =>
      intro B I0 w0 hG as nt s c a w hnt hd h r Q hQ
      rw [roundsIn_succ]
      refine wpIn_mono (awp_sound cd (by rw [hnt]; exact hd) h rd hrd B I0 w0 hG c a as w r) ?_
      rintro e a' w' ⟨ax, s', c', hx, r', hs, hk⟩
      cases ax with
      | normal =>
        cases e <;> simp only [XRep] at hx
        have hnt' := r.nt r' hs
        refine ih hG (nt := nt) (s := s'.trim L n) (by rw [← hnt, ← hnt']; rfl) hd hk (r'.trim L n) Q fun e2 a2 w2 ⟨ax2, s2, c2, h1, h2, h3, h4⟩ => hQ e2 a2 w2 ⟨ax2, s2, c2, h1, h2, hs.trans h3, h4⟩
      | exit i => cases e <;> simp only [XRep] at hx; subst hx; exact hQ _ a' w' ⟨.exit i, s', c', rfl, r', hs, hk⟩
      | ret => cases e <;> simp only [XRep] at hx; exact hQ _ a' w' ⟨.ret, s', c', trivial, r', hs, hk⟩
      | panic v => cases e <;> simp only [XRep] at hx; exact hQ _ a' w' ⟨.panic v, s', c', hx, r', hs, hk⟩
  intro k s hd h rd hrd B I0 w0 hG c a as w r
  exact wpIn_loop_rounds k (key rd hrd k hG rfl hd h r _ fun e a' w' h => h)

/-- A loop: forget, then rounds. -/
theorem ALoop.of_rounds (L : List Nat) (n k : Nat) {cd : Code} {K : AX → St → Prop} (hd : dstsOk s.cur.nt cd = true) (h : ARounds P L n cd K k (s.trim L n)) : ALoop P cd s K :=
  AWP.trim L n (AWP.loop k (by exact hd) h)

/-- A loop by an invariant: T what the kept slots hold, μ goes down. -/
theorem AWP.inv {T : Type} {L : List Nat} {n : Nat} {cd : Code} {K : AX → St → Prop} (pat : T → St) (μ : T → Nat) (Inv : T → Prop) (nt : Nat) (hnt : ∀ t, (pat t).cur.nt = nt) (hd : dstsOk nt cd = true)
    (step : ∀ t, Inv t → awp P cd (pat t) (thenK (fun s' => ∃ t', s'.trim L n = pat t' ∧ Inv t' ∧ μ t' < μ t) K)) (t0 : T) (h0 : Inv t0) : AWP P (.loop cd) (pat t0) K := by
  have key : ∀ (rd : Option Nat) (hrd : rd.isSome = true → noRange cd = true) (m : Nat) {B : Nat} {I0 : Nat → Nat → Prop} {w0 : World} (hG : GlobOk P B w0) {as : List Act} {t : T} {c : Cx} {a : Act} {w : World}, Inv t → μ t < m → Rel B I0 w0 c (pat t) a as w →
      ∀ Q : Exit → Act → World → Prop, (∀ e a' w', (∃ ax s' c', XRep (imm B I0 c' s'.heap w') w' s'.heap c' ax e ∧ Rel B I0 w0 c' s' a' as w' ∧ Kin a a' ∧ K ax s') → Q e a' w') → Code.roundsIn (fen rd) 0 P cd Q m a w := by
    intro rd hrd m
    induction m with
    | zero => intro B I0 w0 hG as t c a w _ h; omega
    | succ m ih =>
      intro B I0 w0 hG as t c a w hI hm r Q hQ
      rw [roundsIn_succ]
      refine wpIn_mono (awp_sound cd (by rw [hnt]; exact hd) (step t hI) rd hrd B I0 w0 hG c a as w r) ?_
      rintro e a' w' ⟨ax, s', c', hx, r', hs, hk⟩
      cases ax with
      | normal =>
        cases e <;> simp only [XRep] at hx
        obtain ⟨t', ht, hI', hlt⟩ := hk
        have r2 := r'.trim L n
        rw [ht] at r2
        exact ih hG hI' (by omega) r2 Q fun e2 a2 w2 ⟨ax2, s2, c2, h1, h2, h3, h4⟩ => hQ e2 a2 w2 ⟨ax2, s2, c2, h1, h2, hs.trans h3, h4⟩
      | exit i => cases e <;> simp only [XRep] at hx; subst hx; exact hQ _ a' w' ⟨.exit i, s', c', rfl, r', hs, hk⟩
      | ret => cases e <;> simp only [XRep] at hx; exact hQ _ a' w' ⟨.ret, s', c', trivial, r', hs, hk⟩
      | panic v => cases e <;> simp only [XRep] at hx; exact hQ _ a' w' ⟨.panic v, s', c', hx, r', hs, hk⟩
  intro rd hrd B I0 w0 hG c a as w r
  exact wpIn_loop_rounds _ (key rd hrd (μ t0 + 1) hG h0 (Nat.lt_succ_self _) r _ fun e a' w' h => h)

theorem ALoop.inv {T : Type} (L : List Nat) (n : Nat) {cd : Code} {K : AX → St → Prop} (pat : T → St) (μ : T → Nat) (Inv : T → Prop) (t0 : T) (hs : s.trim L n = pat t0) (h0 : Inv t0) (hnt : ∀ t, (pat t).cur.nt = s.cur.nt) (hd : dstsOk s.cur.nt cd = true)
    (step : ∀ t, Inv t → awp P cd (pat t) (thenK (fun s' => ∃ t', s'.trim L n = pat t' ∧ Inv t' ∧ μ t' < μ t) K)) : ALoop P cd s K :=
  AWP.trim L n (by rw [hs]; exact AWP.inv pat μ Inv s.cur.nt hnt hd step t0 h0)
end
end Go.Proofs.Vl
