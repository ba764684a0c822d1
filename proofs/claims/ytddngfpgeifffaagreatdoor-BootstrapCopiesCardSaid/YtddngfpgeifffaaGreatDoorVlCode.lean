/- A part of the proof: Code. -/
import Derived.Test.YtddngfpgeifffaaGreatDoorVlBuild
set_option linter.unusedVariables false
set_option linter.unusedSimpArgs false
/- A small logic of abstract values: regions, code, calls. -/
namespace Go.Proofs.Vl
open Go Go.RowKit

section
variable {P : Program} {B : Nat} {I0 : Nat → Nat → Prop} {w0 w : World} {c : Cx} {s : St} {a : Act} {as : List Act}

theorem good_evOp {o : Oper} {k x : V → St → Prop} (r : Rel B I0 w0 c s a as w) (h : evOp P o s k x) : Good P o B I0 w0 a as w k x := by
  unfold evOp at h
  split at h
  · exact good_move (.inl ‹_›) r h
  · exact good_move (.inr ‹_›) r h
  · split at h
    · exact good_pick ‹_› r ‹_› h
    · exact h.elim
  · split at h
    · exact good_alloc ‹_› r ‹_› h
    · exact h.elim
  · split at h
    · split at h
      · exact good_box ‹_› r ‹_› ‹_› h
      · exact h.elim
    · exact h.elim
  · exact good_load ‹_› r h
  · exact good_store ‹_› r h
  · split at h
    · exact good_nilCheck ‹_› r ‹_› (.inl ⟨_, _, rfl⟩) h
    · exact good_nilCheck ‹_› r ‹_› (.inr (.inl ⟨_, _, _, _, rfl⟩)) h
    · exact good_nilCheck ‹_› r ‹_› (.inr (.inr ⟨_, _, rfl⟩)) h
    · exact h.elim
  · exact good_eqX ‹_› r h
  · split at h
    · exact good_not ‹_› r ‹_› h
    · exact h.elim
  · split at h
    · split at h
      · exact good_extract ‹_› r ‹_› ‹_› h
      · exact h.elim
    · exact h.elim
  · exact good_fieldAddr ‹_› r h
  · exact good_field ‹_› r h
  · exact good_indexAddr ‹_› r h
  · exact good_index ‹_› r h
  · exact good_slice ‹_› r h
  · exact good_len ‹_› r h
  · exact good_call ‹_› r h
  · exact good_evOp2 r h

def gval (all : List Oper) (s : St) (j : Nat) : Option Bool :=
  match (all[j]?).bind (·.dst) with
  | some t => match s.cur.get t with
    | .c false [.d (.raw (.bool b))] => some b
    | _ => none
  | none => none

def evOps (P : Program) (all : List Oper) : List Oper → St → (St → Prop) → (V → St → Prop) → Prop
  | [], s, k, x => k s
  | o :: rest, s, k, x =>
    match o.guard with
    | none => evOp P o s (fun v s' => evOps P all rest (s'.set o.dst v) k x) x
    | some (j, want) =>
      match gval all s j with
      | some b => if b = want then evOp P o s (fun v s' => evOps P all rest (s'.set o.dst v) k x) x else evOps P all rest (s.set o.dst .unk) k x
      | none => False

def dstOk (nt : Nat) (o : Oper) : Bool := match o.dst with | some t => decide (t < nt) | none => true

theorem Rel.put (r : Rel B I0 w0 c s a as w) {d : Option Tmp} {nt : Nat} (hnt : nt = s.cur.nt) (hd : (match d with | some t => decide (t < nt) | none => true) = true) {v : V} {u : Value} (hv : VRep (imm B I0 c s.heap w) w s.heap c v u) :
    Rel B I0 w0 c (s.set d v) (a.put d u) as w := by
  cases d with
  | none => exact r
  | some t =>
    simp only [decide_eq_true_eq] at hd
    subst hnt
    exact ⟨r.below, r.size, r.obs, r.inj, r.cur.set hd hv, r.rest, ⟨r.marks.nodup, r.marks.blk⟩⟩
theorem size_put (a : Act) (d : Option Tmp) (u : Value) : (a.put d u).tmps.size = a.tmps.size := by
  cases d <;> simp [Act.put]
theorem St.nt_set (s : St) (d : Option Nat) (v : V) : (s.set d v).cur.nt = s.cur.nt := by
  cases d <;> rfl

theorem yielded_gval (r : Rel B I0 w0 c s a as w) {ops : Array Oper} {j : Nat} {b : Bool} (h : gval ops.toList s j = some b) : yielded ops a.tmps j = some b := by
  unfold gval at h
  split at h
  · rename_i t ht
    split at h
    · rename_i b' hb
      simp at h
      subst h
      have hr := r.cur.2 t
      rw [hb] at hr
      obtain ⟨e, _⟩ := hr
      unfold yielded
      have ht' : (ops[j]?).bind (·.dst) = some t := by simpa using ht
      rw [ht']
      have hlt : t < a.tmps.size := by
        rcases Nat.lt_or_ge t a.tmps.size with h | h
        · exact h
        · simp [Array.getD_eq_getD_getElem?, Array.getElem?_eq_none h, undef] at e
      have : a.tmps[t]? = some (.bool b') := by
        rw [Array.getD_eq_getD_getElem?, Array.getElem?_eq_getElem hlt] at e
        simp at e
        rw [Array.getElem?_eq_getElem hlt, e]
      simp [this]
    · cases h
  · cases h

/-- What a frame's activation may turn into: marks are pushed. -/
def Kin (a a' : Act) : Prop := a'.tmps.size = a.tmps.size ∧ ∃ ms, a'.defers = ms ++ a.defers ∧ ∀ d ∈ ms, (markOf d).isSome
theorem Kin.refl (a : Act) : Kin a a := ⟨rfl, [], rfl, by simp⟩
theorem Kin.trans {a b c : Act} (h : Kin a b) (k : Kin b c) : Kin a c := by
  obtain ⟨h1, ms, h2, h3⟩ := h
  obtain ⟨k1, ns, k2, k3⟩ := k
  refine ⟨k1.trans h1, ns ++ ms, by rw [k2, h2, List.append_assoc], fun d hd => ?_⟩
  rcases List.mem_append.1 hd with hd | hd
  · exact k3 d hd
  · exact h3 d hd
theorem Kin.put (a : Act) (d : Option Tmp) (u : Value) : Kin a (a.put d u) := ⟨size_put a d u, [], by cases d <;> rfl, by simp⟩

theorem evOp_nd {o : Oper} {k x : V → St → Prop} (h : evOp P o s k x) : ∀ c, o.op ≠ .defer c := by
  intro c hc
  simp only [evOp, evOp2, evOp3, evOp4, hc] at h

theorem wpList_ev (hG : GlobOk P B w0) (rd : Option Nat) (ops : Array Oper) {Q : Exit → Act → World → Prop} : ∀ (l : List Oper) {c : Cx} {s : St} {a : Act} {w : World} {k : St → Prop} {x : V → St → Prop}, Rel B I0 w0 c s a as w →
    l.all (dstOk s.cur.nt) = true → evOps P ops.toList l s k x →
    (∀ s' c' a' w', Rel B I0 w0 c' s' a' as w' → Kin a a' → k s' → Q .normal a' w') →
    (∀ v s' c' a' w' u, Rel B I0 w0 c' s' a' as w' → Kin a a' → VRep (imm B I0 c' s'.heap w') w' s'.heap c' v u → x v s' → Q (.panic [{ v := u, recovered := false }]) a' w') →
    wpListIn (fen rd) 0 P ops Q l a w
  | [], c, s, a, w, k, x, r, _, h, hk, _ => hk s c a w r (Kin.refl a) h
  | o :: rest, c, s, a, w, k, x, r, hd, h, hk, hx => by
    simp only [List.all_cons, Bool.and_eq_true] at hd
    obtain ⟨hd1, hd2⟩ := hd
    have main : evOp P o s (fun v s' => evOps P ops.toList rest (s'.set o.dst v) k x) x → o.wpIn (fen rd) 0 P a w (wpListIn (fen rd) 0 P ops Q rest) Q := by
      intro h
      refine good_evOp r h hG (evOp_nd h) rd (wpListIn (fen rd) 0 P ops Q rest) Q (fun v s' c' w' u r' hv hk' => ?_) (fun v s' c' w' u r' hv hx' => hx v s' c' a w' u r' (Kin.refl a) hv hx')
      have hnt : s'.cur.nt = s.cur.nt := by rw [← r'.cur.1, ← r.cur.1]
      have r2 := r'.put (d := o.dst) (nt := s.cur.nt) hnt.symm hd1 hv
      refine wpList_ev hG rd ops rest r2 (by rw [St.nt_set, hnt]; exact hd2) hk' (fun s2 c2 a2 w2 r3 hs3 hk3 => hk s2 c2 a2 w2 r3 ((Kin.put _ _ _).trans hs3) hk3) (fun v s2 c2 a2 w2 u r3 hs3 hv3 hx3 => hx v s2 c2 a2 w2 u r3 ((Kin.put _ _ _).trans hs3) hv3 hx3)
    unfold evOps at h
    unfold wpListIn
    split at h
    · rename_i hg
      rw [if_pos (by simp [Region.wanted, hg])]
      exact main h
    · rename_i j want hg
      split at h
      · rename_i b hb
        have hy := yielded_gval r hb
        split at h
        · rename_i e
          subst e
          rw [if_pos (by simp [Region.wanted, hg, hy])]
          exact main h
        · rename_i e
          rw [if_neg (by simp [Region.wanted, hg, hy, e])]
          have r2 := r.put (d := o.dst) (nt := s.cur.nt) (v := .unk) (u := undef) rfl hd1 trivial
          exact ⟨fun _ _ => trivial, wpList_ev hG rd ops rest r2 (by rw [St.nt_set]; exact hd2) h (fun s2 c2 a2 w2 r3 hs3 hk3 => hk s2 c2 a2 w2 r3 ((Kin.put _ _ _).trans hs3) hk3) (fun v s2 c2 a2 w2 u r3 hs3 hv3 hx3 => hx v s2 c2 a2 w2 u r3 ((Kin.put _ _ _).trans hs3) hv3 hx3)⟩
      · exact h.elim
end

/-! ### Code -/
inductive AX where
  | normal
  | exit (id : Nat)
  | ret
  | panic (v : V)

def XRep (I : Nat → Nat → Prop) (w : World) (H : List Ob) (c : Cx) : AX → Exit → Prop
  | .normal, .normal => True
  | .exit i, .exit j => i = j
  | .ret, .ret => True
  | .panic v, .panic chain => ∃ u, chain = [{ v := u, recovered := false }] ∧ VRep I w H c v u
  | _, _ => False

def noRange : Code → Bool
  | .rangeFunc .. => false
  | .seq x y => noRange x && noRange y
  | .cond _ x y => noRange x && noRange y
  | .block _ cd => noRange cd
  | .loop cd => noRange cd
  | _ => true
def AWP (P : Program) (cd : Code) (s : St) (K : AX → St → Prop) : Prop :=
  ∀ rd, (rd.isSome = true → noRange cd = true) → ∀ B I0 w0, GlobOk P B w0 → ∀ c a as w, Rel B I0 w0 c s a as w →
    cd.wpIn (fen rd) 0 P (fun e a' w' => ∃ ax s' c', XRep (imm B I0 c' s'.heap w') w' s'.heap c' ax e ∧ Rel B I0 w0 c' s' a' as w' ∧ Kin a a' ∧ K ax s') a w

def thenK (k : St → Prop) (K : AX → St → Prop) : AX → St → Prop
  | .normal, s => k s
  | e, s => K e s
def blockK (id : Nat) (K : AX → St → Prop) : AX → St → Prop
  | .exit i, s => if i = id then K .normal s else K (.exit i) s
  | e, s => K e s

/-- To be shown of a loop, of a region that draws its order. -/
def ALoop (P : Program) (cd : Code) (s : St) (K : AX → St → Prop) : Prop := AWP P (.loop cd) s K
def ADraw (P : Program) (id : Nat) (ops : Array Oper) (s : St) (K : AX → St → Prop) : Prop := AWP P (.region id ops true) s K
def AOther (P : Program) (cd : Code) (s : St) (K : AX → St → Prop) : Prop := AWP P cd s K

def awp (P : Program) : Code → St → (AX → St → Prop) → Prop
  | .skip, s, K => K .normal s
  | .region id ops draw, s, K => if draw = true then ADraw P id ops s K else evOps P ops.toList ops.toList s (fun s' => K .normal s') (fun v s' => K (.panic v) s')
  | .seq x y, s, K => awp P x s (thenK (fun s' => awp P y s' K) K)
  | .cond cc x y, s, K =>
    match s.eval cc with
    | .c false [.d (.raw (.bool b))] => if b = true then awp P x s K else awp P y s K
    | _ => False
  | .block id cd, s, K => awp P cd s (blockK id K)
  | .loop cd, s, K => ALoop P cd s K
  | .exit id, s, K => K (.exit id) s
  | .ret, s, K => K .ret s
  | cd, s, K => AOther P cd s K

def dstsOk (nt : Nat) : Code → Bool
  | .region _ ops draw => draw || ops.toList.all (dstOk nt)
  | .seq x y => dstsOk nt x && dstsOk nt y
  | .cond _ x y => dstsOk nt x && dstsOk nt y
  | .block _ cd => dstsOk nt cd
  | _ => true

section
variable {P : Program}
theorem AWP.mono {cd : Code} {s : St} {K K' : AX → St → Prop} (h : AWP P cd s K) (hk : ∀ ax s', K ax s' → K' ax s') : AWP P cd s K' :=
  fun rd hrd B I0 w0 hG c a as w r => wpIn_mono (h rd hrd B I0 w0 hG c a as w r) fun e a' w' ⟨ax, s', c', h1, h2, h3, h4⟩ => ⟨ax, s', c', h1, h2, h3, hk _ _ h4⟩

theorem Rel.nt {B : Nat} {I0 : Nat → Nat → Prop} {w0 w w' : World} {c c' : Cx} {s s' : St} {a a' : Act} {as : List Act} (r : Rel B I0 w0 c s a as w) (r' : Rel B I0 w0 c' s' a' as w') (h : Kin a a') : s'.cur.nt = s.cur.nt := by
  rw [← r'.cur.1, ← r.cur.1, h.1]

theorem awp_sound : ∀ (cd : Code) {s : St} {K : AX → St → Prop}, dstsOk s.cur.nt cd = true → awp P cd s K → AWP P cd s K
  | .skip, s, K, _, h => fun rd hrd B I0 w0 hG c a as w r => wpIn_skip ⟨.normal, s, c, trivial, r, Kin.refl a, h⟩
  | .region id ops draw, s, K, hd, h => by
    simp only [awp] at h
    split at h
    · rename_i e; subst e; exact h
    · rename_i e
      simp only [Bool.not_eq_true] at e
      subst e
      simp only [dstsOk, Bool.false_or] at hd
      intro rd hrd B I0 w0 hG c a as w r
      refine wpIn_region_list ?_
      exact wpList_ev hG rd ops ops.toList r hd h (fun s' c' a' w' r' hs hk => ⟨.normal, s', c', trivial, r', hs, hk⟩) (fun v s' c' a' w' u r' hs hv hx => ⟨.panic v, s', c', ⟨u, rfl, hv⟩, r', hs, hx⟩)
  | .seq x y, s, K, hd, h => by
    simp only [dstsOk, Bool.and_eq_true] at hd
    intro rd hrd B I0 w0 hG c a as w r
    refine wpIn_seq (wpIn_mono (awp_sound x hd.1 h rd (fun e => by have := hrd e; simp only [noRange, Bool.and_eq_true] at this; exact this.1) B I0 w0 hG c a as w r) ?_)
    rintro e a' w' ⟨ax, s', c', hx, r', hs, hk⟩
    cases ax with
    | normal =>
      cases e <;> simp only [XRep] at hx
      simp only [thenK] at hk
      refine wpIn_mono (awp_sound y (by rw [r.nt r' hs]; exact hd.2) hk rd (fun e => by have := hrd e; simp only [noRange, Bool.and_eq_true] at this; exact this.2) B I0 w0 hG c' a' as w' r') ?_
      rintro e2 a2 w2 ⟨ax2, s2, c2, hx2, r2, hs2, hk2⟩
      exact ⟨ax2, s2, c2, hx2, r2, hs.trans hs2, hk2⟩
    | exit i => cases e <;> simp only [XRep] at hx; subst hx; exact ⟨.exit i, s', c', rfl, r', hs, hk⟩
    | ret => cases e <;> simp only [XRep] at hx; exact ⟨.ret, s', c', trivial, r', hs, hk⟩
    | panic v => cases e <;> simp only [XRep] at hx; exact ⟨.panic v, s', c', hx, r', hs, hk⟩
  | .cond cc x y, s, K, hd, h => by
    simp only [dstsOk, Bool.and_eq_true] at hd
    simp only [awp] at h
    split at h
    · rename_i b hb
      intro rd hrd B I0 w0 hG c a as w r
      have hr := r.eval cc
      rw [hb] at hr
      obtain ⟨e, _⟩ := hr
      refine wpIn_cond (t := b) e ?_
      split at h
      · rename_i hb'; rw [if_pos hb']; exact awp_sound x hd.1 h rd (fun e => by have := hrd e; simp only [noRange, Bool.and_eq_true] at this; exact this.1) B I0 w0 hG c a as w r
      · rename_i hb'; rw [if_neg hb']; exact awp_sound y hd.2 h rd (fun e => by have := hrd e; simp only [noRange, Bool.and_eq_true] at this; exact this.2) B I0 w0 hG c a as w r
    · exact h.elim
  | .block id cd, s, K, hd, h => by
    intro rd hrd B I0 w0 hG c a as w r
    refine wpIn_block (wpIn_mono (awp_sound cd hd h rd hrd B I0 w0 hG c a as w r) ?_)
    rintro e a' w' ⟨ax, s', c', hx, r', hs, hk⟩
    cases ax with
    | normal => cases e <;> simp only [XRep] at hx; exact ⟨.normal, s', c', trivial, r', hs, hk⟩
    | exit i =>
      cases e <;> simp only [XRep] at hx
      subst hx
      simp only [blockK] at hk
      simp only [Exit.inBlock]
      split
      · rename_i e; rw [if_pos e] at hk; exact ⟨.normal, s', c', trivial, r', hs, hk⟩
      · rename_i e; rw [if_neg e] at hk; exact ⟨.exit i, s', c', rfl, r', hs, hk⟩
    | ret => cases e <;> simp only [XRep] at hx; exact ⟨.ret, s', c', trivial, r', hs, hk⟩
    | panic v => cases e <;> simp only [XRep] at hx; exact ⟨.panic v, s', c', hx, r', hs, hk⟩
  | .loop cd, s, K, _, h => h
  | .exit id, s, K, _, h => fun rd hrd B I0 w0 hG c a as w r => wpIn_exit ⟨.exit id, s, c, rfl, r, Kin.refl a, h⟩
  | .ret, s, K, _, h => fun rd hrd B I0 w0 hG c a as w r => wpIn_ret ⟨.ret, s, c, trivial, r, Kin.refl a, h⟩
  | .rangeFunc .., s, K, _, h => h
  | .scope _, s, K, _, h => h
  | .label _, s, K, _, h => h
  | .goto _, s, K, _, h => h
  | .refuse _, s, K, _, h => h
end
end Go.Proofs.Vl
