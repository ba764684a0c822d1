/- A part of the proof: Draw. -/
import Derived.OrdersIn
import Derived.Test.YtddngfpgeifffaaGreatDoorVlSpec
set_option linter.unusedVariables false
set_option linter.unusedSimpArgs false
/- A small logic of abstract values: regions that draw their order. A plan names at every point either one operation that reads no memory and can be done first, or all that can come next. -/
namespace Go.Proofs.Vl
open Go Go.RowKit

inductive Sched where
  | fin
  | one (i : Nat) (t : Sched)
  | alt (i : Nat) (t o : Sched)
  | stop
  deriving Repr, BEq, Inhabited

def Sched.alts : Sched → List Nat
  | .alt i _ o => i :: o.alts
  | _ => []

def opPure : Op → Bool
  | .move _ | .assign _ | .nilCheck _ | .fieldAddr .. | .convert .. => true
  | .binOp op .. => match op with | .quo | .rem => false | _ => true
  | _ => false
/-- A number's conversion alone reads no memory for sure. -/
def pureNow (s : St) (o : Oper) : Prop := match o.op with
  | .convert _ _ y => match s.eval y with | .c false [.d (.raw (.int _ _))] => True | _ => False
  | _ => True

def Sched.ok (ops : Array Oper) : Sched → Nat → Array Bool → Bool → Bool
  | .fin, _, L, fl => !fl && (Region.ready .any ops L).isEmpty
  | .one i t, f, L, fl => !fl && match f with
    | 0 => false
    | n + 1 => match ops[i]? with
      | some o => (Region.ready .any ops L).contains i && Region.free .any ops L i && o.guard.isNone && opPure o.op && t.ok ops n (L.setIfInBounds i true) false
      | none => false
  | .alt i t o, f, L, fl => if fl then t.ok ops f (L.setIfInBounds i true) false && o.ok ops f L true
    else match f with
      | 0 => false
      | n + 1 => decide (Region.ready .any ops L = i :: o.alts) && t.ok ops n (L.setIfInBounds i true) false && o.ok ops n L true
  | .stop, _, _, fl => fl

def evSch (P : Program) (all : List Oper) : Sched → St → (St → Prop) → (V → St → Prop) → Prop
  | .fin, s, k, _ => k s
  | .one i t, s, k, x => match all[i]? with
    | some o => pureNow s o ∧ evOp P o s (fun v s' => evSch P all t (s'.set o.dst v) k x) (fun _ _ => False)
    | none => False
  | .alt i t o, s, k, x => (match all[i]? with
    | some oi => evOps P all [oi] s (fun s' => evSch P all t s' k x) x
    | none => False) ∧ evSch P all o s k x
  | .stop, _, _, _ => True

/-- The plan of a region: an operation that reads no memory first, else all that can come next. -/
def mkSched (ops : Array Oper) : Nat → Array Bool → Sched
  | 0, _ => .fin
  | n + 1, L =>
    let r := Region.ready .any ops L
    match r.find? fun i => match ops[i]? with | some o => Region.free .any ops L i && o.guard.isNone && opPure o.op | none => false with
    | some i => .one i (mkSched ops n (L.setIfInBounds i true))
    | none => if r.isEmpty then .fin else r.foldr (fun i o => .alt i (mkSched ops n (L.setIfInBounds i true)) o) .stop
def planOf (l : List Oper) : Sched := mkSched l.toArray l.length (Array.replicate l.length false)

def St.noCur (s : St) : St := ⟨⟨s.cur.nt, []⟩, s.rest, s.heap⟩

section
variable {P : Program} {B : Nat} {I0 : Nat → Nat → Prop} {w0 w : World} {c : Cx} {s : St} {a : Act} {as : List Act}

theorem Rel.noCur (r : Rel B I0 w0 c s a as w) {a' : Act} (hs : a'.tmps.size = a.tmps.size) (hd : a'.defers = a.defers) : Rel B I0 w0 c s.noCur a' as w :=
  ⟨r.below, r.size, r.obs, r.inj, ⟨by rw [hs]; exact r.cur.1, fun t => trivial⟩, r.rest, ⟨by simpa [amarks, hd] using r.marks.nodup, by simpa [amarks, hd] using r.marks.blk⟩⟩

theorem convert_int_any {t t' : TypeId} {y : Operand} {kk : IntKind} {n : Int} {k : V → Prop} {o : Oper} (ho : o.op = .convert t t' y) (ey : a.eval y = .int kk n) (h : evConvert P t t' (.c false [.d (.raw (.int kk n))]) s k) :
    ∃ u : IntKind × Int, (∀ w', (execOp a.eval o).run P w' = .ok (.value (.int u.1 u.2)) w') ∧ k (.raw (.int u.1 u.2)) := by
  unfold evConvert at h
  simp only at h
  split at h
  · rename_i p kd ht hk
    obtain ⟨g, n0⟩ := p
    obtain ⟨d, i, hu, _⟩ := ty_some ht
    refine ⟨(kd, kd.wrap n), fun w' => ?_, h⟩
    have : (convert t t' (.int kk n)).run P w' = .ok (.int kd (kd.wrap n)) w' := by
      unfold convert
      simp only [Sem.run_bind, run_underlying hu, run_underlying (convI_some hk), Result.andThen_ok]
      cases d <;> rfl
    simp only [execOp, ho, ey, Sem.run_bind, this, Result.andThen_ok, Sem.run_pure]
  · exact h.elim

/-- An operation that reads no memory. -/
theorem pure_run {o : Oper} {k : V → St → Prop} (r : Rel B I0 w0 c s a as w) (hp : opPure o.op = true) (hn : pureNow s o) (h : evOp P o s k (fun _ _ => False)) :
    ∃ u v, (∀ w', (execOp a.eval o).run P w' = .ok (.value u) w') ∧ VRep (imm B I0 c s.heap w) w s.heap c v u ∧ k v s := by
  cases ho : o.op <;> rw [ho] at hp <;> simp only [opPure, Bool.false_eq_true] at hp
  case move y => exact ⟨a.eval y, s.eval y, fun w' => by simp [execOp, ho], r.eval y, by simpa only [evOp, ho] using h⟩
  case assign y => exact ⟨a.eval y, s.eval y, fun w' => by simp [execOp, ho], r.eval y, by simpa only [evOp, ho] using h⟩
  case nilCheck y =>
    simp only [evOp, ho] at h
    have hv := r.eval y
    split at h
    · rename_i id off hy; rw [hy] at hv; obtain ⟨h1, e⟩ := hv; exact ⟨_, V.a (.ref id off), fun w' => by simp [execOp, ho, e], ⟨h1, rfl⟩, h⟩
    · rename_i id sz i j hy; rw [hy] at hv; obtain ⟨h1, e⟩ := hv; exact ⟨_, V.a (.el id sz i j), fun w' => by simp [execOp, ho, e], ⟨h1, rfl⟩, h⟩
    · rename_i m get hy; rw [hy] at hv; obtain ⟨b, o', e, h1⟩ := hv; exact ⟨_, V.a (.fel m get), fun w' => by simp [execOp, ho, e], ⟨b, o', rfl, h1⟩, h⟩
    · exact h.elim
  case fieldAddr t y f =>
    simp only [evOp, ho] at h
    have hy' := r.eval y
    unfold evFieldAddr at h
    split at h
    · rename_i off id q hf hy
      rw [hy] at hy'
      obtain ⟨hid, e⟩ := hy'
      exact ⟨.pointer (some ⟨c.ρ id, q + off, none⟩), .a (.ref id (q + off)), fun w' => by simp [execOp, ho, e, run_fieldAt hf, Addr.add_lit], ⟨hid, rfl⟩, h⟩
    · rename_i off id sz i j hf hy
      rw [hy] at hy'
      obtain ⟨hid, e⟩ := hy'
      exact ⟨.pointer (some ⟨c.ρ id, i * sz + (j + off), none⟩), .a (.el id sz i (j + off)), fun w' => by simp [execOp, ho, e, run_fieldAt hf, Addr.add_lit, Nat.add_assoc], ⟨hid, rfl⟩, h⟩
    · rename_i off m get hf hy
      rw [hy] at hy'
      obtain ⟨b, q, e, hc⟩ := hy'
      refine ⟨.pointer (some ⟨b, q + off, none⟩), .a (.fel (m - off) fun j => get (off + j)), fun w' => by simp [execOp, ho, e, run_fieldAt hf, Addr.add_lit], ⟨b, q + off, rfl, fun j hj => ?_⟩, h⟩
      rw [Nat.add_assoc]; exact hc (off + j) (by omega)
    · exact h.elim
  case convert t t' y =>
    have h' : evConvert P t t' (s.eval y) s fun v => k v s := by simpa only [evOp, evOp2, ho] using h
    simp only [pureNow, ho] at hn
    split at hn
    · rename_i kk n hy
      have hv := r.eval y
      rw [hy] at hv h'
      obtain ⟨e, _⟩ := hv
      obtain ⟨u, h1, h2⟩ := convert_int_any ho e h'
      exact ⟨_, V.raw _, h1, ⟨rfl, rfl⟩, h2⟩
    · exact hn.elim
  case binOp op t y z t' =>
    simp only [evOp, ho] at h
    have h0 := eqX_run (t' := t') r h
    clear h
    rcases h0 with h | ⟨b, hr, hk⟩
    rotate_left
    · refine ⟨.bool b, .raw (.bool b), fun w' => ?_, ⟨rfl, rfl⟩, hk⟩
      have := hr w'
      simp only [execOp, ho, Sem.run_bind] at this ⊢
      rw [this]; rfl
    have hy' := r.eval y
    have hz' := r.eval z
    have main : ∀ {u v q : Value}, a.eval y = u → a.eval z = v → binV op u v = some q → k (.raw q) s → ∃ u v, (∀ w', (execOp a.eval o).run P w' = .ok (.value u) w') ∧ VRep (imm B I0 c s.heap w) w s.heap c v u ∧ k v s := by
      intro u v q ey ez hb hk
      refine ⟨q, .raw q, fun w' => ?_, ⟨rfl, binV_one hb⟩, hk⟩
      have := run_binV (P := P) (t := t) (x := y) (y := z) hb w'
      simp only [execOp, ho, ey, ez, Sem.run_bind] at this ⊢
      rw [this]; rfl
    have ptr : ∀ (p q : Option Addr) (b : Bool), a.eval y = .pointer p → a.eval z = .pointer q → (∀ w, (binOp op t (.pointer p) (.pointer q)).run P w = .ok (.bool b) w) → k (.raw (.bool b)) s → ∃ u v, (∀ w', (execOp a.eval o).run P w' = .ok (.value u) w') ∧ VRep (imm B I0 c s.heap w) w s.heap c v u ∧ k v s :=
      fun p q b ey ez hb hk => ⟨.bool b, .raw (.bool b), fun w' => by simp only [execOp, ho, ey, ez, Sem.run_bind, run_eqGuard_ptr, Result.andThen_ok, hb, Sem.run_pure], ⟨rfl, rfl⟩, hk⟩
    unfold evCmp at h
    split at h
    · rename_i hy hz; rw [hy] at hy'; rw [hz] at hz'
      split at h
      · rename_i hp; obtain ⟨e, j, h1, h2⟩ := isPtr_some hp; exact ptr none none true hy'.1 hz'.1 (fun w => (run_ptr_none w none h1 h2).1) h
      · exact h.elim
    · rename_i hy hz; rw [hy] at hy'; rw [hz] at hz'
      split at h
      · rename_i hp; obtain ⟨e, j, h1, h2⟩ := isPtr_some hp; exact ptr none none false hy'.1 hz'.1 (fun w => (run_ptr_none w none h1 h2).2) h
      · exact h.elim
    · rename_i hy hz; rw [hy] at hy'; rw [hz] at hz'
      split at h
      · rename_i hp; obtain ⟨e, j, h1, h2⟩ := isPtr_some hp; exact ptr _ none false hy'.2 hz'.1 (fun w => (run_ptr_none w _ h1 h2).1) h
      · exact h.elim
    · rename_i hy hz; rw [hy] at hy'; rw [hz] at hz'
      split at h
      · rename_i hp; obtain ⟨e, j, h1, h2⟩ := isPtr_some hp; exact ptr _ none true hy'.2 hz'.1 (fun w => (run_ptr_none w _ h1 h2).2) h
      · exact h.elim
    · rename_i hy hz; rw [hy] at hy'; rw [hz] at hz'
      split at h
      · rename_i hp; obtain ⟨rfl, rfl, hp⟩ := hp; obtain ⟨e, j, h1, h2⟩ := isPtr_some hp; exact ptr _ _ true hy'.2 hz'.2 (fun w => run_eql_ptr_same w _ h1 h2) h
      · exact h.elim
    · rename_i hy hz; rw [hy] at hy'; rw [hz] at hz'
      split at h
      · rename_i hp; obtain ⟨rfl, rfl, hp⟩ := hp; obtain ⟨e, j, h1, h2⟩ := isPtr_some hp; exact ptr _ _ false hy'.2 hz'.2 (fun w => Lib.run_neq_ptr_same w _ h1 h2) h
      · exact h.elim
    unfold evBin at h
    split at h
    · rename_i ka n kb m hy hz
      rw [hy] at hy'; rw [hz] at hz'
      obtain ⟨ey, _⟩ := hy'
      obtain ⟨ez, _⟩ := hz'
      split at h
      · simp at hp
      · simp at hp
      · split at h
        · rename_i v hb; exact main ey ez hb h
        · exact h.elim
    · rename_i p q hy hz
      rw [hy] at hy'; rw [hz] at hz'
      obtain ⟨ey, _⟩ := hy'
      obtain ⟨ez, _⟩ := hz'
      split at h
      · split at h
        · rename_i hl
          refine ⟨.string (p ++ q), .raw _, fun w' => ?_, ⟨rfl, rfl⟩, h⟩
          simp [execOp, ho, ey, ez, Sem.run_bind, run_eqGuard_string, binOp, run_string_add_sum w' p q hl]
        · exact h.elim
      · split at h
        · rename_i v hb; exact main ey ez hb h
        · exact h.elim
    · exact h.elim

/-- One operation. -/
theorem wpOp_ev (hG : GlobOk P B w0) {ops : Array Oper} {i : Nat} {o : Oper} {Q : Exit → Act → World → Prop} {K : Act → World → Prop} {k : St → Prop} {x : V → St → Prop} (r : Rel B I0 w0 c s a as w) (hi : ops[i]? = some o)
    (hd : dstOk s.cur.nt o = true) (h : evOps P ops.toList [o] s k x)
    (hk : ∀ s' c' a' w', Rel B I0 w0 c' s' a' as w' → Kin a a' → k s' → K a' w')
    (hx : ∀ v s' c' w' u, Rel B I0 w0 c' s' a as w' → VRep (imm B I0 c' s'.heap w') w' s'.heap c' v u → x v s' → Q (.panic [{ v := u, recovered := false }]) a w') : wpOpIn (fen none) 0 P ops Q i K a w := by
  have main : evOp P o s (fun v s' => k (s'.set o.dst v)) x → o.wpIn (fen none) 0 P a w K Q := by
    intro h
    refine good_evOp r h hG (evOp_nd h) none K Q (fun v s' c' w' u r' hv hk' => ?_) hx
    have hnt : s'.cur.nt = s.cur.nt := by rw [← r'.cur.1, ← r.cur.1]
    exact hk _ c' _ w' (r'.put (d := o.dst) (nt := s.cur.nt) hnt.symm hd hv) (Kin.put _ _ _) hk'
  unfold wpOpIn
  simp only [hi]
  unfold evOps at h
  split at h
  · rename_i hg
    rw [if_pos (by simp [Region.wanted, hg])]
    exact (main (by simpa only [evOps] using h))
  · rename_i j want hg
    split at h
    · rename_i b hb
      have hy := yielded_gval r hb
      split at h
      · rename_i e
        subst e
        rw [if_pos (by simp [Region.wanted, hg, hy])]
        exact (main (by simpa only [evOps] using h))
      · rename_i e
        rw [if_neg (by simp [Region.wanted, hg, hy, e])]
        exact ⟨fun _ _ => trivial, hk _ c _ w (r.put (d := o.dst) (nt := s.cur.nt) (v := .unk) (u := undef) rfl hd trivial) (Kin.put _ _ _) (by simpa only [evOps] using h)⟩
    · exact h.elim

theorem about_pure {o : Oper} (hp : opPure o.op = true) (w : World) (ρ : Operand → Value) : o.about P w ρ = none := by
  unfold Oper.about
  cases ho : o.op <;> first | rfl | (rw [ho] at hp; simp [opPure] at hp)

theorem evSch_sound (hG : GlobOk P B w0) {ops : Array Oper} {Q : Exit → Act → World → Prop} {k : St → Prop} {x : V → St → Prop} (nt : Nat) (a0 : Act) (hn0 : a0.tmps.size = nt) (hsel : Region.noSelect ops = true) (hdst : ops.toList.all (dstOk nt) = true)
    (hk : ∀ s' c' a' w', Rel B I0 w0 c' s' a' as w' → Kin a0 a' → k s' → Q .normal a' w')
    (hx : ∀ v s' c' a' w' u, Rel B I0 w0 c' s' a' as w' → Kin a0 a' → VRep (imm B I0 c' s'.heap w') w' s'.heap c' v u → x v s' → Q (.panic [{ v := u, recovered := false }]) a' w')
    (hQ : ∀ ch (a a' : Act) w, a'.tmps.size = a.tmps.size → a'.defers = a.defers → Q (.panic ch) a' w → Q (.panic ch) a w) :
    ∀ (sch : Sched) (f : Nat) (L : Array Bool) (s : St) (c : Cx) (a : Act) (w : World), Rel B I0 w0 c s a as w → Kin a0 a → evSch P ops.toList sch s k x →
      (sch.ok ops f L false = true → wpAnyIn (fen none) 0 P .any ops Q f L a w) ∧
      (sch.ok ops f L true = true → ∀ j ∈ sch.alts, wpOpIn (fen none) 0 P ops Q j (wpAnyIn (fen none) 0 P .any ops Q f (L.setIfInBounds j true)) a w)
  | .fin, f, L, s, c, a, w, r, hn, h => by
    refine ⟨fun ho => ?_, fun ho => by simp [Sched.ok] at ho⟩
    simp only [Sched.ok, Bool.not_false, Bool.true_and, List.isEmpty_iff] at ho
    exact wpAnyIn_done ho (hk s c a w r hn h) f
  | .stop, f, L, s, c, a, w, r, hn, h => ⟨fun ho => by simp [Sched.ok] at ho, fun _ j hj => by simp [Sched.alts] at hj⟩
  | .one i t, f, L, s, c, a, w, r, hn, h => by
    refine ⟨fun ho => ?_, fun ho => by simp [Sched.ok] at ho⟩
    cases f with
    | zero => simp [Sched.ok] at ho
    | succ n =>
      simp only [Sched.ok, Bool.not_false, Bool.true_and] at ho
      split at ho
      · rename_i o hi
        simp only [Bool.and_eq_true, Option.isNone_iff_eq_none] at ho
        obtain ⟨⟨⟨⟨hr, hf⟩, hg⟩, hp⟩, ht⟩ := ho
        have hi' : ops.toList[i]? = some o := by simpa using hi
        simp only [evSch, hi'] at h
        obtain ⟨hnow, h⟩ := h
        obtain ⟨u, v, hrun, hv, hk'⟩ := pure_run r hp hnow h
        have hd : dstOk nt o = true := List.all_eq_true.1 hdst o (List.mem_of_getElem? hi')
        have hnt : s.cur.nt = nt := by rw [← r.cur.1, hn.1]; exact hn0
        refine wpAnyIn_take rfl hi hsel hf hr (fun ch a w hq => hQ ch a _ w (size_put _ _ _) (by cases o.dst <;> rfl) hq) ⟨.inl ⟨by simp [Region.wanted, hg], hrun⟩, fun w => about_pure hp w _⟩ ?_
        exact (evSch_sound hG nt a0 hn0 hsel hdst hk hx hQ t n _ _ c _ w (r.put (d := o.dst) (nt := nt) hnt.symm hd hv) (hn.trans (Kin.put _ _ _)) hk').1 ht
      · cases ho
  | .alt i t o, f, L, s, c, a, w, r, hn, h => by
    simp only [evSch] at h
    obtain ⟨h1, h2⟩ := h
    have step : ∀ n, t.ok ops n (L.setIfInBounds i true) false = true → wpOpIn (fen none) 0 P ops Q i (wpAnyIn (fen none) 0 P .any ops Q n (L.setIfInBounds i true)) a w := by
      intro n ht
      split at h1
      · rename_i oi hi
        have hd : dstOk nt oi = true := List.all_eq_true.1 hdst oi (List.mem_of_getElem? hi)
        have hnt : s.cur.nt = nt := by rw [← r.cur.1, hn.1]; exact hn0
        refine wpOp_ev hG r (by simpa using hi) (by rw [hnt]; exact hd) h1 (fun s' c' a' w' r' hs hk' => ?_) (fun v s' c' w' u r' hv hx' => hx v s' c' a w' u r' hn hv hx')
        exact (evSch_sound hG nt a0 hn0 hsel hdst hk hx hQ t n _ s' c' a' w' r' (hn.trans hs) hk').1 ht
      · exact h1.elim
    refine ⟨fun ho => ?_, fun ho j hj => ?_⟩
    · cases f with
      | zero => simp [Sched.ok] at ho
      | succ n =>
        simp only [Sched.ok, Bool.false_eq_true, if_false, Bool.and_eq_true, decide_eq_true_eq] at ho
        obtain ⟨⟨hr, ht⟩, ho⟩ := ho
        refine wpAnyIn_all hr (by simp) fun j hj => ?_
        rcases List.mem_cons.1 hj with rfl | hj
        · exact step n ht
        · exact (evSch_sound hG nt a0 hn0 hsel hdst hk hx hQ o n L s c a w r hn h2).2 ho j hj
    · simp only [Sched.ok, if_true, Bool.and_eq_true] at ho
      simp only [Sched.alts, List.mem_cons] at hj
      rcases hj with rfl | hj
      · exact step f ho.1
      · exact (evSch_sound hG nt a0 hn0 hsel hdst hk hx hQ o f L s c a w r hn h2).2 ho.2 j hj

/-- No operation defers. -/
def notDefer : Op → Bool
  | .defer _ => false
  | _ => true
def noDefer (l : List Oper) : Bool := l.all fun o => notDefer o.op
theorem noDefer_spec {l : List Oper} (h : noDefer l = true) (o : Oper) (ho : o ∈ l) (c : Call) : o.op ≠ .defer c := by
  intro e
  have := List.all_eq_true.1 h o ho
  rw [e] at this
  cases this

theorem wpAnyIn_rd (rd : Option Nat) {ops : Array Oper} {Q : Exit → Act → World → Prop} (hnd : ∀ o ∈ ops.toList, ∀ c, o.op ≠ .defer c) : ∀ (f : Nat) (L : Array Bool) (a : Act) (w : World),
    wpAnyIn (fen none) 0 P .any ops Q f L a w → wpAnyIn (fen rd) 0 P .any ops Q f L a w
  | 0, L, a, w, h => h
  | f + 1, L, a, w, h => ⟨h.1, fun i hi => by
    have h2 := h.2 i hi
    refine wpOpIn_mono (K := wpAnyIn (fen none) 0 P .any ops Q f (L.setIfInBounds i true)) (fun a w h => wpAnyIn_rd rd hnd f _ a w h) ?_
    unfold wpOpIn at h2 ⊢
    split
    · rename_i hn; simp only [hn] at h2; exact h2
    · rename_i o ho
      simp only [ho] at h2
      have hd := hnd o (List.mem_of_getElem? (by simpa using ho))
      split
      · rename_i hw
        simp only [hw, if_true] at h2
        unfold Oper.wpIn at h2 ⊢
        rw [semAt_fen none _ hd] at h2
        rw [semAt_fen rd _ hd]
        exact h2
      · rename_i hw; simp only [hw] at h2; exact h2⟩

/-- A region that draws its order, by a plan. -/
theorem ADraw.of_plan {id : Nat} {l : List Oper} {K : AX → St → Prop} (sch : Sched) (hm : P.follows .mixedOrders = true)
    (hok : (Region.noSelect ⟨l⟩ && sch.ok ⟨l⟩ l.length (Array.replicate l.length false) false && l.all (dstOk s.cur.nt) && noDefer l) = true)
    (h : evSch P l sch s (fun s' => K .normal s') (fun v s' => K (.panic v) s'.noCur)) : ADraw P id ⟨l⟩ s K := by
  intro rd hrd B I0 w0 hG c a as w r
  simp only [Bool.and_eq_true] at hok
  obtain ⟨⟨⟨h1, h2⟩, h3⟩, h4⟩ := hok
  let Q : Exit → Act → World → Prop := fun e a' w' => match e with
    | .normal => ∃ (s' : St) (c' : Cx), Rel B I0 w0 c' s' a' as w' ∧ Kin a a' ∧ K .normal s'
    | .panic ch => ∃ (v : V) (s' : St) (c' : Cx) (u : Value), ch = [{ v := u, recovered := false }] ∧ Rel B I0 w0 c' s'.noCur a' as w' ∧ Kin a a' ∧ VRep (imm B I0 c' s'.heap w') w' s'.heap c' v u ∧ K (.panic v) s'.noCur
    | _ => False
  have hw : (Code.region id ⟨l⟩ true).wpIn (fen rd) 0 P Q a w := by
    refine wpIn_region_any hm (wpAnyIn_rd rd (noDefer_spec h4) _ _ _ _ ?_)
    have r1 : Rel B I0 w0 c s a as { w with drawn := w.drawn + 1 } := r.same rfl rfl rfl rfl
    refine (evSch_sound hG (Q := Q) s.cur.nt a r.cur.1 h1 h3 (fun s' c' a' w' r' hs hk => ⟨s', c', r', hs, hk⟩)
      (fun v s' c' a' w' u r' hs hv hx => ⟨v, s', c', u, rfl, r'.noCur rfl rfl, hs, hv, hx⟩)
      (fun ch a1 a2 w' hs hd hq => ?_) sch l.length (Array.replicate l.length false) s c a _ r1 (Kin.refl a) h).1 h2
    obtain ⟨v, s', c', u, e, r', hs', hv, hx⟩ := hq
    refine ⟨v, s', c', u, e, ?_, ⟨hs ▸ hs'.1, by rw [← hd]; exact hs'.2⟩, hv, hx⟩
    have := r'.noCur (a' := a1) hs.symm hd.symm
    exact this
  refine wpIn_mono hw ?_
  intro e a' w' hq
  cases e with
  | normal => obtain ⟨s', c', h1, h2, h3⟩ := hq; exact ⟨.normal, s', c', trivial, h1, h2, h3⟩
  | panic ch => obtain ⟨v, s', c', u, rfl, h1, h2, h3, h4⟩ := hq; exact ⟨.panic v, s'.noCur, c', ⟨u, rfl, h3⟩, h1, h2, h4⟩
  | _ => exact hq.elim
end
end Go.Proofs.Vl
