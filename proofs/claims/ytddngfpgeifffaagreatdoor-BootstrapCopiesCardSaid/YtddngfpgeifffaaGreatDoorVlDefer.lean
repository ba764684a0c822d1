/- A part of the proof: Defer. -/
import Derived.RecoverIn
import Derived.Test.YtddngfpgeifffaaGreatDoorVlCall
set_option linter.unusedVariables false
set_option linter.unusedSimpArgs false
/- A small logic of abstract values: a deferred function that recovers. -/
namespace Go.Proofs.Vl
open Go Go.RowKit

/-- An activation's temporaries may change, its deferred calls stay. -/
def Kin0 (a a' : Act) : Prop := a'.tmps.size = a.tmps.size ∧ a'.defers = a.defers
theorem Kin0.refl (a : Act) : Kin0 a a := ⟨rfl, rfl⟩
theorem Kin0.trans {a b c : Act} (h : Kin0 a b) (k : Kin0 b c) : Kin0 a c := ⟨k.1.trans h.1, k.2.trans h.2⟩
theorem Kin0.put (a : Act) (d : Option Tmp) (u : Value) : Kin0 a (a.put d u) := ⟨size_put a d u, by cases d <;> rfl⟩

section
variable {P : Program} {B : Nat} {I0 : Nat → Nat → Prop} {w0 w : World} {c : Cx} {s : St} {a : Act} {as : List Act}

theorem wpList_ev0 (hG : GlobOk P B w0) (rd : Option Nat) (ops : Array Oper) {Q : Exit → Act → World → Prop} : ∀ (l : List Oper) {c : Cx} {s : St} {a : Act} {w : World} {k : St → Prop} {x : V → St → Prop}, Rel B I0 w0 c s a as w →
    l.all (dstOk s.cur.nt) = true → evOps P ops.toList l s k x →
    (∀ s' c' a' w', Rel B I0 w0 c' s' a' as w' → Kin0 a a' → k s' → Q .normal a' w') →
    (∀ v s' c' a' w' u, Rel B I0 w0 c' s' a' as w' → Kin0 a a' → VRep (imm B I0 c' s'.heap w') w' s'.heap c' v u → x v s' → Q (.panic [{ v := u, recovered := false }]) a' w') →
    wpListIn (fen rd) 0 P ops Q l a w
  | [], c, s, a, w, k, x, r, _, h, hk, _ => hk s c a w r (Kin0.refl a) h
  | o :: rest, c, s, a, w, k, x, r, hd, h, hk, hx => by
    simp only [List.all_cons, Bool.and_eq_true] at hd
    obtain ⟨hd1, hd2⟩ := hd
    have main : evOp P o s (fun v s' => evOps P ops.toList rest (s'.set o.dst v) k x) x → o.wpIn (fen rd) 0 P a w (wpListIn (fen rd) 0 P ops Q rest) Q := by
      intro h
      refine good_evOp r h hG (evOp_nd h) rd (wpListIn (fen rd) 0 P ops Q rest) Q (fun v s' c' w' u r' hv hk' => ?_) (fun v s' c' w' u r' hv hx' => hx v s' c' a w' u r' (Kin0.refl a) hv hx')
      have hnt : s'.cur.nt = s.cur.nt := by rw [← r'.cur.1, ← r.cur.1]
      have r2 := r'.put (d := o.dst) (nt := s.cur.nt) hnt.symm hd1 hv
      refine wpList_ev0 hG rd ops rest r2 (by rw [St.nt_set, hnt]; exact hd2) hk' (fun s2 c2 a2 w2 r3 hs3 hk3 => hk s2 c2 a2 w2 r3 ((Kin0.put _ _ _).trans hs3) hk3) (fun v s2 c2 a2 w2 u r3 hs3 hv3 hx3 => hx v s2 c2 a2 w2 u r3 ((Kin0.put _ _ _).trans hs3) hv3 hx3)
    unfold evOps at h
    unfold wpListIn
    split at h
    · rename_i hg
      rw [if_pos (by simp [Region.wanted, hg])]
      exact main h
    · rename_i j want hg
      split at h
      · rename_i b hb
        have hy := yielded_gval r hb
        split at h
        · rename_i e
          subst e
          rw [if_pos (by simp [Region.wanted, hg, hy])]
          exact main h
        · rename_i e
          rw [if_neg (by simp [Region.wanted, hg, hy, e])]
          have r2 := r.put (d := o.dst) (nt := s.cur.nt) (v := .unk) (u := undef) rfl hd1 trivial
          exact ⟨fun _ _ => trivial, wpList_ev0 hG rd ops rest r2 (by rw [St.nt_set]; exact hd2) h (fun s2 c2 a2 w2 r3 hs3 hk3 => hk s2 c2 a2 w2 r3 ((Kin0.put _ _ _).trans hs3) hk3) (fun v s2 c2 a2 w2 u r3 hs3 hv3 hx3 => hx v s2 c2 a2 w2 u r3 ((Kin0.put _ _ _).trans hs3) hv3 hx3)⟩
      · exact h.elim

/-- Code of regions in one order, conditions, nothing else. -/
def flat : Code → Bool
  | .skip => true
  | .region _ _ draw => !draw
  | .seq x y => flat x && flat y
  | .cond _ x y => flat x && flat y
  | .ret => true
  | _ => false
theorem awp_flat : ∀ (cd : Code) {s : St} {K : AX → St → Prop} {c : Cx} {a : Act} {w : World}, flat cd = true → dstsOk s.cur.nt cd = true → awp P cd s K → GlobOk P B w0 → Rel B I0 w0 c s a as w →
    cd.wpIn (fen none) 0 P (fun e a' w' => ∃ ax s' c', XRep (imm B I0 c' s'.heap w') w' s'.heap c' ax e ∧ Rel B I0 w0 c' s' a' as w' ∧ Kin0 a a' ∧ K ax s') a w
  | .skip, s, K, c, a, w, _, _, h, hG, r => wpIn_skip ⟨.normal, s, c, trivial, r, Kin0.refl a, h⟩
  | .region id ops draw, s, K, c, a, w, hf, hd, h, hG, r => by
    simp only [flat, Bool.not_eq_true'] at hf
    subst hf
    simp only [awp, Bool.false_eq_true, if_false] at h
    simp only [dstsOk, Bool.false_or] at hd
    refine wpIn_region_list ?_
    exact wpList_ev0 hG none ops ops.toList r hd h (fun s' c' a' w' r' hs hk => ⟨.normal, s', c', trivial, r', hs, hk⟩) (fun v s' c' a' w' u r' hs hv hx => ⟨.panic v, s', c', ⟨u, rfl, hv⟩, r', hs, hx⟩)
  | .seq x y, s, K, c, a, w, hf, hd, h, hG, r => by
    simp only [flat, Bool.and_eq_true] at hf
    simp only [dstsOk, Bool.and_eq_true] at hd
    refine wpIn_seq (wpIn_mono (awp_flat x hf.1 hd.1 h hG r) ?_)
    rintro e a' w' ⟨ax, s', c', hx, r', hs, hk⟩
    cases ax with
    | normal =>
      cases e <;> simp only [XRep] at hx
      simp only [thenK] at hk
      have hnt : s'.cur.nt = s.cur.nt := by rw [← r'.cur.1, ← r.cur.1, hs.1]
      refine wpIn_mono (awp_flat y hf.2 (by rw [hnt]; exact hd.2) hk hG r') ?_
      rintro e2 a2 w2 ⟨ax2, s2, c2, hx2, r2, hs2, hk2⟩
      exact ⟨ax2, s2, c2, hx2, r2, hs.trans hs2, hk2⟩
    | exit i => cases e <;> simp only [XRep] at hx; subst hx; exact ⟨.exit i, s', c', rfl, r', hs, hk⟩
    | ret => cases e <;> simp only [XRep] at hx; exact ⟨.ret, s', c', trivial, r', hs, hk⟩
    | panic v => cases e <;> simp only [XRep] at hx; exact ⟨.panic v, s', c', hx, r', hs, hk⟩
  | .cond cc x y, s, K, c, a, w, hf, hd, h, hG, r => by
    simp only [flat, Bool.and_eq_true] at hf
    simp only [dstsOk, Bool.and_eq_true] at hd
    simp only [awp] at h
    split at h
    · rename_i b hb
      have hr := r.eval cc
      rw [hb] at hr
      obtain ⟨e, _⟩ := hr
      refine wpIn_cond (t := b) e ?_
      split at h
      · rename_i hb'; rw [if_pos hb']; exact awp_flat x hf.1 hd.1 h hG r
      · rename_i hb'; rw [if_neg hb']; exact awp_flat y hf.2 hd.2 h hG r
    · exact h.elim
  | .ret, s, K, c, a, w, _, _, h, hG, r => wpIn_ret ⟨.ret, s, c, trivial, r, Kin0.refl a, h⟩

theorem leaves_marks2 {fn : Func} {R : Ending → World → Prop} {ds0 : List Deferred} : ∀ (ms : List Deferred) (a : Act) (w : World) (md : FrameMode), md ≠ .run → a.defers = ms ++ ds0 → (∀ d ∈ ms, (markOf d).isSome) → Rel B I0 w0 c s a as w →
    (∀ a' w', a'.tmps = a.tmps → a'.defers = ds0 → Rel B I0 w0 c s a' as w' → (∀ b o, imm B I0 c s.heap w b o → imm B I0 c s.heap w' b o) → (∀ b o, w'.cell? ⟨b, o, none⟩ = w.cell? ⟨b, o, none⟩) → LeavesInM Fence.wide 0 P fn a.tmps R ds0 md w') →
    LeavesInM Fence.wide 0 P fn a.tmps R (ms ++ ds0) md w
  | [], a, w, md, hmd, hd, _, r, h => h a w rfl hd r (fun _ _ h => h) (fun _ _ => rfl)
  | d :: ds, a, w, md, hmd, hd, hm, r, h => by
    have hd1 := hm d (by simp)
    obtain ⟨g, hg⟩ := Option.isSome_iff_exists.1 hd1
    have hg' : d.target = .collected g := by
      unfold markOf at hg
      split at hg
      · rename_i q e; rw [e]; simp at hg; rw [hg]
      · cases hg
    obtain ⟨w', h1, r', hsz, hcell⟩ := r.take (P := P) (ds := ds ++ ds0) hd hg'
    refine ⟨hmd, .inl ⟨g, w', hg', h1, ?_⟩⟩
    have himm : ∀ b o, imm B I0 c s.heap w b o → imm B I0 c s.heap w' b o := by
      rintro b o (h | ⟨h1, h2, h3⟩)
      · exact .inl h
      · exact .inr ⟨h1, by omega, h3⟩
    exact leaves_marks2 ds { a with defers := ds ++ ds0 } w' md hmd rfl (fun d hd => hm d (by simp [hd])) r' (fun a' w2 ht hd' r2 hi hc => h a' w2 ht hd' r2 (fun b o hb => hi b o (himm b o hb)) (fun b o => (hc b o).trans (hcell b o)))

/-- Behind the deferred function: its frame is left, the caller's results are read. -/
def backK (P : Program) (fn : Func) (k : V → St → Prop) : AX → St → Prop
  | .normal, s | .ret, s => match s.rest with
    | f :: r => evRes P ⟨f, r, s.heap⟩ fn.results.toList fun l => popK ⟨f, r, s.heap⟩ fun s' => k (resV l) s'
    | [] => False
  | _, _ => False
/-- The deferred function runs, its frame lies ready beneath; what it recovers is v. -/
def recK (P : Program) (fn : Func) (tr tx : Nat) (body2 : Code) (k : V → St → Prop) (v : V) (s : St) : Prop :=
  match s.rest with
  | gf :: r => awp P body2 ⟨(gf.set tr v).set tx v, s.cur :: r, s.heap⟩ (backK P fn k)
  | [] => False
def deferK (P : Program) (fn : Func) (tr tx : Nat) (body2 : Code) (k : V → St → Prop) : AX → St → Prop
  | .normal, s | .ret, s => recK P fn tr tx body2 k (.raw .nilIface) s
  | .panic v, s => recK P fn tr tx body2 k v s
  | .exit _, _ => False
/-- The deferred call's own frame is laid ready. -/
def ghostK (P : Program) (h : FuncId) (tf nt2 : Nat) (K : St → Prop) (s : St) : Prop :=
  match s.cur.get tf with
  | .c false [.clo id] => match s.heap[id]? with
    | some (.clo (.func h') [] cap) => h' = h ∧ cap.length ≤ nt2 ∧ K ⟨s.cur, ⟨nt2, argTL cap 0⟩ :: s.rest, s.heap⟩
    | _ => False
  | _ => False

theorem ACall.of_recover {g h : FuncId} {fn fn2 : Func} {i0 i1 j0 : Nat} {l0 : List Oper} {tf tr tx : Nat} {cap : List Operand} {rest body2 : Code} {ty1 ty2 ty3 ty4 : TypeId} {p1 p2 p3 p4 : String} {af1 af2 af3 af4 : Array Edge} {ct : Array TypeId}
    {args : List (Bool × List At)} {k x : V → St → Prop} (hf : P.funcs[g]? = some fn)
    (hb : fn.body = some (.seq (.region i0 ⟨l0⟩ false) (.seq (.region i1 ⟨[⟨some tf, .makeFunc (.func h) ⟨[]⟩ ⟨cap⟩, ty1, p1, af1, none⟩, ⟨none, .defer ⟨.value (.tmp tf), ⟨[]⟩, ct⟩, ty2, p2, af2, none⟩]⟩ false) rest)))
    (hf2 : P.funcs[h]? = some fn2) (hb2 : fn2.body = some (.seq (.region j0 ⟨[⟨some tr, .call ⟨.builtin .recover, ⟨[]⟩, ⟨[]⟩⟩, ty3, p3, af3, none⟩, ⟨some tx, .assign (.tmp tr), ty4, p4, af4, none⟩]⟩ false) body2))
    (hr2 : fn2.results = ⟨[]⟩) (hc : callable P h = true)
    (hok : (l0.all (dstOk fn.ntmps) && decide (tf < fn.ntmps) && dstsOk fn.ntmps rest && decide (tr < fn2.ntmps) && decide (tx < fn2.ntmps) && decide (tr ≠ tx) && flat body2 && dstsOk fn2.ntmps body2) = true)
    (hn : args.length ≤ fn.ntmps)
    (hm : evOps P l0 l0 (enterSt s fn.ntmps args) (fun s1 => evOp P ⟨some tf, .makeFunc (.func h) ⟨[]⟩ ⟨cap⟩, ty1, p1, af1, none⟩ s1 (fun v s2 => ghostK P h tf fn2.ntmps (fun s3 => awp P rest s3 (deferK P fn tr tx body2 k)) (s2.set (some tf) v)) (fun _ _ => False)) (fun _ _ => False)) :
    ACall P g args s k x := by
  intro B I0 w0 hG c a as w vs r hv
  simp only [Bool.and_eq_true, decide_eq_true_eq] at hok
  obtain ⟨⟨⟨⟨⟨⟨⟨hd0, htf⟩, hdr⟩, htr⟩, htx⟩, htrx⟩, hfl⟩, hd2⟩ := hok
  have hvl : vs.size ≤ fn.ntmps := by have := hv.length; simp at this; omega
  have re := r.enter hv hvl
  refine (callsIn_wide (n := 0)).1 (callsIn_of_wp_marks hf hb trivial ?_)
  have hF : (fen none) = Fence.wide := rfl
  rw [← hF]
  refine wpIn_seq (wpIn_region_list (wpList_ev0 hG none ⟨l0⟩ l0 re hd0 hm (fun s1 c1 a1 w1 r1 hk1 hm1 => ?_) (fun v s' c' a' w' u r' _ _ hx => hx.elim)))
  have hdf1 : a1.defers = [] := hk1.2
  have hnt1 : s1.cur.nt = fn.ntmps := by rw [← r1.cur.1, hk1.1]; exact re.cur.1
  refine wpIn_seq (wpIn_region_list ?_)
  unfold wpListIn
  rw [if_pos (by simp [Region.wanted])]
  refine good_evOp r1 hm1 hG (evOp_nd hm1) none _ _ (fun v s2 c2 w2 u r2 hv2 hk2 => ?_) (fun v s' c' w' u r' hv' hx' => hx'.elim)
  have hnt2 : s2.cur.nt = fn.ntmps := by rw [← hnt1, ← r2.cur.1, ← r1.cur.1]
  have r3 := r2.put (d := some tf) (nt := fn.ntmps) hnt2.symm (by simpa using htf) hv2
  have hnt3 : (s2.set (some tf) v).cur.nt = fn.ntmps := by rw [St.nt_set]; exact hnt2
  generalize s2.set (some tf) v = s3 at hk2 r3 hnt3
  simp only at r3 ⊢
  have ha3 : (a1.put (some tf) u).defers = [] := by simpa [Act.put] using hdf1
  generalize a1.put (some tf) u = a3 at r3 ha3 ⊢
  unfold ghostK at hk2
  split at hk2
  rotate_left
  · exact hk2.elim
  rename_i id hid
  split at hk2
  rotate_left
  · exact hk2.elim
  rename_i h' caps hob
  obtain ⟨rfl, hcl, hk2⟩ := hk2
  have hclo := r3.cur.2 tf
  rw [hid] at hclo
  obtain ⟨_, eγ0, _⟩ := hclo
  obtain ⟨fs, cs, eγ, hfs, hcs⟩ := r3.obs id _ hob
  have hfs0 : fs = #[] := by
    have := hfs.length
    simp at this
    exact Array.eq_empty_of_size_eq_zero this.symm
  subst hfs0
  have ef : a3.tmps.getD tf undef = .func (.func h') #[] cs := eγ0.trans eγ
  have hcsl : cs.size ≤ fn2.ntmps := by have := hcs.length; simp at this; omega
  let d : Deferred := { target := .fn (.func h') cs, args := #[] }
  let gact : Act := { tmps := cs ++ Array.replicate (fn2.ntmps - cs.size) undef, defers := [] }
  have hm0 : List.filterMap markOf [d] = [] := rfl
  have re2 := r3.enter hcs hcsl
  have r4 : Rel B I0 w0 c2 ⟨s3.cur, ⟨fn2.ntmps, argTL caps 0⟩ :: s3.rest, s3.heap⟩ { a3 with defers := [d] } (gact :: a :: as) w2 :=
    ⟨re2.below, re2.size, re2.obs, re2.inj, re2.rest.1, ⟨re2.cur, re2.rest.2⟩, ⟨by have := r3.marks.nodup; simpa [amarks, ha3, hm0, gact] using this, by have := r3.marks.blk; simpa [amarks, ha3, hm0, gact] using this⟩⟩
  unfold wpListIn
  rw [if_pos (by simp [Region.wanted])]
  refine ⟨fun _ _ => trivial, ?_⟩
  have hrun : ((⟨none, .defer ⟨.value (.tmp tf), ⟨[]⟩, ct⟩, ty2, p2, af2, none⟩ : Oper).semAt (fen none).round a3.eval).run P w2 = .ok (.defer d) w2 := by
    rw [show (fen none).round = none from rfl, Oper.semAt_none]
    have e1 : a3.eval (.tmp tf) = .func (.func h') #[] cs := ef
    simp [execOp, resolve, e1, Deferred.ofValue, Sem.run_bind, d]
  rw [hrun, Oper.uponIn_defer]
  unfold wpListIn
  have ea : (Act.put { a3 with defers := d :: a3.defers } none undef) = { a3 with defers := [d] } := by rw [ha3]; rfl
  show Exit.then _ _ .normal (Act.put { a3 with defers := d :: a3.defers } none undef) w2
  rw [ea]
  refine wpIn_mono (awp_sound rest (by rw [hnt3]; exact hdr) hk2 none (fun e => by cases e) B I0 w0 hG c2 _ _ w2 r4) ?_
  let R : Ending → World → Prop := fun e w' =>
    (∃ u v s' c', e = .returned u ∧ Rel B I0 w0 c' s' a as w' ∧ VRep (imm B I0 c' s'.heap w') w' s'.heap c' v u ∧ k v s') ∨
    (∃ u v s' c', e = .panicked [{ v := u, recovered := false }] ∧ Rel B I0 w0 c' s' a as w' ∧ VRep (imm B I0 c' s'.heap w') w' s'.heap c' v u ∧ x v s')
  have fin : ∀ (md : FrameMode) (v : V) (u : Value) (c' : Cx) (s' : St) (a' : Act) (w' : World), (md = .returning ∧ u = .nilIface) ∨ (md = .panicking [{ v := u, recovered := false }]) → a'.defers = [d] → Rel B I0 w0 c' s' a' (gact :: a :: as) w' →
      VRep (imm B I0 c' s'.heap w') w' s'.heap c' v u → recK P fn tr tx body2 k v s' → LeavesInM Fence.wide 0 P fn a'.tmps R [d] md w' := by
    intro md v u c' s' a' w' hmd hdf' r' hvu hrec
    have hne : md ≠ .run := by rcases hmd with ⟨rfl, _⟩ | rfl <;> simp
    refine ⟨hne, .inr ⟨(fun e => by cases e), .func h', cs, h', cs, rfl, ?_, fun _ _ => trivial, ?_⟩⟩
    · simp [invoke, run_callFunc hc, d]
    refine callsDIn_of_wpSIn hf2 hb2 trivial fun c₀ cst hu => ?_
    unfold recK at hrec
    split at hrec
    rotate_left
    · exact hrec.elim
    rename_i gf rr hrest
    have hrr := r'.rest
    rw [hrest] at hrr
    have hgn : gf.nt = fn2.ntmps := by rw [← hrr.1.1]; simp [gact]; omega
    have r5 : Rel B I0 w0 c' ⟨gf, s'.cur :: rr, s'.heap⟩ gact ({ a' with defers := [] } :: a :: as) w' :=
      ⟨r'.below, r'.size, r'.obs, r'.inj, hrr.1, ⟨r'.cur, hrr.2⟩, ⟨by have := r'.marks.nodup; simpa [amarks, hdf', hm0, gact] using this, by have := r'.marks.blk; simpa [amarks, hdf', hm0, gact] using this⟩⟩
    have r6 := (r5.put (d := some tr) (nt := gf.nt) rfl (by simpa [hgn] using htr) hvu).put (d := some tx) (nt := gf.nt) rfl (by simpa [hgn] using htx) hvu
    have body : ∀ cs' : List Frame, (∃ u', cs' = { c₀ with mode := u' } :: cst ∧ settle u' = .returning) →
        Code.wpSIn Fence.wide (0 - 1) P body2 (bodyPostS P fn2 c₀ cst fun
          | .returned _, u', w' => LeavesInM Fence.wide 0 P fn a'.tmps R [] (settle u') w'
          | .panicked chain, u', w' => LeavesInM Fence.wide 0 P fn a'.tmps R [] (raised u' chain) w'
          | .outgrown, _, w' => R .outgrown w') ((gact.put (some tr) u).put (some tx) u) cs' w' := by
      rintro cs' ⟨u', rfl, hset⟩
      refine wpSIn_of_wpIn rfl (wpIn_mono (awp_flat body2 hfl (by show dstsOk gf.nt body2 = true; rw [hgn]; exact hd2) hrec hG r6) ?_)
      rintro e a3' w3 ⟨ax3, s4, c3, hx3, r7, hk7, hh⟩
      have hd7 : a3'.defers = [] := by rw [hk7.2]; simp [Act.put, gact]
      have done : LeavesInM Fence.wide 0 P fn a'.tmps R [] (settle u') w3 := by
        have hh2 : (match s4.rest with
            | f :: r => evRes P ⟨f, r, s4.heap⟩ fn.results.toList fun l => popK ⟨f, r, s4.heap⟩ fun s' => k (resV l) s'
            | [] => False) := by
          cases ax3 with
          | normal => exact hh
          | ret => exact hh
          | exit => exact hh.elim
          | panic => exact hh.elim
        split at hh2
        · rename_i f r2 hr4
          have hr7 := r7.rest
          rw [hr4] at hr7
          have r8 : Rel B I0 w0 c3 ⟨f, r2, s4.heap⟩ { a' with defers := [] } (a :: as) w3 :=
            ⟨r7.below, r7.size, r7.obs, r7.inj, hr7.1, hr7.2, ⟨by have := r7.marks.nodup; simpa [amarks, hd7] using this, by have := r7.marks.blk; simpa [amarks, hd7] using this⟩⟩
          obtain ⟨ps, u9, h9, hv9, hk9⟩ := results_run r8 hh2
          rw [hset]
          refine ⟨u9, h9, .inl ?_⟩
          unfold popK at hk9
          split at hk9
          · rename_i f9 r9 hr9
            have hr8 := r8.rest
            rw [hr9] at hr8
            exact ⟨u9, resV ps, ⟨f9, r9, s4.heap⟩, c3, rfl, ⟨r8.below, r8.size, r8.obs, r8.inj, hr8.1, hr8.2, ⟨by have := r8.marks.nodup; simpa [amarks] using this, by have := r8.marks.blk; simpa [amarks] using this⟩⟩, hv9, hk9⟩
          · exact hk9.elim
        · exact hh2.elim
      have hres : (results fn2 a3'.tmps).run P w3 = .ok (.tuple #[]) w3 := by simp [results, hr2]
      cases ax3 with
      | normal => cases e <;> simp only [XRep] at hx3; exact ⟨hd7, u', rfl, _, hres, done⟩
      | ret => cases e <;> simp only [XRep] at hx3; exact ⟨hd7, u', rfl, _, hres, done⟩
      | exit => exact hh.elim
      | panic => exact hh.elim
    refine wpSIn_seq (wpSIn_region ?_)
    show wpOpsSIn _ _ P _ _ [0, 1] gact _ _
    have htr2 : tr < gact.tmps.size := by simp [gact]; omega
    have e2 : (gact.put (some tr) u).eval (.tmp tr) = u := by simp [Act.put, Act.eval, htr2]
    rcases hmd with ⟨rfl, rfl⟩ | rfl
    · have hrD : recoverD (c₀ :: cst) = none := by simp [recoverD, hu]
      have := body (c₀ :: cst) ⟨.returning, by rw [← hu], rfl⟩
      simp [wpOpsSIn, Region.wanted, execOp, resolve, invoke, builtin, hrD]
      exact ⟨fun _ _ => trivial, fun _ _ => trivial, by rw [e2]; exact this⟩
    · have hrD : recoverD (c₀ :: cst) = some (u, { c₀ with mode := .panicking [{ v := u, recovered := true }] } :: cst) := by simp [recoverD, hu]
      have := body ({ c₀ with mode := .panicking [{ v := u, recovered := true }] } :: cst) ⟨_, rfl, rfl⟩
      simp [wpOpsSIn, Region.wanted, execOp, resolve, invoke, builtin, hrD]
      exact ⟨fun _ _ => trivial, fun _ _ => trivial, by rw [e2]; exact this⟩
  rintro e a' w' ⟨ax, s', c', hx, r', ⟨hts, ms, hdm, hms⟩, hk⟩
  simp only at hdm
  have hnil : VRep (imm B I0 c' s'.heap w') w' s'.heap c' (.raw .nilIface) .nilIface := ⟨rfl, rfl⟩
  have go : ∀ (md : FrameMode) (v : V) (u : Value), (md = .returning ∧ u = .nilIface) ∨ (md = .panicking [{ v := u, recovered := false }]) → VRep (imm B I0 c' s'.heap w') w' s'.heap c' v u → recK P fn tr tx body2 k v s' →
      LeavesInM Fence.wide 0 P fn a'.tmps R a'.defers md w' := by
    intro md v u hmd hvu hrec
    have hne : md ≠ .run := by rcases hmd with ⟨rfl, _⟩ | rfl <;> simp
    rw [hdm]
    refine leaves_marks2 ms a' w' md hne hdm hms r' fun a2 w2 ht hd2 r2 hi hcell => ?_
    have hvu2 : VRep (imm B I0 c' s'.heap w2) w2 s'.heap c' v u := VRep.mono (ok := fun _ => True) ⟨fun b o h => ⟨hi b o h, hcell b o⟩, fun id h _ => ⟨h, Nat.le_refl _, rfl, rfl, rfl⟩⟩ (V.fits_all _) hvu
    have := fin md v u c' s' a2 w2 hmd hd2 r2 hvu2 hrec
    rw [ht] at this
    exact this
  cases ax with
  | normal => cases e <;> simp only [XRep] at hx; exact go .returning _ _ (.inl ⟨rfl, rfl⟩) hnil hk
  | ret => cases e <;> simp only [XRep] at hx; exact go .returning _ _ (.inl ⟨rfl, rfl⟩) hnil hk
  | exit i => exact hk.elim
  | panic v =>
    cases e <;> simp only [XRep] at hx
    obtain ⟨u, rfl, hv⟩ := hx
    exact go _ v u (.inr rfl) hv hk
end
end Go.Proofs.Vl
