/- A part of the proof: Call. -/
import Derived.RangeFuncLeaves
import Derived.RangeFuncRecord
import Derived.Test.YtddngfpgeifffaaGreatDoorVlCode
set_option linter.unusedVariables false
set_option linter.unusedSimpArgs false
/- A small logic of abstract values: a callee's body in place; contracts; loops. -/
namespace Go.Proofs.Vl
open Go Go.RowKit

section
variable {P : Program} {B : Nat} {I0 : Nat → Nat → Prop} {w0 w : World} {c : Cx} {s : St} {a : Act} {as : List Act}

def resOne (P : Program) (s : St) (k : V → Prop) : ResultVar → Prop
  | .tmp t => k (s.cur.get t)
  | .cell t ty => evLoad P ty (s.cur.get t) s k
def evRes (P : Program) (s : St) : List ResultVar → (List (Bool × List At) → Prop) → Prop
  | [], k => k []
  | rv :: rest, k => resOne P s (fun v => match v with | .c g xs => evRes P s rest (fun l => k ((g, xs) :: l)) | _ => False) rv
def resV : List (Bool × List At) → V
  | [(g, xs)] => .c g xs
  | l => .tup l
def popK (s : St) (K : St → Prop) : Prop :=
  match s.rest with
  | f :: r => K ⟨f, r, s.heap⟩
  | [] => False
def argTL : List (Bool × List At) → Nat → List (Nat × V)
  | [], _ => []
  | (g, xs) :: l, i => (i, .c g xs) :: argTL l (i + 1)
def enterSt (s : St) (nt : Nat) (args : List (Bool × List At)) : St := ⟨⟨nt, argTL args 0⟩, s.cur :: s.rest, s.heap⟩
def retK (P : Program) (fn : Func) (k x : V → St → Prop) : AX → St → Prop
  | .ret, s => evRes P s fn.results.toList fun l => popK s fun s' => k (resV l) s'
  | .normal, s => evRes P s fn.results.toList fun l => popK s fun s' => k (resV l) s'
  | .panic v, s => popK s fun s' => x v s'
  | .exit _, _ => False

def rvRun (tmps : Array Value) : ResultVar → Sem Value
  | .tmp t => pure (tmps.getD t undef)
  | .cell t ty => do loadVar ty (← asAddr (tmps.getD t undef))

theorem resOne_run (r : Rel B I0 w0 c s a as w) {rv : ResultVar} {k : V → Prop} (h : resOne P s k rv) :
    ∃ v u, (rvRun a.tmps rv).run P w = .ok u w ∧ VRep (imm B I0 c s.heap w) w s.heap c v u ∧ k v := by
  cases rv with
  | tmp t => exact ⟨_, _, rfl, r.cur.2 t, h⟩
  | cell t ty =>
    obtain ⟨ad, v, z, e, h1, h2, h3⟩ := load_run r (r.cur.2 t) h
    exact ⟨v, z, by simp only [rvRun, e, asAddr, Sem.run_bind, Sem.run_pure, Result.andThen_ok, h1], h2, h3⟩

theorem evRes_run (r : Rel B I0 w0 c s a as w) : ∀ {l : List ResultVar} {k : List (Bool × List At) → Prop}, evRes P s l k →
    ∃ ps us, (l.mapM (rvRun a.tmps)).run P w = .ok us w ∧ All2 (PRep (imm B I0 c s.heap w) w s.heap c) ps us ∧ k ps
  | [], k, h => ⟨[], [], rfl, trivial, h⟩
  | rv :: rest, k, h => by
    obtain ⟨v, u, h1, h2, h3⟩ := resOne_run r h
    cases v with
    | tup => exact h3.elim
    | c g xs =>
      obtain ⟨ps, us, h4, h5, h6⟩ := evRes_run r h3
      refine ⟨(g, xs) :: ps, u :: us, ?_, ⟨h2, h5⟩, h6⟩
      rw [List.mapM_cons]
      simp only [Sem.run_bind, h1, Result.andThen_ok, h4, Sem.run_pure]

theorem results_run (r : Rel B I0 w0 c s a as w) {fn : Func} {k : List (Bool × List At) → Prop} (h : evRes P s fn.results.toList k) :
    ∃ ps u, (results fn a.tmps).run P w = .ok u w ∧ VRep (imm B I0 c s.heap w) w s.heap c (resV ps) u ∧ k ps := by
  obtain ⟨ps, us, h1, h2, h3⟩ := evRes_run r h
  have hrun : (results fn a.tmps).run P w = .ok (if h : us.toArray.size = 1 then us.toArray[0] else .tuple us.toArray) w := by
    have e : results fn a.tmps = (do let vs ← fn.results.mapM (rvRun a.tmps); pure (if h : vs.size = 1 then vs[0] else .tuple vs)) := by
      unfold results
      congr 1
    rw [e, Array.mapM_eq_mapM_toList]
    simp only [Sem.run_bind, Sem.run_map, h1, Result.andThen_ok, Sem.run_pure]
  refine ⟨ps, _, hrun, ?_, h3⟩
  match ps, us, h2 with
  | [], [], _ => exact ⟨#[], rfl, trivial⟩
  | [(g, xs)], [u], ⟨h, _⟩ => exact h
  | p :: q :: ps, u :: z :: us, h => exact ⟨_, by simp, h⟩

theorem argTL_vlook {R : V → Value → Prop} (hu : ∀ u, R .unk u) : ∀ {args : List (Bool × List At)} {vs : List Value} (i : Nat), All2 (fun p v => R (.c p.1 p.2) v) args vs →
    ∀ t, R (vlook (argTL args i) t) (if i ≤ t then vs.getD (t - i) undef else undef)
  | [], [], i, _, t => by simp [argTL, vlook]; exact hu _
  | (g, xs) :: args, v :: vs, i, ⟨h1, h2⟩, t => by
    simp only [argTL, vlook]
    split
    · rename_i e
      subst e
      simp
      exact h1
    · rename_i e
      have := argTL_vlook hu (i + 1) h2 t
      by_cases hle : i + 1 ≤ t
      · rw [if_pos hle] at this
        rw [if_pos (by omega)]
        rw [show t - i = (t - (i + 1)) + 1 by omega]
        simpa using this
      · rw [if_neg hle] at this
        rw [if_neg (by omega)]
        exact this

theorem Rel.enter (r : Rel B I0 w0 c s a as w) {args : List (Bool × List At)} {vs : Array Value} (hv : All2 (PRep (imm B I0 c s.heap w) w s.heap c) args vs.toList) {nt : Nat} (hn : vs.size ≤ nt) :
    Rel B I0 w0 c (enterSt s nt args) { tmps := vs ++ Array.replicate (nt - vs.size) undef, defers := [] } (a :: as) w := by
  refine ⟨r.below, r.size, r.obs, r.inj, ⟨by simp [enterSt]; omega, fun t => ?_⟩, ⟨r.cur, r.rest⟩, ⟨by simpa [amarks] using r.marks.nodup, by simpa [amarks] using r.marks.blk⟩⟩
  have := argTL_vlook (R := VRep (imm B I0 c s.heap w) w s.heap c) (fun u => trivial) 0 hv t
  simp only [Nat.zero_le, if_true, Nat.sub_zero] at this
  show VRep (imm B I0 c s.heap w) w s.heap c (vlook (argTL args 0) t) _
  have e : (vs ++ Array.replicate (nt - vs.size) undef).getD t undef = vs.toList.getD t undef := by
    rw [Array.getD_eq_getD_getElem?, Array.getElem?_append, List.getD]
    split
    · simp
    · rename_i h
      have h' : ¬ t < vs.size := h
      rw [Array.getElem?_replicate]
      have h2 : vs.toList[t]? = none := List.getElem?_eq_none (by simp; omega)
      rw [h2]
      split <;> rfl
  rw [e]; exact this

/-- The marks of a frame that is left are taken. -/
theorem Rel.take (r : Rel B I0 w0 c s a as w) {d : Deferred} {ds : List Deferred} (hd : a.defers = d :: ds) {g : Nat} (hg : d.target = .collected g) :
    ∃ w', (Instr.takeDeferred g).run P w = .ok [] w' ∧ Rel B I0 w0 c s { a with defers := ds } as w' ∧ w'.heap.size = w.heap.size ∧ (∀ b o, w'.cell? ⟨b, o, none⟩ = w.cell? ⟨b, o, none⟩) := by
  have hm : markOf d = some g := by unfold markOf; rw [hg]
  have hmem : g ∈ amarks (a :: as) := by simp [amarks, hd, hm]
  obtain ⟨hB, hblk⟩ := r.marks.blk g hmem
  have hlt := (Array.getElem?_eq_some_iff.1 hblk).1
  let w' : World := w.putObj g (.deferred none)
  have hrun : (Instr.takeDeferred g).run P w = .ok [] w' := run_takeDeferred hblk
  have hheap : ∀ k, k ≠ g → w'.heap[k]? = w.heap[k]? := fun k hk => by
    simp only [w', World.putObj, Array.getElem?_setIfInBounds]
    rw [if_neg (fun e => hk e.symm)]
  have hcell : ∀ b o, w'.cell? ⟨b, o, none⟩ = w.cell? ⟨b, o, none⟩ := fun b o => by
    by_cases hb : b = g
    · subst hb
      have h1 : w'.heap[b]? = some (.deferred none) := by simp [w', World.putObj, hlt]
      simp [World.cell?, h1, hblk]
    · exact World.cell?_of_block (w := w) (a := ⟨b, o, none⟩) (hheap b hb)
  have hi : ∀ b o, imm B I0 c s.heap w b o → imm B I0 c s.heap w' b o := by
    rintro b o (h | ⟨h1, h2, h3⟩)
    · exact .inl h
    · exact .inr ⟨h1, by simpa [w', World.putObj] using h2, h3⟩
  have hs : Step (fun _ => True) (imm B I0 c s.heap w) w s.heap c (imm B I0 c s.heap w') w' s.heap c :=
    ⟨fun b o h => ⟨hi b o h, hcell b o⟩, fun id h _ => ⟨h, Nat.le_refl _, rfl, rfl, rfl⟩⟩
  have hne : ∀ id ob, s.heap[id]? = some ob → ob.blk (c.κ id) = true → c.ρ id ≠ g := fun id ob ho hb e => by
    have := r.obs id ob ho
    cases ob with
    | cells => obtain ⟨_, _, h, _⟩ := this; rw [e, hblk] at h; cases h
    | row => obtain ⟨k, hk⟩ := Option.isSome_iff_exists.1 hb; obtain ⟨_, _, h, _⟩ := this.2.2 k hk; rw [e, hblk] at h; cases h
    | clo => cases hb
    | mp => obtain ⟨_, _, _, h, _⟩ := this; rw [e, hblk] at h; cases h
    | lp => obtain ⟨_, _, _, h, _⟩ := this; rw [e, hblk] at h; cases h
    | gone => cases hb
  have hnd := r.marks.nodup
  have hml : amarks (a :: as) = g :: amarks ({ a with defers := ds } :: as) := by simp [amarks, hd, hm]
  rw [hml] at hnd
  refine ⟨w', hrun, ⟨r.below.trans ⟨rfl, rfl, rfl, by simp [w', World.putObj], fun k hk => hheap k (by omega)⟩, by simp [w', World.putObj]; exact r.size, fun id ob h => ?_, r.inj, FRep.mono hs (Fr.fits_all _) r.cur,
    r.rest.imp fun f a' h => FRep.mono hs (Fr.fits_all _) h, ⟨(List.nodup_cons.1 hnd).2, fun q hq => ?_⟩⟩, by simp [w', World.putObj], hcell⟩
  · exact ObRep.mono hs (List.getElem?_eq_some_iff.1 h).1 trivial (Ob.fits_all _) (fun hb => hheap _ (hne id ob h hb)) (r.obs id ob h)
  · have h1 := r.marks.blk q (by rw [hml]; exact List.mem_cons_of_mem _ hq)
    exact ⟨h1.1, by rw [hheap q (fun e => (List.nodup_cons.1 hnd).1 (e ▸ hq))]; exact h1.2⟩

theorem leaves_marks {fn : Func} {R : Ending → World → Prop} : ∀ (ms : List Deferred) (a : Act) (w : World) (md : FrameMode), md ≠ .run → a.defers = ms → (∀ d ∈ ms, (markOf d).isSome) → Rel B I0 w0 c s a as w →
    (∀ a' w', a'.tmps = a.tmps → a'.defers = [] → Rel B I0 w0 c s a' as w' → (∀ b o, imm B I0 c s.heap w b o → imm B I0 c s.heap w' b o) → (∀ b o, w'.cell? ⟨b, o, none⟩ = w.cell? ⟨b, o, none⟩) → LeavesIn Fence.wide 0 P fn a.tmps R [] md w') →
    LeavesInM Fence.wide 0 P fn a.tmps R ms md w
  | [], a, w, md, hmd, hd, _, r, h => h a w rfl hd r (fun _ _ h => h) (fun _ _ => rfl)
  | d :: ds, a, w, md, hmd, hd, hm, r, h => by
    have hd1 := hm d (by simp)
    obtain ⟨g, hg⟩ := Option.isSome_iff_exists.1 hd1
    have hg' : d.target = .collected g := by
      unfold markOf at hg
      split at hg
      · rename_i q e; rw [e]; simp at hg; rw [hg]
      · cases hg
    obtain ⟨w', h1, r', hsz, hcell⟩ := r.take (P := P) hd hg'
    refine ⟨hmd, .inl ⟨g, w', hg', h1, ?_⟩⟩
    have himm : ∀ b o, imm B I0 c s.heap w b o → imm B I0 c s.heap w' b o := by
      rintro b o (h | ⟨h1, h2, h3⟩)
      · exact .inl h
      · exact .inr ⟨h1, by omega, h3⟩
    exact leaves_marks ds { a with defers := ds } w' md hmd rfl (fun d hd => hm d (by simp [hd])) r' (fun a' w2 ht hd' r2 hi hc => h a' w2 ht hd' r2 (fun b o hb => hi b o (himm b o hb)) (fun b o => (hc b o).trans (hcell b o)))

/-- A callee's body in place. -/
theorem ACall.of_body {g : FuncId} {fn : Func} {body : Code} {args : List (Bool × List At)} {k x : V → St → Prop} (hf : P.funcs[g]? = some fn) (hb : fn.body = some body) (hd : dstsOk fn.ntmps body = true)
    (hn : args.length ≤ fn.ntmps) (h : awp P body (enterSt s fn.ntmps args) (retK P fn k x)) : ACall P g args s k x := by
  intro B I0 w0 hG c a as w vs r hv
  have hvl : vs.size ≤ fn.ntmps := by have := hv.length; simp at this; omega
  have hs := awp_sound (P := P) body (s := enterSt s fn.ntmps args) hd h none (fun e => by cases e) B I0 w0 hG c _ _ w (r.enter hv hvl)
  refine (callsIn_wide (n := 0)).1 (callsIn_of_wp_marks hf hb trivial (wpIn_mono (F := Fence.wide) hs ?_))
  have fin : ∀ (s' : St) (c' : Cx) (a' : Act) (w' : World), Rel B I0 w0 c' s' a' (a :: as) w' → a'.defers = [] → ∀ K : St → Prop, popK s' K → ∃ s'', Rel B I0 w0 c' s'' a as w' ∧ s''.heap = s'.heap ∧ K s'' := by
    intro s' c' a' w' r' hd' K hk
    unfold popK at hk
    split at hk
    · rename_i f rr hr
      have := r'.rest
      rw [hr] at this
      obtain ⟨h1, h2⟩ := this
      exact ⟨⟨f, rr, s'.heap⟩, ⟨r'.below, r'.size, r'.obs, r'.inj, h1, h2, ⟨by simpa [amarks, hd'] using r'.marks.nodup, by simpa [amarks, hd'] using r'.marks.blk⟩⟩, rfl, hk⟩
    · exact hk.elim
  have ret : ∀ (s' : St) (c' : Cx) (a' : Act) (w' : World), Rel B I0 w0 c' s' a' (a :: as) w' → a'.defers = [] → (evRes P s' fn.results.toList fun l => popK s' fun s'' => k (resV l) s'') →
      ∃ v, (results fn a'.tmps).run P w' = .ok v w' ∧ ((∃ u v_1 s'' c'', Ending.returned v = .returned u ∧ Rel B I0 w0 c'' s'' a as w' ∧ VRep (imm B I0 c'' s''.heap w') w' s''.heap c'' v_1 u ∧ k v_1 s'') ∨
        (∃ u v_1 s'' c'', Ending.returned v = .panicked [{ v := u, recovered := false }] ∧ Rel B I0 w0 c'' s'' a as w' ∧ VRep (imm B I0 c'' s''.heap w') w' s''.heap c'' v_1 u ∧ x v_1 s'')) := by
    intro s' c' a' w' r' hd' hk
    obtain ⟨ps, u, h1, h2, h3⟩ := results_run r' hk
    obtain ⟨s'', r2, e, hk2⟩ := fin s' c' a' w' r' hd' _ h3
    exact ⟨u, h1, .inl ⟨u, resV ps, s'', c', rfl, r2, by rw [e]; exact h2, hk2⟩⟩
  rintro e a' w' ⟨ax, s', c', hx, r', hsz, hk⟩
  obtain ⟨hts, ms, hdm, hms⟩ := hsz
  simp only [List.append_nil] at hdm
  subst hdm
  have hret : (evRes P s' fn.results.toList fun l => popK s' fun s'' => k (resV l) s'') → LeavesInM Fence.wide 0 P fn a'.tmps (fun e w' =>
      (∃ u v s' c', e = .returned u ∧ Rel B I0 w0 c' s' a as w' ∧ VRep (imm B I0 c' s'.heap w') w' s'.heap c' v u ∧ k v s') ∨
      (∃ u v s' c', e = .panicked [{ v := u, recovered := false }] ∧ Rel B I0 w0 c' s' a as w' ∧ VRep (imm B I0 c' s'.heap w') w' s'.heap c' v u ∧ x v s')) a'.defers .returning w' := fun hk =>
    leaves_marks a'.defers a' w' .returning (by simp) rfl hms r' fun a2 w2 ht hd2 r2 _ _ => by
      obtain ⟨v, h1, h2⟩ := ret s' c' a2 w2 r2 hd2 hk
      rw [ht] at h1
      exact ⟨v, h1, h2⟩
  cases ax with
  | normal => cases e <;> simp only [XRep] at hx; exact hret hk
  | ret => cases e <;> simp only [XRep] at hx; exact hret hk
  | exit i => exact hk.elim
  | panic v =>
    cases e <;> simp only [XRep] at hx
    obtain ⟨u, rfl, hv⟩ := hx
    refine leaves_marks a'.defers a' w' (.panicking _) (by simp) rfl hms r' fun a2 w2 ht hd2 r2 hi hcell => ?_
    obtain ⟨s'', r3, e, hk2⟩ := fin s' c' a2 w2 r2 hd2 _ hk
    refine .inr ⟨u, v, s'', c', rfl, r3, ?_, hk2⟩
    rw [e]
    exact VRep.mono (ok := fun _ => True) ⟨fun b o h => ⟨hi b o h, hcell b o⟩, fun id h _ => ⟨h, Nat.le_refl _, rfl, rfl, rfl⟩⟩ (V.fits_all _) hv
end
end Go.Proofs.Vl
