/- A part of the proof: Range. -/
import Derived.RangeFuncIn
import Derived.Test.YtddngfpgeifffaaGreatDoorVlSpec
set_option linter.unusedVariables false
set_option linter.unusedSimpArgs false
/- A small logic of abstract values: ranges over functions. -/
namespace Go.Proofs.Vl
open Go Go.RowKit

/-- The round's arguments are put in place. -/
def zipA : List Nat → List (Bool × List At) → List (Nat × V) → List (Nat × V)
  | p :: ps, (g, xs) :: l, tl => zipA ps l ((p, .c g xs) :: tl)
  | _, _, tl => tl
/-- The record is turned: a round begins. -/
def busyK (id l0 : Nat) (K : St → Prop) (s : St) : Prop :=
  match s.heap[id]? with
  | some (.lp l nt tl ps asg body false none) => l = l0 ∧ K { s with heap := s.heap.set id (.lp l nt tl ps asg body true none) }
  | _ => False
def asgK (K : St → Prop) : AX → St → Prop
  | .normal, s => K s
  | _, _ => False
/-- How a round ends. -/
def jumpOf : AX → Option (Option Code)
  | .normal => some none
  | .ret => some (some .ret)
  | .exit j => some (some (.exit j))
  | .panic _ => none
def roundEnd (id l0 : Nat) (k : V → St → Prop) (jump : Option Code) (s : St) : Prop :=
  match s.rest, s.heap[id]? with
  | f :: r, some (.lp l nt tl ps asg body true none) => l = l0 ∧ k (.raw (.bool jump.isNone)) ⟨f, r, s.heap.set id (.lp l nt tl ps asg body false jump)⟩
  | _, _ => False
def roundK (id l0 : Nat) (k : V → St → Prop) (ax : AX) (s : St) : Prop :=
  match jumpOf ax with
  | some j => roundEnd id l0 k j s
  | none => False

section
variable {P : Program} {B : Nat} {I0 : Nat → Nat → Prop} {w0 w : World} {c : Cx} {s : St} {a : Act} {as : List Act}

theorem zipA_rep {I : Nat → Nat → Prop} {H : List Ob} {nt : Nat} : ∀ {ps : List Nat} {args : List (Bool × List At)} {vs : List Value} {tl : List (Nat × V)} {tmps : Array Value}, args.length = ps.length → ps.all (fun p => decide (p < nt)) = true →
    All2 (PRep I w H c) args vs → FRep I w H c ⟨nt, tl⟩ tmps → FRep I w H c ⟨nt, zipA ps args tl⟩ ((ps.zip vs).foldl (fun tmps p => tmps.setIfInBounds p.1 p.2) tmps)
  | [], [], [], tl, tmps, _, _, _, h => h
  | p :: ps, (g, xs) :: args, v :: vs, tl, tmps, hl, hp, ⟨h1, h2⟩, h => by
    simp only [List.all_cons, Bool.and_eq_true, decide_eq_true_eq] at hp
    have := h.set (t := p) hp.1 (v := .c g xs) (u := v) h1
    have h3 := zipA_rep (ps := ps) (args := args) (vs := vs) (by simpa using hl) hp.2 h2 this
    exact h3
  | [], _ :: _, _, _, _, hl, _, _, _ => by simp at hl
  | _ :: _, [], _, _, _, hl, _, _, _ => by simp at hl
  | _, [], _ :: _, _, _, _, _, h, _ => h.elim
  | _, _ :: _, [], _, _, _, _, h, _ => h.elim

theorem AYield.of_body {id l nt : Nat} {tl : List (Nat × V)} {ps : List Nat} {asg body : Code} {args : List (Bool × List At)} {k : V → St → Prop}
    (hob : s.heap[id]? = some (.lp l nt tl ps asg body false none)) (hl : args.length = ps.length)
    (hok : (ps.all (fun p => decide (p < nt)) && dstsOk nt asg && dstsOk nt body && noRange asg && noRange body) = true)
    (h : awp P asg ⟨⟨nt, zipA ps args tl⟩, s.cur :: s.rest, s.heap⟩ (asgK (busyK id l fun s2 => awp P body s2 (roundK id l k)))) : AYield P id args s k := by
  simp only [Bool.and_eq_true] at hok
  obtain ⟨⟨⟨⟨hps, hd1⟩, hd2⟩, hr1⟩, hr2⟩ := hok
  intro B I0 w0 hG c a as w vs r hv
  obtain ⟨hB, hρ, lr, hlr, hst, hpend, hpar, hasg, hbody, hf⟩ := r.obs id _ hob
  have hvl := hv.length
  refine ⟨lr, hlr, by simp at hvl; rw [← hvl, hl, ← hpar]; simp, ?_⟩
  refine roundIn_of_wpIn (F := Fence.wide) (n := 0) trivial ?_
  have hz := zipA_rep (I := imm B I0 c s.heap w) (w := w) (H := s.heap) (c := c) hl hps hv hf
  have htm : (lr.params.zip vs).foldl (fun tmps (t, a) => tmps.setIfInBounds t a) lr.tmps = (ps.zip vs.toList).foldl (fun tmps p => tmps.setIfInBounds p.1 p.2) lr.tmps := by
    rw [← Array.foldl_toList, Array.toList_zip, hpar]
  rw [htm]
  generalize (ps.zip vs.toList).foldl (fun tmps p => tmps.setIfInBounds p.1 p.2) lr.tmps = tm at hz
  have r1 : Rel B I0 w0 c ⟨⟨nt, zipA ps args tl⟩, s.cur :: s.rest, s.heap⟩ { tmps := tm, defers := [] } (a :: as) w :=
    ⟨r.below, r.size, r.obs, r.inj, hz, ⟨r.cur, r.rest⟩, ⟨by simpa [amarks] using r.marks.nodup, by simpa [amarks] using r.marks.blk⟩⟩
  rw [hasg, hbody]
  have hs1 := awp_sound asg (s := ⟨⟨nt, zipA ps args tl⟩, s.cur :: s.rest, s.heap⟩) hd1 h (some (c.ρ id)) (fun _ => hr1) B I0 w0 hG c _ _ w r1
  refine wpIn_mono hs1 ?_
  rintro e a1 w1 ⟨ax, s1, c1, hx, r2, hk1, hh⟩
  cases ax with
  | normal =>
    cases e <;> simp only [XRep] at hx
    simp only [asgK, busyK] at hh
    split at hh
    · rename_i l1 nt1 tl1 ps1 asg1 body1 hob1
      obtain ⟨rfl, hh⟩ := hh
      obtain ⟨hB1, hρ1, lr1, hlr1, hst1, hpend1, hpar1, hasg1, hbody1, hf1⟩ := r2.obs id _ hob1
      have hlr1' : w1.heap[c.ρ id]? = some (.loop lr1) := by rw [hρ, ← hρ1]; exact hlr1
      refine ⟨_, run_beginRound hlr1' hst1, ?_⟩
      have r3 := r2.turn _ (.lp l1 nt1 tl1 ps1 asg1 body1 true none) id (w' := w1.putObj (c1.ρ id) (.loop { lr1 with state := .busy })) hob1 (fun _ => rfl) (fun _ => rfl) rfl (Nat.le_refl _)
        (r2.below.trans (Below.putObj hB1)) (by simp [World.putObj]) (Kd.putObj hlr1 rfl) (fun b o => putObj_cell hlr1 rfl rfl b o) (fun k hk => putObj_heap w1 _ k _ hk)
        (fun hs => ⟨hB1, hρ1, { lr1 with state := .busy }, putObj_self hlr1, rfl, hpend1, hpar1, hasg1, hbody1, FRep.mono hs (Fr.fits_all _) hf1⟩)
      rw [hρ, ← hρ1]
      have hnt1 : s1.cur.nt = nt := by rw [← r2.cur.1, hk1.1]; exact hz.1
      have hs2 := awp_sound body (s := { s1 with heap := s1.heap.set id (.lp l1 nt1 tl1 ps1 asg1 body1 true none) }) (by rw [show ({ s1 with heap := s1.heap.set id (.lp l1 nt1 tl1 ps1 asg1 body1 true none) } : St).cur.nt = nt from hnt1]; exact hd2) hh (some (c1.ρ id)) (fun _ => hr2) B I0 w0 hG c1 _ _ _ r3
      refine wpIn_mono hs2 ?_
      rintro e a2 w2 ⟨ax, s2, c2, hx2, r4, hk2, hh2⟩
      simp only [roundK] at hh2
      split at hh2
      · rename_i jump hj
        simp only [roundEnd] at hh2
        split at hh2
        · rename_i f rr l2 nt2 tl2 ps2 asg2 body2 hrest hob2
          obtain ⟨rfl, hh2⟩ := hh2
          obtain ⟨hB2, hρ2, lr2, hlr2, hst2, hpend2, hpar2, hasg2, hbody2, hf2⟩ := r4.obs id _ hob2
          have hlr2' : w2.heap[c1.ρ id]? = some (.loop lr2) := by rw [hρ1, ← hρ2]; exact hlr2
          have r5 := r4.turn _ (.lp l2 nt2 tl2 ps2 asg2 body2 false jump) id (w' := w2.putObj (c2.ρ id) (.loop { lr2 with state := if jump.isNone then .ready else .done, pending := jump })) hob2 (fun _ => rfl) (fun _ => rfl) rfl (Nat.le_refl _)
            (r4.below.trans (Below.putObj hB2)) (by simp [World.putObj]) (Kd.putObj hlr2 rfl) (fun b o => putObj_cell hlr2 rfl rfl b o) (fun k hk => putObj_heap w2 _ k _ hk)
            (fun hs => ⟨hB2, hρ2, _, putObj_self hlr2, by cases jump <;> rfl, rfl, hpar2, hasg2, hbody2, FRep.mono hs (Fr.fits_all _) hf2⟩)
          have r6 : Rel B I0 w0 c2 ⟨f, rr, s2.heap.set id (.lp l2 nt2 tl2 ps2 asg2 body2 false jump)⟩ a as (w2.putObj (c2.ρ id) (.loop { lr2 with state := if jump.isNone then .ready else .done, pending := jump })) := by
            have hr := r5.rest
            rw [show ({ s2 with heap := s2.heap.set id (.lp l2 nt2 tl2 ps2 asg2 body2 false jump) } : St).rest = f :: rr from hrest] at hr
            have hm : ∀ q ∈ amarks (a :: as), q ∈ amarks (a2 :: a :: as) := fun q hq => by simp only [amarks, List.flatMap_cons, List.mem_append] at hq ⊢; exact .inr hq
            exact ⟨r5.below, r5.size, r5.obs, r5.inj, hr.1, hr.2, ⟨(List.nodup_append.1 (show (amarks (a2 :: a :: as)).Nodup from r5.marks.nodup)).2.1, fun q hq => r5.marks.blk q (hm q hq)⟩⟩
          have hend := run_endRound (P := P) jump hlr2'
          have hρ12 : c1.ρ id = c2.ρ id := by rw [hρ1, hρ2]
          have key : ∃ v w', (Instr.endRound (c1.ρ id) jump).run P w2 = .ok v w' ∧ ∃ u v' s' c', Ending.returned v = .returned u ∧ Rel B I0 w0 c' s' a as w' ∧ VRep (imm B I0 c' s'.heap w') w' s'.heap c' v' u ∧ k v' s' :=
            ⟨_, _, hend, .bool jump.isNone, .raw (.bool jump.isNone), _, c2, rfl, by rw [hρ12]; exact r6, ⟨rfl, rfl⟩, hh2⟩
          cases ax with
          | normal => cases e <;> simp only [XRep] at hx2; simp [jumpOf] at hj; subst hj; exact key
          | ret => cases e <;> simp only [XRep] at hx2; simp [jumpOf] at hj; subst hj; exact key
          | exit j => cases e <;> simp only [XRep] at hx2; simp [jumpOf] at hj; subst hj; subst hx2; exact key
          | panic v => simp [jumpOf] at hj
        · exact hh2.elim
      · exact hh2.elim
    · exact hh.elim
  | exit => exact hh.elim
  | ret => exact hh.elim
  | panic => exact hh.elim

/-- Behind the loop: its record is given up. -/
def St.dropLp (id : Nat) (s : St) : St := ⟨s.cur.scrub id, s.rest.map (Fr.scrub id), (s.heap.map (Ob.scrub id)).set id .gone⟩
def jumpK (K : AX → St → Prop) (s : St) : Option Code → Prop
  | none => K .normal s
  | some .ret => K .ret s
  | some (.exit j) => K (.exit j) s
  | _ => False
def rangeEnd (id l0 : Nat) (K : AX → St → Prop) (s : St) : Prop :=
  match s.heap[id]? with
  | some (.lp l _ _ _ _ _ false pend) => l = l0 ∧ jumpK K (s.dropLp id) pend
  | _ => False

theorem ARange.intro {g : Operand} {ps : List Nat} {asg body : Code} {K : AX → St → Prop} {cid : Nat} {f : FuncId} {first cap : List (Bool × List At)} (hg : s.eval g = .c false [.clo cid])
    (hob : s.heap[cid]? = some (.clo (.func f) first cap)) (hc : callable P f = true)
    (h : ∀ l, ACall P f (first ++ [(false, [.yld s.heap.length])] ++ cap) ⟨s.cur, s.rest, s.heap ++ [.lp l s.cur.nt s.cur.tl ps asg body false none]⟩ (fun _ s2 => rangeEnd s.heap.length l K s2) (fun _ _ => False)) :
    AOther P (.rangeFunc g ⟨ps⟩ asg body) s K := by
  intro rd hrd B I0 w0 hG c a as w r
  cases rd with
  | some l => have := hrd rfl; cases this
  | none =>
  refine wpIn_rangeFunc (F := fen none) (n := 0) fun fn _ => ?_
  have hg' := r.eval g
  rw [hg] at hg'
  obtain ⟨hid, eg, _⟩ := hg'
  obtain ⟨fs, cs, eγ, hfs, hcs⟩ := r.obs cid _ hob
  let wd : World := w.alloc (.deferred (some []))
  let lr : Loop := { state := .ready, pending := none, fn := fn, tmps := a.tmps, params := ⟨ps⟩, assign := asg, body := body, defers := w.heap.size }
  let w1 : World := wd.alloc (.loop lr)
  let yv : Value := Value.func (.yield (w.heap.size + 1)) #[] #[]
  let mk : Deferred := { target := .collected w.heap.size, args := #[] }
  have hsz : wd.heap.size = w.heap.size + 1 := by simp [wd]
  have r1 : Rel B I0 w0 c s a as wd := r.beyond (Below.alloc (Below.refl _ _) (Nat.le_refl _) _)
  have hs1 := step_alloc (w := wd) (c := c) (s := s) (I0 := I0) (.loop lr) (.lp (w.heap.size + 1) s.cur.nt s.cur.tl ps asg body false none) 0 r1.size
  have r2 := r1.allocO (.loop lr) (.lp (w.heap.size + 1) s.cur.nt s.cur.tl ps asg body false none) 0
    ⟨by simp [Cx.new]; exact r1.size, by simp [Cx.new, hsz], lr, by simp only [Cx.new, if_true]; exact heap_alloc_new wd _, rfl, rfl, rfl, rfl, rfl, FRep.mono hs1 (Fr.fits_all _) r1.cur⟩
  have hdef : w1.heap[w.heap.size]? = some (.deferred (some [])) := by
    have e1 : w1.heap[w.heap.size]? = wd.heap[w.heap.size]? := Below.heap_alloc wd _ _ (by omega)
    rw [e1]; exact heap_alloc_new w _
  have hlt : ∀ q ∈ amarks (a :: as), q < w.heap.size := fun q hq => (Array.getElem?_eq_some_iff.1 (r.marks.blk q hq).2).1
  have hml : amarks ({ a with defers := [mk] ++ a.defers } :: as) = w.heap.size :: amarks (a :: as) := by simp [amarks, mk, markOf]
  have r3 : Rel B I0 w0 (c.new s.heap.length wd.heap.size 0) ⟨s.cur, s.rest, s.heap ++ [.lp (w.heap.size + 1) s.cur.nt s.cur.tl ps asg body false none]⟩ { a with defers := [mk] ++ a.defers } as w1 := by
    refine ⟨r2.below, r2.size, r2.obs, r2.inj, r2.cur, r2.rest, ⟨?_, fun q hq => ?_⟩⟩
    · rw [hml]; exact List.nodup_cons.2 ⟨fun hq => Nat.lt_irrefl _ (hlt _ hq), r.marks.nodup⟩
    · rw [hml] at hq
      rcases List.mem_cons.1 hq with rfl | hq
      · exact ⟨r.size, hdef⟩
      · exact r2.marks.blk q hq
  have hargs : All2 (PRep (imm B I0 (c.new s.heap.length wd.heap.size 0) (s.heap ++ [.lp (w.heap.size + 1) s.cur.nt s.cur.tl ps asg body false none]) w1) w1 (s.heap ++ [.lp (w.heap.size + 1) s.cur.nt s.cur.tl ps asg body false none]) (c.new s.heap.length wd.heap.size 0))
      (first ++ [(false, [.yld s.heap.length])] ++ cap) (fs ++ #[yv] ++ cs).toList := by
    obtain ⟨fs1, cs1, eγ1, hfs1, hcs1⟩ := r1.obs cid _ hob
    have e2 : (Value.func (Fn.func f) fs cs) = .func (.func f) fs1 cs1 := eγ.symm.trans eγ1
    simp only [Value.func.injEq, true_and] at e2
    obtain ⟨rfl, rfl⟩ := e2
    simp only [Array.toList_append]
    refine ((hfs1.imp fun p v h => CRep.mono hs1 (fun x _ => At.fits_all x) h).append ?_).append (hcs1.imp fun p v h => CRep.mono hs1 (fun x _ => At.fits_all x) h)
    exact ⟨⟨by simp, by simp [Cx.new, hsz, yv]⟩, trivial⟩
  have hcall := h (w.heap.size + 1) B I0 w0 hG _ _ as w1 _ r3 hargs
  refine ⟨w.heap.size + 1, [mk], w1, { target := .fn (.func f) cs, args := fs ++ #[yv] }, w1, f, fs ++ #[yv] ++ cs, w1, ?_, ?_, fun _ _ => trivial, ?_, (fun h0 => by cases h0), callsIn_fen.2 (Calls.mono hcall ?_)⟩
  · have := run_enterLoop_outer (P := P) (w := w) fn a.tmps ⟨ps⟩ asg body
    exact this
  · simp [resolve, rangeCall, eg, eγ, Deferred.ofValue, yv]; rfl
  · simp [invoke, run_callFunc hc]
  · rintro e w2 (⟨u, v, s2, c2, rfl, r4, hv, hk⟩ | ⟨_, _, _, _, _, _, _, hk⟩)
    · simp only [rangeEnd] at hk
      split at hk
      · rename_i l2 nt2 tl2 ps2 asg2 body2 pend hob2
        obtain ⟨rfl, hk⟩ := hk
        obtain ⟨hB2, hρ2, lr2, hlr2, hst2, hpend2, hpar2, hasg2, hbody2, hf2⟩ := r4.obs _ _ hob2
        have hlr2' : w2.heap[w.heap.size + 1]? = some (.loop lr2) := by rw [← hρ2]; exact hlr2
        have hend := run_endLoop (P := P) hlr2' (by rw [hst2]; cases pend <;> simp)
        have rs := r4.scrub s.heap.length
        obtain ⟨f1, f2, f3⟩ := Fr.fits_of_scrub (s := s2) s.heap.length
        have hobs : (s2.scrub s.heap.length).heap[s.heap.length]? = some (Ob.scrub s.heap.length (.lp (w.heap.size + 1) nt2 tl2 ps2 asg2 body2 false pend)) := by simp [St.scrub, hob2]
        let w3 : World := w2.putObj (w.heap.size + 1) (.loop { lr2 with state := .exhausted })
        have hd : ∀ b o, imm B I0 c2 (s2.scrub s.heap.length).heap w2 b o → imm B I0 c2 ((s2.scrub s.heap.length).heap.set s.heap.length .gone) w3 b o ∧ w3.cell? ⟨b, o, none⟩ = w2.cell? ⟨b, o, none⟩ := by
          rintro b o (h1 | ⟨h1, h2, h3⟩)
          · exact ⟨.inl h1, putObj_cell hlr2' rfl rfl b o⟩
          · refine ⟨.inr ⟨h1, by simpa [w3, World.putObj] using h2, fun i oi hi hb hρ => ?_⟩, putObj_cell hlr2' rfl rfl b o⟩
            by_cases hne : i = s.heap.length
            · subst hne
              rw [List.getElem?_set_self (List.getElem?_eq_some_iff.1 hobs).1] at hi
              simp at hi; subst hi; cases hb
            · rw [List.getElem?_set_ne (by omega)] at hi
              exact h3 i oi hi hb hρ
        have r5 := rs.replace (id := s.heap.length) _ .gone (w' := w3) (c' := c2) hobs f1 f2 f3 (r4.below.trans (Below.putObj (by rw [← hρ2]; exact hB2))) (Kd.putObj hlr2' rfl) (by simp [w3, World.putObj]) (fun i _ => ⟨rfl, rfl⟩) rfl hd
          (fun k _ hk => putObj_heap w2 _ k _ (by have := hk rfl; rw [hρ2] at this; exact this)) (fun h => by cases h) (fun _ => trivial)
        refine ⟨pend, w3, hend.trans (congrArg (fun q => Result.ok q w3) hpend2), ?_⟩
        have hkin : Kin a { a with defers := [mk] ++ a.defers } := ⟨rfl, [mk], rfl, by simp [mk, markOf]⟩
        cases pend with
        | none => exact ⟨.normal, _, c2, trivial, r5, hkin, hk⟩
        | some cd =>
          cases cd <;> simp only [jumpK] at hk
          · exact wpIn_exit ⟨.exit _, _, c2, rfl, r5, hkin, hk⟩
          · exact wpIn_ret ⟨.ret, _, c2, trivial, r5, hkin, hk⟩
      · exact hk.elim
    · exact hk.elim
/-- As 'ARange.intro', the loop's code under names. -/
theorem ARange.introE {g : Operand} {ps : List Nat} {asg body : Code} {K : AX → St → Prop} {cid : Nat} {f : FuncId} {first cap : List (Bool × List At)} (hg : s.eval g = .c false [.clo cid])
    (hob : s.heap[cid]? = some (.clo (.func f) first cap)) (hc : callable P f = true)
    (h : ∀ l asg' body', asg' = asg → body' = body → ACall P f (first ++ [(false, [.yld s.heap.length])] ++ cap) ⟨s.cur, s.rest, s.heap ++ [.lp l s.cur.nt s.cur.tl ps asg' body' false none]⟩ (fun _ s2 => rangeEnd s.heap.length l K s2) (fun _ _ => False)) :
    AOther P (.rangeFunc g ⟨ps⟩ asg body) s K := ARange.intro hg hob hc fun l => h l asg body rfl rfl
end
end Go.Proofs.Vl
