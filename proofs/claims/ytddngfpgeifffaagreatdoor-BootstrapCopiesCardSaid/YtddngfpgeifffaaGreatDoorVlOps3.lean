/- A part of the proof: Ops3. -/
import Derived.RangeFuncRecord
import Derived.Test.YtddngfpgeifffaaGreatDoorVlOps2
set_option linter.unusedVariables false
set_option linter.unusedSimpArgs false
/- A small logic of abstract values: each operation's soundness (3). -/
namespace Go.Proofs.Vl
open Go Go.RowKit

section
variable {P : Program} {B : Nat} {I0 : Nat → Nat → Prop} {w0 w : World} {c : Cx} {s : St} {a : Act} {as : List Act}

theorem isStr_some {t : TypeId} (h : isStr P t = true) : P.underlying t = some .string := by
  unfold isStr at h
  split at h
  · assumption
  · cases h

theorem good_index {o : Oper} {t : TypeId} {y z : Operand} {k x : V → St → Prop} (ho : o.op = .index t y z) (r : Rel B I0 w0 c s a as w)
    (h : evIndex P t (s.eval y) (s.eval z) (fun v => k v s) (fun v => x v s)) : Good P o B I0 w0 a as w k x := by
  have hy' := r.eval y
  have hz' := r.eval z
  unfold evIndex at h
  split at h
  · rename_i b ik q hy hz
    rw [hy] at hy'; rw [hz] at hz'
    obtain ⟨ez, _⟩ := hz'
    obtain ⟨ey, _⟩ := hy'
    split at h
    · rename_i hs
      have hu := isStr_some hs
      split at h
      · rename_i hq
        refine Good.value (v := .raw _) (u := .int .u8 ((b.data.toList.getD q.toNat 0).toNat)) ?_ r ⟨rfl, rfl⟩ h
        have hlt : q.toNat < b.size := by omega
        have hg : b[q.toNat]? = some (b.data.toList.getD q.toNat 0) := by
          rw [ByteArray.getElem?_lt' b _ hlt]
          congr 1
          have hl : q.toNat < b.data.toList.length := by simpa using hlt
          simp only [List.getD, List.getElem?_eq_getElem hl, Option.getD_some]
          rfl
        simp [execOp, ho, ey, ez, Instr.index, asIntOf, run_underlying hu, hq.1, hg]
      · rename_i hq
        refine good_bounds (kk := ik) (i := q) (n := b.size) (code := .index) r ?_ h
        have hnone : (if 0 ≤ q then b[q.toNat]? else none) = none := by
          split
          · rw [ByteArray.getElem?_ge' b _ (by omega)]
          · rfl
        simp [execOp, ho, ey, ez, Instr.index, asIntOf, run_underlying hu, hnone]
    · exact h.elim
  · exact h.elim

theorem good_len {o : Oper} {t : TypeId} {y : Operand} {k x : V → St → Prop} (ho : o.op = .call { callee := .builtin .len, args := #[y], argTypes := #[t] }) (r : Rel B I0 w0 c s a as w)
    (h : evLen P t (s.eval y) fun v => k v s) : Good P o B I0 w0 a as w k x := by
  have hy' := r.eval y
  unfold evLen at h
  have run : ∀ n : Int, ((Builtin.len_ #[t] o.type #[a.eval y]).run P w = .ok (.int .i64 n) w) → (execOp a.eval o).run P w = .ok (.value (.int .i64 n)) w := by
    intro n hr
    simp [execOp, ho, resolve, invoke, builtin, hr]
  split at h
  · rename_i b hy
    rw [hy] at hy'
    obtain ⟨ey, _⟩ := hy'
    split at h
    · rename_i hs
      exact Good.value (v := .raw _) (run b.size (by rw [ey]; simp [Builtin.len_, run_underlying (isStr_some hs), goInt])) r ⟨rfl, rfl⟩ h
    · exact h.elim
  · rename_i n _ _ hy
    rw [hy] at hy'
    obtain ⟨ba, cp, ey, _⟩ := hy'
    split at h
    · rename_i p hi
      obtain ⟨e, sz, by', l⟩ := p
      exact Good.value (v := .raw _) (run n (by rw [ey]; simp [Builtin.len_, run_underlying (rowInfo_some hi).1, goInt])) r ⟨rfl, rfl⟩ h
    · exact h.elim
  · rename_i id n hy
    rw [hy] at hy'
    obtain ⟨_, _, ey⟩ := hy'
    split at h
    · rename_i p hi
      obtain ⟨e, sz, by', l⟩ := p
      exact Good.value (v := .raw _) (run n (by rw [ey]; simp [Builtin.len_, run_underlying (rowInfo_some hi).1, goInt])) r ⟨rfl, rfl⟩ h
    · exact h.elim
  · rename_i hy
    rw [hy] at hy'
    obtain ⟨ey, _⟩ := hy'
    split at h
    · rename_i p hi
      obtain ⟨e, sz, by', l⟩ := p
      exact Good.value (v := .raw _) (run 0 (by rw [ey]; simp [Builtin.len_, run_underlying (rowInfo_some hi).1, goInt])) r ⟨rfl, rfl⟩ h
    · exact h.elim
  · rename_i hy
    rw [hy] at hy'
    obtain ⟨ad, ey⟩ := hy'
    split at h
    · rename_i p hi
      obtain ⟨e, sz, by', l⟩ := p
      exact Good.value (v := .raw _) (run 0 (by rw [ey]; simp [Builtin.len_, run_underlying (rowInfo_some hi).1, goInt])) r ⟨rfl, rfl⟩ h
    · exact h.elim
  · exact h.elim

/-! ### calls -/
theorem parts_rep (r : Rel B I0 w0 c s a as w) : ∀ {l : List Operand} {ps : List (Bool × List At)}, parts s l = some ps → All2 (PRep (imm B I0 c s.heap w) w s.heap c) ps (l.map a.eval)
  | [], ps, h => by simp [parts] at h; subst h; trivial
  | y :: l, ps, h => by
    have hy' := r.eval y
    unfold parts at h
    split at h
    · rename_i g xs q hy hp
      rw [hy] at hy'
      simp at h
      subst h
      exact ⟨hy', parts_rep r hp⟩
    · cases h

theorem run_callFunc {g : FuncId} (hc : callable P g = true) (args : Array Value) (w : World) : (callFunc g args).run P w = .ok (.enter g args) w := by
  unfold callable at hc
  split at hc
  · rename_i fn hf
    simp only [Bool.and_eq_true, bne_iff_ne, ne_eq] at hc
    have hb : fn.body.isNone = false := by cases hbb : fn.body <;> simp_all
    have hn : (fn.name == "runtime.NumGoroutine") = false := by simpa using hc.1
    unfold callFunc
    simp only [Sem.run_bind, run_program, Result.andThen_ok, hf, hn, Bool.false_eq_true, if_false, hb]
    rfl
  · cases hc

theorem good_enter {o : Oper} {g : FuncId} {vs : Array Value} {ps : List (Bool × List At)} {k x : V → St → Prop} (hr : (execOp a.eval o).run P w = .ok (.enter g vs) w) (r : Rel B I0 w0 c s a as w)
    (hp : All2 (PRep (imm B I0 c s.heap w) w s.heap c) ps vs.toList) (h : ACall P g ps s k x) : Good P o B I0 w0 a as w k x := by
  intro hG hnd rd next Q hn hq
  refine ⟨fun _ _ => trivial, ?_⟩
  rw [semAt_fen rd _ hnd, hr, Oper.uponIn_enter]
  refine ⟨(fun h0 => by cases h0), callsIn_fen.2 ((h B I0 w0 hG c a as w vs r hp).mono fun e w' hh => ?_)⟩
  rcases hh with ⟨u, v, s', c', rfl, r', hv, hk⟩ | ⟨u, v, s', c', rfl, r', hv, hx⟩
  · exact hn v s' c' w' u r' hv hk
  · exact hq v s' c' w' u r' hv hx

theorem run_noEscape_call {g : FuncId} (h : noEscape P g = true) (v : Value) (w : World) : (callFunc g #[v]).run P w = .ok (.value v) w := by
  unfold noEscape at h
  split at h
  · rename_i fn hf
    simp only [Bool.and_eq_true, beq_iff_eq] at h
    obtain ⟨⟨hn, hg⟩, hb⟩ := h
    have h1 : Extern.findNext fn = none := by unfold Extern.findNext; rw [hn, hg]; rfl
    have h2 : Extern.find fn = some Extern.AbiNoEscape.same := by unfold Extern.find; rw [hn]; rfl
    rw [run_callFunc_extern hf (by rw [hn]; decide) hb h1 h2, Lib.run_noEscape]
    rfl
  · cases h
theorem good_call {o : Oper} {f : Operand} {l : List Operand} {ts : Array TypeId} {k x : V → St → Prop} (ho : o.op = .call { callee := .value f, args := ⟨l⟩, argTypes := ts }) (r : Rel B I0 w0 c s a as w)
    (h : evCall P (s.eval f) l s k x) : Good P o B I0 w0 a as w k x := by
  have hf' := r.eval f
  unfold evCall at h
  split at h
  · rename_i g ps hf hp
    rw [hf] at hf'
    obtain ⟨ef, _⟩ := hf'
    split at h
    · rename_i hc
      refine good_enter (g := g) (vs := (l.map a.eval).toArray) ?_ r (by simpa using parts_rep r hp) h
      simp [execOp, ho, resolve, ef, Deferred.ofValue, invoke, run_callFunc hc]
    · split at h
      · rename_i hne
        split at h
        · rename_i y0
          have hps := parts_rep r hp
          match l, hps with
          | [y], ⟨hy, _⟩ =>
            refine Good.value (v := .a y0) (u := a.eval y) ?_ r hy h
            simp [execOp, ho, resolve, ef, Deferred.ofValue, invoke, run_noEscape_call hne]
        · exact h.elim
      · exact h.elim
  · rename_i id ps hf hp
    rw [hf] at hf'
    obtain ⟨hid, ef, _⟩ := hf'
    split at h
    · rename_i g first cap hob
      obtain ⟨fs, cs, eg, hfs, hcs⟩ := r.obs id _ hob
      split at h
      · rename_i hc
        refine good_enter (g := g) (vs := fs ++ (l.map a.eval).toArray ++ cs) ?_ r (by simpa using (hfs.append (parts_rep r hp)).append hcs) h
        simp [execOp, ho, resolve, ef, eg, Deferred.ofValue, invoke, run_callFunc hc]
      · exact h.elim
    · exact h.elim
  · rename_i id ps hf hp
    rw [hf] at hf'
    obtain ⟨hid, ef⟩ := hf'
    intro hG hnd rd next Q hn hq
    obtain ⟨lr, h1, h2, h3⟩ := h B I0 w0 hG c a as w (l.map a.eval).toArray r (by simpa using parts_rep r hp)
    refine ⟨fun _ _ => trivial, ?_⟩
    have hr : (execOp a.eval o).run P w = .ok (.round (c.ρ id) lr.fn ((lr.params.zip (l.map a.eval).toArray).foldl (fun tmps (t, a) => tmps.setIfInBounds t a) lr.tmps) lr.assign lr.body) w := by
      have := run_yield (P := P) h1 h2
      simp [execOp, ho, resolve, ef, Deferred.ofValue, invoke, this]
    rw [semAt_fen rd _ hnd, hr, Oper.uponIn_round]
    refine ⟨(fun h0 => by cases h0), (show RoundIn Fence.wide 0 P _ _ _ _ _ _ _ from h3.mono fun e w' hh => ?_)⟩
    obtain ⟨u, v, s', c', rfl, r', hv, hk⟩ := hh
    exact hn v s' c' w' u r' hv hk
  · exact h.elim

/-! ### slice expressions -/
theorem run_sliceBound_ok (k : IntKind) (q : Int) (n : Nat) (code : BoundsCode) (w : World) (h0 : 0 ≤ q) (h1 : q ≤ n) : (Instr.sliceBound (.int k q) n code).run P w = .ok q.toNat w := by
  simp [Instr.sliceBound, asIntOf, h0, h1]
theorem run_bounds' {α : Type} (k : IntKind) (i : Int) (n : Nat) (code : BoundsCode) (w : World) : ∃ u w', ((boundsPanic k i n code : Sem α).run P w = .halt (.panic u) w') ∧ (w' = w ∨ w' = w.drew) := by
  have key : ∀ signed w1, ((runtimePanic (.bounds (IntKind.i64.wrap i) n signed code) : Sem α).run P w1) =
      .halt (.panic (.iface P.rt.boundsError (.agg #[.int .i64 (IntKind.i64.wrap i), .int .i64 n, .bool signed, .int .u8 code.toNat]))) w1 := fun _ _ => rfl
  unfold boundsPanic
  by_cases hq : (k != .u64 && decide (0 ≤ i) && decide (i ≤ 31)) = true
  · simp only [hq, if_true, Sem.run_bind, Sem.run_map, run_choose, Question.forced, show ¬ ((2 : Nat) = 1) by omega, decide_false, Bool.false_eq_true, if_false, Result.andThen_ok, key]
    exact ⟨_, _, rfl, .inr rfl⟩
  · simp only [hq, if_false, Bool.false_eq_true, Sem.run_bind, Sem.run_pure, Result.andThen_ok, key]
    exact ⟨_, _, rfl, .inl rfl⟩
theorem run_sliceBound_bad (k : IntKind) (q : Int) (n : Nat) (code : BoundsCode) (w : World) (h : ¬ (0 ≤ q ∧ q ≤ n)) : ∃ u w', ((Instr.sliceBound (.int k q) n code).run P w = .halt (.panic u) w') ∧ (w' = w ∨ w' = w.drew) := by
  have e : (Instr.sliceBound (.int k q) n code).run P w = (boundsPanic k q n code : Sem Nat).run P w := by
    simp only [Instr.sliceBound, asIntOf, Sem.run_bind, Sem.run_pure, Result.andThen_ok, if_neg h]
  rw [e]
  exact run_bounds' k q n code w

def OptInt (d : Int) (v : Option Value) (q : Int) : Prop := (v = none ∧ q = d) ∨ ∃ k, v = some (.int k q)
theorem bnd_opt (r : Rel B I0 w0 c s a as w) {d q : Int} {y : Option Operand} (h : bnd s d y = some q) : OptInt d (y.map a.eval) q := by
  cases y with
  | none => simp [bnd] at h; exact .inl ⟨rfl, h.symm⟩
  | some y =>
    have hy' := r.eval y
    simp only [bnd] at h
    split at h
    · rename_i k q' hy
      rw [hy] at hy'
      simp at h
      subst h
      exact .inr ⟨k, by simp [hy'.1]⟩
    · cases h
theorem run_sliceBounds_ok (isSlice : Bool) (len cap : Nat) (lo hi : Option Value) (l h : Int) (w : World) (hlo : OptInt 0 lo l) (hhi : OptInt len hi h) (h0 : 0 ≤ l) (h1 : l ≤ h) (h2 : h ≤ cap) :
    (Instr.sliceBounds isSlice len cap lo hi none).run P w = .ok (l.toNat, h.toNat, cap) w := by
  unfold Instr.sliceBounds
  rcases hlo with ⟨rfl, rfl⟩ | ⟨kl, rfl⟩ <;> rcases hhi with ⟨rfl, rfl⟩ | ⟨kh, rfl⟩
  · simp
  · simp [run_sliceBound_ok (P := P) kh h cap _ w (by omega) h2]
  · simp [run_sliceBound_ok (P := P) kl l len _ w h0 h1]
  · simp [run_sliceBound_ok (P := P) kh h cap _ w (by omega) h2, run_sliceBound_ok (P := P) kl l h.toNat _ w h0 (by omega)]
theorem run_sliceBounds_bad (isSlice : Bool) (len cap : Nat) (lo hi : Option Value) (l h : Int) (w : World) (hlc : len ≤ cap) (hlo : OptInt 0 lo l) (hhi : OptInt len hi h) (hb : ¬ (0 ≤ l ∧ l ≤ h ∧ h ≤ cap)) :
    ∃ u w', ((Instr.sliceBounds isSlice len cap lo hi none).run P w = .halt (.panic u) w') ∧ (w' = w ∨ w' = w.drew) := by
  unfold Instr.sliceBounds
  rcases hlo with ⟨rfl, rfl⟩ | ⟨kl, rfl⟩ <;> rcases hhi with ⟨rfl, rfl⟩ | ⟨kh, rfl⟩
  · omega
  · obtain ⟨u, w', h1, h2⟩ := run_sliceBound_bad (P := P) kh h cap (if isSlice then .sliceAcap else .sliceAlen) w (by omega)
    exact ⟨u, w', by simp [h1], h2⟩
  · obtain ⟨u, w', h1, h2⟩ := run_sliceBound_bad (P := P) kl l len .sliceB w (by omega)
    exact ⟨u, w', by simp [h1], h2⟩
  · by_cases hh : 0 ≤ h ∧ h ≤ cap
    · obtain ⟨u, w', h1, h2⟩ := run_sliceBound_bad (P := P) kl l h.toNat .sliceB w (by omega)
      exact ⟨u, w', by simp [run_sliceBound_ok (P := P) kh h cap _ w hh.1 hh.2, h1], h2⟩
    · obtain ⟨u, w', h1, h2⟩ := run_sliceBound_bad (P := P) kh h cap (if isSlice then .sliceAcap else .sliceAlen) w hh
      exact ⟨u, w', by simp [h1], h2⟩

theorem extract_list (b : ByteArray) (l h : Nat) : b.extract l h = ⟨⟨(b.data.toList.take h).drop l⟩⟩ := by
  apply ByteArray.ext
  apply Array.ext'
  rw [Lib_extract b l h]
where
  Lib_extract (b : ByteArray) (l h : Nat) : (b.extract l h).data.toList = (b.data.toList.take h).drop l := by
    simp [ByteArray.data_extract, List.drop_take]

theorem good_slice {o : Oper} {t : TypeId} {y : Operand} {lo hi mx : Option Operand} {k x : V → St → Prop} (ho : o.op = .slice t y lo hi mx) (r : Rel B I0 w0 c s a as w)
    (h : evSlice P t (s.eval y) lo hi mx s k x) : Good P o B I0 w0 a as w k x := by
  have hy' := r.eval y
  unfold evSlice at h
  cases mx with
  | some ym =>
    have hm' := r.eval ym
    simp only at h
    split at h
    · rename_i x0 yh hy
      have hh' := r.eval yh
      rw [hy] at hy'
      split at h
      · rename_i kh hv km mv p x1 hyh hym hi' he
        obtain ⟨e, sz', by', l0⟩ := p
        obtain ⟨hu, i, v, h1, h2, h3, h4, h5, h6, h7, h8⟩ := rowInfo_some hi'
        rw [hyh] at hh'; rw [hym] at hm'
        obtain ⟨ehh, _⟩ := hh'
        obtain ⟨emm, _⟩ := hm'
        split at h
        · rename_i hb
          obtain ⟨rfl, rfl⟩ := hb
          have run : ∀ a0 n cp, a.eval y = .slice a0 n cp → (execOp a.eval o).run P w = .ok (.value (.slice a0 0 0)) w := by
            intro a0 n cp ey
            have z0 : ∀ (b0 : Addr), b0.add 0 = b0 := fun b0 => by simp [Addr.add]
            simp [execOp, ho, ey, Instr.sliceAt, Instr.slice, run_underlying hu, Instr.sliceBounds, run_sliceBound_ok (P := P) km 0 _ _ w (Int.le_refl _) (by omega : (0 : Int) ≤ (cp : Nat)), ehh, emm,
              run_sliceBound_ok (P := P) kh 0 0 _ w (Int.le_refl _) (Int.le_refl _), run_size h1, h2]
          have hy'' : AtRep (imm B I0 c s.heap w) w s.heap c x0 (a.eval y) := hy'
          unfold emptied at he
          split at he <;> simp only [Option.some.injEq, reduceCtorEq] at he
          · obtain ⟨ba, cp, ey, _⟩ := hy''
            subst he
            exact Good.value (v := .a .emp) (run _ _ _ ey) r ⟨_, rfl⟩ h
          · obtain ⟨_, _, ey⟩ := hy''
            subst he
            exact Good.value (v := .a .emp) (run _ _ _ ey) r ⟨_, rfl⟩ h
          · obtain ⟨_, ey⟩ := hy''
            subst he
            exact Good.value (v := .a .emp) (run _ _ _ ey) r ⟨_, rfl⟩ h
          · obtain ⟨ey, _⟩ := hy''
            subst he
            exact Good.value (v := .a (.d (.raw (.slice none 0 0)))) (run _ _ _ ey) r ⟨rfl, rfl⟩ h
        · exact h.elim
      · exact h.elim
    · exact h.elim
  | none =>
    simp only at h
    split at h
    · rename_i b hy
      rw [hy] at hy'
      obtain ⟨ey, _⟩ := hy'
      split at h
      · rename_i l hh hs hl hhb
        have ol := bnd_opt r hl
        have oh := bnd_opt r hhb
        have hu := isStr_some hs
        split at h
        · rename_i hb
          refine Good.value (v := .raw _) (u := .string ⟨⟨(b.data.toList.take hh.toNat).drop l.toNat⟩⟩) ?_ r ⟨rfl, rfl⟩ h
          simp [execOp, ho, ey, Instr.sliceAt, Instr.slice, run_underlying hu, run_sliceBounds_ok (P := P) false b.size b.size _ _ l hh w ol oh hb.1 hb.2.1 hb.2.2, extract_list]
        · rename_i hb
          obtain ⟨u, w', h1, h2⟩ := run_sliceBounds_bad (P := P) false b.size b.size _ _ l hh w (Nat.le_refl _) ol oh hb
          have hrun : (execOp a.eval o).run P w = .halt (.panic u) w' := by
            simp [execOp, ho, ey, Instr.sliceAt, Instr.slice, run_underlying hu, h1]
          rcases h2 with rfl | rfl
          · exact Good.panic (v := .unk) hrun r trivial h
          · exact Good.panic (v := .unk) hrun r.drew trivial h
      · exact h.elim
    · rename_i n sz get hy
      rw [hy] at hy'
      obtain ⟨ba, cp, ey, hcap, hmx, hc⟩ := hy'
      split at h
      · rename_i e sz' by' l0 l hh hi' hl hhb
        have ol := bnd_opt r hl
        have oh := bnd_opt r hhb
        obtain ⟨hu, i, v, h1, h2, h3, h4, h5, h6, h7, h8⟩ := rowInfo_some hi'
        split at h
        · rename_i hb
          obtain ⟨hb1, hb2, hb3, rfl⟩ := hb
          refine Good.value (v := .a (.d _)) (u := .slice (if cp = l.toNat then ba else ba.map (·.add (l.toNat * sz'))) (hh.toNat - l.toNat) (cp - l.toNat)) ?_ r ?_ h
          · simp [execOp, ho, ey, Instr.sliceAt, Instr.slice, run_underlying hu, run_sliceBounds_ok (P := P) true n cp _ _ l hh w ol oh hb1 hb2 (by omega), run_size h1, h2]
          · refine ⟨_, _, by rw [show (hh - l).toNat = hh.toNat - l.toNat by omega], by omega, by omega, fun hn => ?_⟩
            obtain ⟨b, off, ea, hcell⟩ := hc (by omega)
            subst ea
            refine ⟨b, off + l.toNat * sz', ?_, fun i hi j hj => ?_⟩
            · rw [if_neg (by omega)]; simp [Addr.add_lit]
            · have := hcell (l.toNat + i) (by omega) j hj
              rw [Nat.add_mul, Nat.add_assoc] at this
              rw [Nat.add_assoc]; exact this
        · exact h.elim
      · exact h.elim
    · rename_i id n hy
      rw [hy] at hy'
      obtain ⟨hid, hn, ey⟩ := hy'
      split at h
      · rename_i p hh hi' hhb
        obtain ⟨e, sz', by', l0⟩ := p
        have oh := bnd_opt r hhb
        obtain ⟨hu, i, v, h1, h2, h3, h4, h5, h6, h7, h8⟩ := rowInfo_some hi'
        split at h
        · rename_i hb
          have hnk : n ≤ c.cap id := r.row_cap hid hn
          refine Good.value (v := .a (.row id hh.toNat)) (u := .slice (c.ad id) hh.toNat (c.cap id)) ?_ r ⟨hid, by omega, rfl⟩ h
          have hsb := run_sliceBounds_ok (P := P) true n (c.cap id) _ _ 0 hh w (.inl ⟨rfl, rfl⟩) oh (Int.le_refl _) hb.1 (by omega)
          cases hk0 : c.κ id with
          | none =>
            rw [ad_none hk0] at ey ⊢
            simp [execOp, ho, ey, Instr.sliceAt, Instr.slice, run_underlying hu, hsb, run_size h1, h2, Addr.add]
          | some ck =>
            rw [ad_some hk0] at ey ⊢
            simp [execOp, ho, ey, Instr.sliceAt, Instr.slice, run_underlying hu, hsb, run_size h1, h2, Addr.add]
        · exact h.elim
      · exact h.elim
    · rename_i hy
      rw [hy] at hy'
      obtain ⟨ey, _⟩ := hy'
      split at h
      · rename_i p l hh hi' hl hhb
        obtain ⟨e, sz', by', l0⟩ := p
        have ol := bnd_opt r hl
        have oh := bnd_opt r hhb
        obtain ⟨hu, i, v, h1, h2, h3, h4, h5, h6, h7, h8⟩ := rowInfo_some hi'
        split at h
        · rename_i hb
          obtain ⟨rfl, rfl⟩ := hb
          refine Good.value (v := .raw _) (u := .slice none 0 0) ?_ r ⟨rfl, rfl⟩ h
          have := run_sliceBounds_ok (P := P) true 0 0 _ _ 0 0 w ol oh (Int.le_refl _) (Int.le_refl _) (Int.le_refl _)
          simp at this
          simp [execOp, ho, ey, Instr.sliceAt, Instr.slice, run_underlying hu, this, run_size h1, h2]
        · exact h.elim
      · exact h.elim
    · exact h.elim
end
end Go.Proofs.Vl
