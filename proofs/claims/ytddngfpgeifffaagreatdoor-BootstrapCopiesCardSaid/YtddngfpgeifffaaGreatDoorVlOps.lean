/- A part of the proof: Ops. -/
import Derived.Lib.Builder
import Derived.Lib.UnsafeStr
import Derived.Laws.Externs
import Derived.Test.YtddngfpgeifffaaGreatDoorVlEval
set_option linter.unusedVariables false
set_option linter.unusedSimpArgs false
/- A small logic of abstract values: each operation's soundness. -/
namespace Go.Proofs.Vl
open Go Go.RowKit

section
variable {P : Program} {B : Nat} {I0 : Nat → Nat → Prop} {w0 w : World} {c : Cx} {s : St} {a : Act} {as : List Act}

theorem ty_some {t : TypeId} {g : Bool} {n : Nat} (h : ty P t = some (g, n)) : ∃ d i, P.underlying t = some d ∧ P.info? t = some i ∧ TypeDesc.isAgg d = g ∧ i.size = n := by
  unfold ty at h
  split at h
  · rename_i d i h1 h2
    simp only [Option.some.injEq, Prod.mk.injEq] at h
    exact ⟨d, i, h1, h2, h.1, h.2⟩
  · cases h
theorem run_isAgg {t : TypeId} {g : Bool} {n : Nat} (h : ty P t = some (g, n)) (w : World) : (isAgg t).run P w = .ok g w := by
  obtain ⟨d, i, h1, h2, h3, h4⟩ := ty_some h
  unfold isAgg
  simp only [Sem.run_bind, run_underlying h1, Result.andThen_ok]
  subst h3
  cases d <;> rfl
theorem run_sizeOf {t : TypeId} {g : Bool} {n : Nat} (h : ty P t = some (g, n)) (w : World) : (sizeOf t).run P w = .ok n w := by
  obtain ⟨d, i, h1, h2, h3, h4⟩ := ty_some h
  unfold sizeOf typeInfo
  simp [Sem.run_bind, h2, Result.andThen_ok, h4]
theorem run_zero {t : TypeId} {l : List Value} (h : zc P t = some l) (w : World) : ∃ v, (zeroValue t).run P w = .ok v w ∧ v.cells.toList = l ∧ ∀ x ∈ l, x.oneCell' = true := by
  unfold zc at h
  split at h
  · rename_i v hv
    split at h
    · rename_i ha
      simp only [Option.some.injEq] at h
      obtain ⟨i, hi, hz⟩ := Option.bind_eq_some_iff.1 hv
      refine ⟨v, ?_, h, by subst h; exact List.all_eq_true.1 ha⟩
      unfold zeroValue typeInfo
      simp [Sem.run_bind, hi, hz, Result.andThen_ok]
    · cases h
  · cases h

theorem good_move {o : Oper} {y : Operand} {k x : V → St → Prop} (ho : o.op = .move y ∨ o.op = .assign y) (r : Rel B I0 w0 c s a as w) (h : k (s.eval y) s) : Good P o B I0 w0 a as w k x := by
  refine Good.value (u := a.eval y) ?_ r (r.eval y) h
  rcases ho with ho | ho <;> simp [execOp, ho]

theorem good_pick {o : Oper} {cc y z : Operand} {t : Bool} {k x : V → St → Prop} (ho : o.op = .pick cc y z) (r : Rel B I0 w0 c s a as w) (hc : s.eval cc = .c false [.d (.raw (.bool t))])
    (h : if t = true then k (s.eval y) s else k (s.eval z) s) : Good P o B I0 w0 a as w k x := by
  have hcc := r.eval cc
  rw [hc] at hcc
  obtain ⟨hcc, _⟩ := hcc
  cases t with
  | true => exact Good.value (u := a.eval y) (by simp [execOp, ho, hcc, asBool]) r (r.eval y) (by simpa using h)
  | false => exact Good.value (u := a.eval z) (by simp [execOp, ho, hcc, asBool]) r (r.eval z) (by simpa using h)

theorem good_alloc {o : Oper} {t : TypeId} {l : List Value} {k x : V → St → Prop} (ho : o.op = .alloc t) (r : Rel B I0 w0 c s a as w) (hz : zc P t = some l)
    (h : k (.a (.ref s.heap.length 0)) { s with heap := s.heap ++ [.cells t (l.map At.raw)] }) : Good P o B I0 w0 a as w k x := by
  obtain ⟨v, hv, hc, h1⟩ := run_zero hz w
  have hr := r.alloc_cells v.cells t (l.map At.raw) (by
    rw [hc]
    have : ∀ l : List Value, (∀ v ∈ l, v.oneCell' = true) → All2 (AtRep (imm B I0 c s.heap w) w s.heap c) (l.map At.raw) l := by
      intro l
      induction l with
      | nil => intro _; trivial
      | cons v l ih => intro hl; exact ⟨⟨rfl, hl v (by simp)⟩, ih fun v hv => hl v (by simp [hv])⟩
    exact this l h1) (by rw [hc]; exact h1)
  refine Good.value (u := .pointer (some ⟨w.heap.size, 0, none⟩)) ?_ hr ?_ h
  · simp [execOp, ho, Instr.alloc, hv, newVar, newRow]
  · exact ⟨by simp, by simp [Cx.new]⟩

theorem AtRep.one {I : Nat → Nat → Prop} {H : List Ob} {x : At} {u : Value} (hk : x.known = true) (h : AtRep I w H c x u) : u.oneCell' = true := by
  cases x with
  | d x => exact D.Rep.one _ h
  | ref => obtain ⟨_, rfl⟩ := h; rfl
  | row => obtain ⟨_, _, rfl⟩ := h; rfl
  | el => obtain ⟨_, rfl⟩ := h; rfl
  | fel => obtain ⟨_, _, rfl, _⟩ := h; rfl
  | emp => obtain ⟨_, rfl⟩ := h; rfl
  | sd => obtain ⟨_, _, rfl, _⟩ := h; rfl
  | mp => obtain ⟨_, rfl⟩ := h; rfl
  | clo => exact h.2.2
  | yld => obtain ⟨_, rfl⟩ := h; rfl
  | mref => obtain ⟨_, h⟩ := h; rcases h with rfl | rfl <;> rfl
  | unk => cases hk
theorem All2.right {α β : Type} {R : α → β → Prop} {S : β → Prop} : ∀ {l : List α} {m : List β}, All2 R l m → (∀ a ∈ l, ∀ b, R a b → S b) → ∀ b ∈ m, S b
  | [], [], _, _ => by simp
  | a :: l, b :: m, ⟨h1, h2⟩, h => by
    intro x hx
    rcases List.mem_cons.1 hx with rfl | hx
    · exact h a (by simp) _ h1
    · exact All2.right h2 (fun a ha => h a (by simp [ha])) x hx
theorem cells_rep {I : Nat → Nat → Prop} {H : List Ob} {g : Bool} {xs : List At} {u : Value} (hk : xs.all At.known = true) (h : CRep I w H c g xs u) :
    All2 (AtRep I w H c) xs u.cells.toList ∧ ∀ v ∈ u.cells.toList, v.oneCell' = true := by
  have key : All2 (AtRep I w H c) xs u.cells.toList := by
    cases g with
    | true => obtain ⟨cs, rfl, hc⟩ := h; exact hc
    | false =>
      match xs, hk, h with
      | [x], hk, h =>
        have h1 : u.oneCell' = true := AtRep.one (by simpa using hk) h
        cases u <;> first | exact ⟨h, trivial⟩ | simp [Value.oneCell'] at h1
  exact ⟨key, All2.right key fun a ha b hb => AtRep.one (List.all_eq_true.1 hk a ha) hb⟩

theorem good_box {o : Oper} {t : TypeId} {y : Operand} {g : Bool} {xs : List At} {k x : V → St → Prop} (ho : o.op = .box t y) (r : Rel B I0 w0 c s a as w) (hy : s.eval y = .c g xs) (hk : xs.all At.known = true)
    (h : k (.a (.ref s.heap.length 0)) { s with heap := s.heap ++ [.cells t xs] }) : Good P o B I0 w0 a as w k x := by
  have hv := r.eval y
  rw [hy] at hv
  obtain ⟨h1, h2⟩ := cells_rep hk hv
  have hr := r.alloc_cells (a.eval y).cells t xs h1 h2
  refine Good.value (u := .pointer (some ⟨w.heap.size, 0, none⟩)) ?_ hr ?_ h
  · simp [execOp, ho, Instr.box, newVar, newRow]
  · exact ⟨by simp, by simp [Cx.new]⟩

theorem good_extract {o : Oper} {y : Operand} {i : Nat} {ys : List (Bool × List At)} {p : Bool × List At} {k x : V → St → Prop} (ho : o.op = .extract y i) (r : Rel B I0 w0 c s a as w) (hy : s.eval y = .tup ys) (hp : ys[i]? = some p)
    (h : k (.c p.1 p.2) s) : Good P o B I0 w0 a as w k x := by
  have hv := r.eval y
  rw [hy] at hv
  obtain ⟨vs, e, h1⟩ := hv
  obtain ⟨b, hb, hr⟩ := h1.get hp
  refine Good.value (v := .c p.1 p.2) (u := b) ?_ r hr h
  have hb' : vs[i]? = some b := by simpa using hb
  simp [execOp, ho, e, Instr.extract, hb']

theorem good_nilCheck {o : Oper} {y : Operand} {x0 : At} {k x : V → St → Prop} (ho : o.op = .nilCheck y) (r : Rel B I0 w0 c s a as w) (hy : s.eval y = .c false [x0]) (hx : (∃ id off, x0 = .ref id off) ∨ (∃ id sz i j, x0 = .el id sz i j) ∨ (∃ m get, x0 = .fel m get))
    (h : k (.a x0) s) : Good P o B I0 w0 a as w k x := by
  have hv := r.eval y
  rw [hy] at hv
  have hv' : AtRep (imm B I0 c s.heap w) w s.heap c x0 (a.eval y) := hv
  refine Good.value (v := .a x0) (u := a.eval y) ?_ r hv' h
  rcases hx with ⟨id, off, rfl⟩ | ⟨id, sz, i, j, rfl⟩ | ⟨m, get, rfl⟩
  · obtain ⟨_, e⟩ := hv'; simp [execOp, ho, e]
  · obtain ⟨_, e⟩ := hv'; simp [execOp, ho, e]
  · obtain ⟨_, _, e, _⟩ := hv'; simp [execOp, ho, e]

theorem good_not {o : Oper} {t : TypeId} {y : Operand} {b : Bool} {k x : V → St → Prop} (ho : o.op = .unOp .not t y) (r : Rel B I0 w0 c s a as w) (hy : s.eval y = .c false [.d (.raw (.bool b))])
    (h : k (.raw (.bool !b)) s) : Good P o B I0 w0 a as w k x := by
  have hv := r.eval y
  rw [hy] at hv
  obtain ⟨e, _⟩ := hv
  refine Good.value (v := .raw (.bool !b)) (u := .bool !b) ?_ r ⟨rfl, rfl⟩ h
  simp [execOp, ho, e, Op.unary]

theorem run_eqGuard_int (op : BinOp) (t : TypeId) (x y : Operand) (k k' : IntKind) (n m : Int) (w : World) : (eqGuard op t x y (.int k n) (.int k' m)).run P w = .ok () w := by
  unfold eqGuard
  cases op <;> simp
theorem run_eqGuard_string (op : BinOp) (t : TypeId) (x y : Operand) (n m : ByteArray) (w : World) : (eqGuard op t x y (.string n) (.string m)).run P w = .ok () w := by
  unfold eqGuard
  cases op <;> simp
theorem run_binV {op : BinOp} {t : TypeId} {x y : Operand} {u v r : Value} (h : binV op u v = some r) (w : World) : (do eqGuard op t x y u v; binOp op t u v : Sem Value).run P w = .ok r w := by
  cases u with
  | int k n =>
    cases v with
    | int k' m =>
      simp only [Sem.run_bind, run_eqGuard_int, Result.andThen_ok]
      cases op <;> simp only [binV] at h <;> simp only [binOp] <;> (split at h) <;> (try simp only [Option.some.injEq] at h) <;>
        (first | (cases h; done) | (subst h; simp_all [Op.shift, Op.intArith, Op.intBits, Op.intCmp]; done) | (subst h; simp_all [Op.shift, Op.intArith, Op.intBits, Op.intCmp]; intro; omega))
    | _ => simp [binV] at h
  | string p =>
    cases v with
    | string q =>
      simp only [Sem.run_bind, run_eqGuard_string, Result.andThen_ok]
      cases op <;> simp only [binV, reduceCtorEq, Option.some.injEq] at h <;> subst h <;> simp [binOp, Op.stringOp]
    | _ => simp [binV] at h
  | _ => simp [binV] at h

theorem good_binV {o : Oper} {op : BinOp} {t t' : TypeId} {y z : Operand} {u v r : Value} {k x : V → St → Prop} (ho : o.op = .binOp op t y z t') (rl : Rel B I0 w0 c s a as w)
    (hy : s.eval y = .raw u) (hz : s.eval z = .raw v) (hb : binV op u v = some r) (h1 : r.oneCell' = true) (h : k (.raw r) s) : Good P o B I0 w0 a as w k x := by
  have hy' := rl.eval y
  have hz' := rl.eval z
  rw [hy] at hy'; rw [hz] at hz'
  obtain ⟨ey, _⟩ := hy'
  obtain ⟨ez, _⟩ := hz'
  refine Good.value (v := .raw r) (u := r) ?_ rl ⟨rfl, h1⟩ h
  have := run_binV (P := P) (t := t) (x := y) (y := z) hb w
  simp only [execOp, ho, ey, ez, Sem.run_bind] at this ⊢
  rw [this]; rfl
theorem binV_one {op : BinOp} {u v r : Value} (h : binV op u v = some r) : r.oneCell' = true := by
  cases u with
  | int k n =>
    cases v with
    | int k' m =>
      cases op <;> simp only [binV] at h <;> (split at h) <;> (try simp only [Option.some.injEq] at h) <;> first | (cases h; done) | (subst h; rfl)
    | _ => simp [binV] at h
  | string p =>
    cases v with
    | string q => cases op <;> simp only [binV, reduceCtorEq, Option.some.injEq] at h <;> subst h <;> rfl
    | _ => simp [binV] at h
  | _ => simp [binV] at h

theorem good_bin {o : Oper} {op : BinOp} {t t' : TypeId} {y z : Operand} {k x : V → St → Prop} (ho : o.op = .binOp op t y z t') (r : Rel B I0 w0 c s a as w)
    (h : evBin op (s.eval y) (s.eval z) (fun v => k v s) (fun v => x v s)) : Good P o B I0 w0 a as w k x := by
  have hy' := r.eval y
  have hz' := r.eval z
  unfold evBin at h
  split at h
  · rename_i ka n kb m hy hz
    rw [hy] at hy'; rw [hz] at hz'
    obtain ⟨ey, _⟩ := hy'
    obtain ⟨ez, _⟩ := hz'
    split at h
    · split at h
      · rename_i hk
        subst hk
        split at h
        · rename_i hm; subst hm
          refine Good.panic (u := .iface P.rt.errorString (strVal "integer divide by zero")) (v := .unk) (w' := w) ?_ r trivial h
          simp only [execOp, ho, ey, ez, Sem.run_bind, run_eqGuard_int, Result.andThen_ok, binOp, ne_eq, not_true, if_false, Op.intDiv, if_true]
          rfl
        · rename_i hm
          refine Good.value (v := .raw _) (u := .int ka (ka.wrap (n.tdiv m))) ?_ r ⟨rfl, rfl⟩ h
          simp [execOp, ho, ey, ez, Sem.run_bind, run_eqGuard_int, binOp, Op.intDiv, hm]
      · exact h.elim
    · split at h
      · rename_i hk
        subst hk
        split at h
        · rename_i hm; subst hm
          refine Good.panic (u := .iface P.rt.errorString (strVal "integer divide by zero")) (v := .unk) (w' := w) ?_ r trivial h
          simp only [execOp, ho, ey, ez, Sem.run_bind, run_eqGuard_int, Result.andThen_ok, binOp, ne_eq, not_true, if_false, Op.intDiv, if_true]
          rfl
        · rename_i hm
          refine Good.value (v := .raw _) (u := .int ka (n.tmod m)) ?_ r ⟨rfl, rfl⟩ h
          simp [execOp, ho, ey, ez, Sem.run_bind, run_eqGuard_int, binOp, Op.intDiv, hm]
      · exact h.elim
    · split at h
      · rename_i v hb
        exact good_binV ho r (by rw [hy]; rfl) (by rw [hz]; rfl) hb (binV_one hb) h
      · exact h.elim
  · rename_i p q hy hz
    rw [hy] at hy'; rw [hz] at hz'
    obtain ⟨ey, _⟩ := hy'
    obtain ⟨ez, _⟩ := hz'
    split at h
    · split at h
      · rename_i hl
        refine Good.value (v := .raw _) (u := .string (p ++ q)) ?_ r ⟨rfl, rfl⟩ h
        simp [execOp, ho, ey, ez, Sem.run_bind, run_eqGuard_string, binOp, run_string_add_sum w p q hl]
      · exact h.elim
    · split at h
      · rename_i v hb
        exact good_binV ho r (by rw [hy]; rfl) (by rw [hz]; rfl) hb (binV_one hb) h
      · exact h.elim
  · exact h.elim

/-! ### pointers held against one another -/
theorem run_eqGuard_ptr (op : BinOp) (t : TypeId) (x y : Operand) (p q : Option Addr) (w : World) : (eqGuard op t x y (.pointer p) (.pointer q)).run P w = .ok () w := by
  unfold eqGuard
  cases op <;> simp
theorem isPtr_some {t : TypeId} (h : isPtr P t = true) : ∃ e j, P.underlying t = some (.pointer e) ∧ P.info? e = some j := by
  unfold isPtr at h
  split at h
  · rename_i e he
    obtain ⟨j, hj⟩ := Option.isSome_iff_exists.1 h
    exact ⟨e, j, he, hj⟩
  · cases h
theorem run_ptr_none {tp te : TypeId} {j : TypeInfo} (w : World) (p : Option Addr) (hp : P.underlying tp = some (.pointer te)) (hte : P.info? te = some j) :
    (binOp .eql tp (.pointer p) (.pointer none)).run P w = .ok (.bool p.isNone) w ∧ (binOp .neq tp (.pointer p) (.pointer none)).run P w = .ok (.bool p.isSome) w := by
  have h : ∀ d : Nat, (Op.equalIn (d + 1) tp (.pointer p) (.pointer none)).run P w = .ok p.isNone w := fun d => by
    cases p <;> simp [Op.equalIn, run_underlying hp, sizeOf, typeInfo, hte]
  simp only [binOp]
  cases p <;> simp [Op.equal, Op.maxDepth, h 9999]
theorem good_cmp {o : Oper} {op : BinOp} {t t' : TypeId} {y z : Operand} {k x : V → St → Prop} (ho : o.op = .binOp op t y z t') (r : Rel B I0 w0 c s a as w)
    (h : evCmp P op t (s.eval y) (s.eval z) (fun v => k v s) (fun v => x v s)) : Good P o B I0 w0 a as w k x := by
  have hy' := r.eval y
  have hz' := r.eval z
  have fin : ∀ (p q : Option Addr) (b : Bool), a.eval y = .pointer p → a.eval z = .pointer q → (binOp op t (.pointer p) (.pointer q)).run P w = .ok (.bool b) w → k (.raw (.bool b)) s → Good P o B I0 w0 a as w k x := by
    intro p q b ey ez hb hk
    refine Good.value (v := .raw (.bool b)) (u := .bool b) ?_ r ⟨rfl, rfl⟩ hk
    simp only [execOp, ho, ey, ez, Sem.run_bind, run_eqGuard_ptr, Result.andThen_ok, hb, Sem.run_pure]
  unfold evCmp at h
  split at h
  · rename_i hy hz
    rw [hy] at hy'; rw [hz] at hz'
    split at h
    · rename_i hp; obtain ⟨e, j, h1, h2⟩ := isPtr_some hp
      exact fin none none true hy'.1 hz'.1 (run_ptr_none w none h1 h2).1 h
    · exact h.elim
  · rename_i hy hz
    rw [hy] at hy'; rw [hz] at hz'
    split at h
    · rename_i hp; obtain ⟨e, j, h1, h2⟩ := isPtr_some hp
      exact fin none none false hy'.1 hz'.1 (run_ptr_none w none h1 h2).2 h
    · exact h.elim
  · rename_i hy hz
    rw [hy] at hy'; rw [hz] at hz'
    split at h
    · rename_i hp; obtain ⟨e, j, h1, h2⟩ := isPtr_some hp
      exact fin _ none false hy'.2 hz'.1 (run_ptr_none w _ h1 h2).1 h
    · exact h.elim
  · rename_i hy hz
    rw [hy] at hy'; rw [hz] at hz'
    split at h
    · rename_i hp; obtain ⟨e, j, h1, h2⟩ := isPtr_some hp
      exact fin _ none true hy'.2 hz'.1 (run_ptr_none w _ h1 h2).2 h
    · exact h.elim
  · rename_i hy hz
    rw [hy] at hy'; rw [hz] at hz'
    split at h
    · rename_i hp; obtain ⟨rfl, rfl, hp⟩ := hp; obtain ⟨e, j, h1, h2⟩ := isPtr_some hp
      exact fin _ _ true hy'.2 hz'.2 (run_eql_ptr_same w _ h1 h2) h
    · exact h.elim
  · rename_i hy hz
    rw [hy] at hy'; rw [hz] at hz'
    split at h
    · rename_i hp; obtain ⟨rfl, rfl, hp⟩ := hp; obtain ⟨e, j, h1, h2⟩ := isPtr_some hp
      exact fin _ _ false hy'.2 hz'.2 (Lib.run_neq_ptr_same w _ h1 h2) h
    · exact h.elim
  · exact good_bin ho r h

/-! ### nil interfaces, truth values, structs held against one another -/
theorem run_part_plain {t : TypeId} {d : TypeDesc} (hu : P.underlying t = some d) (hd : TypeDesc.isAgg d = false) (cs : Array Value) (off : Nat) (v : Value) (hv : cs[off]? = some v) (w : World) : (part t cs off).run P w = .ok v w := by
  have hagg : (isAgg t).run P w = .ok false w := by
    unfold isAgg
    simp only [Sem.run_bind, run_underlying hu, Result.andThen_ok]
    cases d <;> first | rfl | (cases hd)
  simp [part, hagg, hv]
theorem eqFields_run {I I' : Nat → Nat → Prop} {H H' : List Ob} {cx cx' : Cx} {cs ds : Array Value} {xs ys : List At} (hx : All2 (AtRep I w H cx) xs cs.toList) (hy : All2 (AtRep I' w H' cx') ys ds.toList) (w' : World) :
    ∀ {fs : List Field} {l : List (Nat × Bool)} {b : Bool}, (fs.mapM fun f => if f.name = "_" then none else match P.underlying f.type with
      | some (.int _) => some (f.offset, false)
      | some .string => some (f.offset, true)
      | _ => none) = some l → eqVals l xs ys = some b → (Op.eqFields 9999 cs ds fs).run P w' = .ok b w'
  | [], l, b, h1, h2 => by
    simp at h1; subst h1
    simp [eqVals] at h2; subst h2
    rfl
  | f :: fs, l, b, h1, h2 => by
    rw [List.mapM_cons] at h1
    simp only [Option.bind_eq_bind, Option.bind_eq_some_iff, Option.pure_def, Option.some.injEq] at h1
    obtain ⟨q, hq, l', hl', rfl⟩ := h1
    split at hq
    · cases hq
    · rename_i hname
      obtain ⟨off, st⟩ := q
      simp only [eqVals] at h2
      split at h2
      · rename_i k a k' b' r e1 e2 e3
        split at h2
        · rename_i hk
          obtain ⟨rfl, rfl⟩ := hk
          simp only [Option.some.injEq] at h2; subst h2
          split at hq
          · rename_i κ hu
            simp at hq; subst hq
            obtain ⟨v, hv, rfl, _⟩ := hx.get e1
            obtain ⟨v', hv', rfl, _⟩ := hy.get e2
            simp only [Op.eqFields, hname, ne_eq, not_false_eq_true, if_true, Sem.run_bind, run_part_plain hu rfl cs _ _ (by simpa using hv), run_part_plain hu rfl ds _ _ (by simpa using hv'), Result.andThen_ok, run_equalIn_int w' 9998 f.type k κ a b' hu]
            cases hab : (a == b')
            · simp
            · simpa using eqFields_run hx hy w' hl' e3
          · simp at hq
          · cases hq
        · cases h2
      · rename_i a b' r e1 e2 e3
        split at h2
        · rename_i hk
          subst hk
          simp only [Option.some.injEq] at h2; subst h2
          split at hq
          · simp at hq
          · rename_i hu
            simp at hq; subst hq
            obtain ⟨v, hv, rfl, _⟩ := hx.get e1
            obtain ⟨v', hv', rfl, _⟩ := hy.get e2
            simp only [Op.eqFields, hname, ne_eq, not_false_eq_true, if_true, Sem.run_bind, run_part_plain hu rfl cs _ _ (by simpa using hv), run_part_plain hu rfl ds _ _ (by simpa using hv'), Result.andThen_ok, run_equalIn_string w' 9998 f.type a b' hu, ByteArray.toList_eq]
            cases hab : (a.data.toList == b'.data.toList)
            · simp
            · simpa using eqFields_run hx hy w' hl' e3
          · cases hq
        · cases h2
      · cases h2
theorem run_eqRes {op : BinOp} {t : TypeId} {u v : Value} {b : Bool} (h1 : (binOp .eql t u v).run P w = .ok (.bool b) w) (h2 : (binOp .neq t u v).run P w = .ok (.bool !b) w) {k : V → Prop} (h : eqRes op b k) :
    ∃ b', (binOp op t u v).run P w = .ok (.bool b') w ∧ k (.raw (.bool b')) := by
  unfold eqRes at h
  split at h
  · exact ⟨_, h1, h⟩
  · exact ⟨_, h2, h⟩
  · exact h.elim
/-- What is held against one another, in whatever world. -/
theorem eqX_run {op : BinOp} {t t' : TypeId} {y z : Operand} {k : V → Prop} {els : Prop} (r : Rel B I0 w0 c s a as w) (h : evEqX P op t (isLit z) (s.eval y) (s.eval z) k els) :
    els ∨ ∃ b, (∀ w', (do eqGuard op t y z (a.eval y) (a.eval z); binOp op t (a.eval y) (a.eval z) : Sem Value).run P w' = .ok (.bool b) w') ∧ k (.raw (.bool b)) := by
  have hy' := r.eval y
  have hz' := r.eval z
  unfold evEqX at h
  split at h
  · rename_i hy hz
    rw [hy] at hy'; rw [hz] at hz'
    obtain ⟨ey, _⟩ := hy'
    obtain ⟨ez, _⟩ := hz'
    split at h
    · rename_i hc
      obtain ⟨hl, hi⟩ := hc
      obtain ⟨cv, rfl⟩ : ∃ cv, z = .const cv := by cases z <;> first | exact ⟨_, rfl⟩ | cases hl
      have hu : P.underlying t = some (.interface (P.methodsAt t)) := by
        unfold isIface at hi
        split at hi
        · rename_i ms hms; rw [hms]; simp [Program.methodsAt, hms]
        · cases hi
      have h1 := fun w' => run_eql_nil_nil (P := P) w' t hu
      have h2 := fun w' => run_neq_nil_nil (P := P) w' t hu
      unfold eqRes at h
      split at h
      · exact .inr ⟨true, fun w' => by rw [ey, ez]; simp only [eqGuard_nil_constR, Sem.run_bind, Sem.run_pure, Result.andThen_ok, h1], h⟩
      · exact .inr ⟨false, fun w' => by rw [ey, ez]; simp only [eqGuard_nil_constR, Sem.run_bind, Sem.run_pure, Result.andThen_ok, h2], h⟩
      · exact h.elim
    · exact h.elim
  · rename_i p q hy hz
    rw [hy] at hy'; rw [hz] at hz'
    obtain ⟨ey, _⟩ := hy'
    obtain ⟨ez, _⟩ := hz'
    split at h
    · rename_i hb
      have hu : P.underlying t = some .bool := by
        unfold isBoolT at hb
        split at hb
        · assumption
        · cases hb
      have hg : ∀ w', (eqGuard op t y z (.bool p) (.bool q)).run P w' = .ok () w' := fun w' => by unfold eqGuard; cases op <;> simp
      have h1 : ∀ w', (Op.equal t (.bool p) (.bool q)).run P w' = .ok (p == q) w' := fun w' => run_equalIn_bool' w' 9999 t p q hu
      unfold eqRes at h
      split at h
      · exact .inr ⟨p == q, fun w' => by rw [ey, ez]; simp only [Sem.run_bind, hg, Result.andThen_ok, binOp]; simp [h1], h⟩
      · exact .inr ⟨!(p == q), fun w' => by rw [ey, ez]; simp only [Sem.run_bind, hg, Result.andThen_ok, binOp]; simp [h1], h⟩
      · exact h.elim
    · exact h.elim
  · rename_i xs ys hy hz
    rw [hy] at hy'; rw [hz] at hz'
    obtain ⟨cs, ey, hx⟩ := hy'
    obtain ⟨ds, ez, hyy⟩ := hz'
    split at h
    · rename_i l hl
      split at h
      · rename_i b hb
        unfold eqKinds at hl
        split at hl
        · rename_i fs hu
          split at hl
          · rename_i hc
            simp only [Bool.and_eq_true, Bool.not_eq_true'] at hc
            have hfs : P.fieldsOf t = fs := by unfold Program.fieldsOf; rw [hu]
            have hu' : P.underlying t = some (.struct (P.fieldsOf t)) := by rw [hfs]; exact hu
            have he : ∀ w', (Op.equalIn 10000 t (.agg cs) (.agg ds)).run P w' = .ok b w' := fun w' => by
              rw [run_equalIn_struct w' 9999 t cs ds hu' hc.1, hfs]
              exact eqFields_run hx hyy w' hl hb
            have hg := fun w' => run_eqGuard_agg (P := P) w' op t y z cs ds hc.2
            unfold eqRes at h
            split at h
            · exact .inr ⟨b, fun w' => by rw [ey, ez]; simp only [Sem.run_bind, hg, Result.andThen_ok, run_eql_struct, he], h⟩
            · exact .inr ⟨!b, fun w' => by rw [ey, ez]; simp only [Sem.run_bind, hg, Result.andThen_ok, run_neq_struct, he], h⟩
            · exact h.elim
          · cases hl
        · cases hl
      · exact h.elim
    · exact h.elim
  · exact .inl h
theorem good_eqX {o : Oper} {op : BinOp} {t t' : TypeId} {y z : Operand} {k x : V → St → Prop} (ho : o.op = .binOp op t y z t') (r : Rel B I0 w0 c s a as w)
    (h : evEqX P op t (isLit z) (s.eval y) (s.eval z) (fun v => k v s) (evCmp P op t (s.eval y) (s.eval z) (fun v => k v s) (fun v => x v s))) : Good P o B I0 w0 a as w k x := by
  rcases eqX_run (t' := t') r h with h | ⟨b, hr, hk⟩
  · exact good_cmp ho r h
  · refine Good.value (v := .raw (.bool b)) (u := .bool b) ?_ r ⟨rfl, rfl⟩ hk
    have := hr w
    simp only [execOp, ho, Sem.run_bind] at this ⊢
    rw [this]; rfl

/-! ### load -/
theorem mk_length (f : Nat → D) : ∀ n j, (mk f j n).length = n
  | 0, _ => rfl
  | n + 1, j => by simp [mk, mk_length f n]
theorem mk_rep {I : Nat → Nat → Prop} {H : List Ob} (f : Nat → D) (g : Nat → Value) : ∀ n j, (∀ i, j ≤ i → i < j + n → (f i).Rep I w (g i)) → All2 (AtRep I w H c) (mk f j n) ((List.range' j n).map g)
  | 0, _, _ => trivial
  | n + 1, j, h => ⟨h j (Nat.le_refl _) (by omega), mk_rep f g n (j + 1) fun i h1 h2 => h i (by omega) (by omega)⟩

theorem run_loadVar_cells {t : TypeId} {g : Bool} {n : Nat} (ht : ty P t = some (g, n)) (b o : Nat) (vs : List Value) (hn : vs.length = n) (hg : g = false → n = 1) (hc : ∀ i v, vs[i]? = some v → w.cell? ⟨b, o + i, none⟩ = some v) :
    (loadVar t ⟨b, o, none⟩).run P w = .ok (if g then .agg vs.toArray else vs.getD 0 undef) w := by
  unfold loadVar
  simp only [Sem.run_bind, run_isAgg ht, Result.andThen_ok]
  have hc' : ∀ j v, vs[j]? = some v → w.cell? ((⟨b, o, none⟩ : Addr).add j) = some v := fun j v hv => by rw [Addr.add_lit]; exact hc j v hv
  cases g with
  | true =>
    simp only [if_true, Sem.run_bind, run_sizeOf ht, Result.andThen_ok]
    subst hn
    rw [run_loadCells_list w _ vs hc']
    rfl
  | false =>
    have h1 := hg rfl
    match vs, hn with
    | [v], _ =>
      have := hc 0 v rfl
      simp at this
      simp [run_load, this]
    | [], hn => simp at hn; omega
    | _ :: _ :: _, hn => simp at hn; omega

theorem load_run {t : TypeId} {y : V} {u : Value} {k : V → Prop} (r : Rel B I0 w0 c s a as w) (hy' : VRep (imm B I0 c s.heap w) w s.heap c y u) (h : evLoad P t y s k) :
    ∃ ad v z, u = .pointer (some ad) ∧ (loadVar t ad).run P w = .ok z w ∧ VRep (imm B I0 c s.heap w) w s.heap c v z ∧ k v := by
  unfold evLoad at h
  split at h
  · -- a local object of cells
    rename_i g n id off ht
    obtain ⟨hid, e⟩ := hy'
    split at h
    · rename_i el xs hob
      obtain ⟨hB, cur, hc, ha, h1⟩ := r.obs id _ hob
      have hlen := ha.length
      have hcell : ∀ i v, cur[i]? = some v → w.cell? ⟨c.ρ id, i, none⟩ = some v := fun i v hv => by simp [World.cell?, hc, hv]
      split at h
      · rename_i hg
        split at h
        · rename_i hb
          have hl : ((cur.toList.drop off).take n).length = n := by simp at hlen ⊢; omega
          refine ⟨_, .c true ((xs.drop off).take n), .agg ((cur.toList.drop off).take n).toArray, e, ?_, ⟨_, rfl, (ha.drop off).take n⟩, h⟩
          rw [run_loadVar_cells ht (c.ρ id) off ((cur.toList.drop off).take n) hl (by simp [hg]) (fun i v hv => ?_)]
          · simp [hg]
          · refine hcell _ _ ?_
            rw [List.getElem?_take] at hv
            split at hv
            · simpa using hv
            · cases hv
        · exact h.elim
      · rename_i hg
        split at h
        · rename_i x0 hx
          obtain ⟨v, hv, hr⟩ := ha.get hx
          simp only [Bool.not_eq_true] at hg
          refine ⟨_, .c false [x0], v, e, ?_, hr, h⟩
          simp only [Sem.run_bind, Sem.run_pure, Result.andThen_ok, loadVar, run_isAgg ht, hg]
          simp [run_load, hcell off v (by simpa using hv)]
        · exact h.elim
    · exact h.elim
  · -- frozen cells
    rename_i g n m get ht
    obtain ⟨b, off, e, hc⟩ := hy'
    split at h
    · rename_i hb
      obtain ⟨hnm, hg⟩ := hb
      have hex : ∀ j, ∃ v, j < m → w.cell? ⟨b, off + j, none⟩ = some v ∧ (get j).Rep (imm B I0 c s.heap w) w v := fun j => by
        by_cases hj : j < m
        · obtain ⟨_, v, hv, hr⟩ := hc j hj; exact ⟨v, fun _ => ⟨hv, hr⟩⟩
        · exact ⟨undef, fun h => absurd h hj⟩
      have hvs := mk_rep (w := w) (c := c) (I := imm B I0 c s.heap w) (H := s.heap) get (fun j => (hex j).choose) n 0 (fun i _ hi => ((hex i).choose_spec (by omega)).2)
      have hrun := run_loadVar_cells (w := w) ht b off ((List.range' 0 n).map fun j => (hex j).choose) (by simp) hg (fun i v hv => by
        simp only [List.getElem?_map, Option.map_eq_some_iff] at hv
        obtain ⟨q, hq, rfl⟩ := hv
        have hi : i < n := by have := (List.getElem?_eq_some_iff.1 hq).1; simpa using this
        have : q = i := by have := (List.getElem?_eq_some_iff.1 hq).2; simp at this; exact this.symm
        subst this
        exact ((hex q).choose_spec (by omega)).1)
      refine ⟨_, .c g (mk get 0 n), _, e, hrun, ?_, h⟩
      cases g with
      | true => exact ⟨_, rfl, hvs⟩
      | false => have := hg rfl; subst this; exact hvs.1
    · exact h.elim
  · -- an element of a row
    rename_i g n id sz i j ht
    obtain ⟨hid, e⟩ := hy'
    split at h
    · rename_i e' sz' len get fz hob
      obtain ⟨hlen, hm, hr0⟩ := r.obs id _ hob
      split at h
      · rename_i hb
        obtain ⟨rfl, hi, hj, hgn⟩ := hb
        obtain ⟨ck, hk0, _⟩ := cap_lt (Nat.lt_of_lt_of_le hi hlen)
        obtain ⟨hB, cur, hc, hsz, hg⟩ := hr0 ck hk0
        have hex : ∀ q, ∃ v, q < sz' → w.cell? ⟨c.ρ id, i * sz' + q, none⟩ = some v ∧ (get i q).Rep (imm B I0 c s.heap w) w v := fun q => by
          by_cases hq : q < sz'
          · obtain ⟨v, hv, hr⟩ := hg i hi q hq; exact ⟨v, fun _ => ⟨by simp [World.cell?, hc, hv], hr⟩⟩
          · exact ⟨undef, fun h => absurd h hq⟩
        have hvs := mk_rep (w := w) (c := c) (I := imm B I0 c s.heap w) (H := s.heap) (get i) (fun q => (hex q).choose) n j (fun q _ hq => ((hex q).choose_spec (by omega)).2)
        have hrun := run_loadVar_cells (w := w) ht (c.ρ id) (i * sz' + j) ((List.range' j n).map fun q => (hex q).choose) (by simp) hgn (fun q v hv => by
          simp only [List.getElem?_map, Option.map_eq_some_iff] at hv
          obtain ⟨q', hq, rfl⟩ := hv
          have hi : q < n := by have := (List.getElem?_eq_some_iff.1 hq).1; simpa using this
          have : q' = j + q := by have := (List.getElem?_eq_some_iff.1 hq).2; simp at this; exact this.symm
          subst this
          have := ((hex (j + q)).choose_spec (by omega)).1
          exact (congrArg (fun z => w.cell? ⟨c.ρ id, z, none⟩) (Nat.add_assoc _ _ _)).trans this)
        refine ⟨_, .c g (mk (get i) j n), _, e, hrun, ?_, h⟩
        cases g with
        | true => exact ⟨_, rfl, hvs⟩
        | false => have := hgn rfl; subst this; exact hvs.1
      · exact h.elim
    · exact h.elim
  · exact h.elim

theorem good_load {o : Oper} {t : TypeId} {y : Operand} {k x : V → St → Prop} (ho : o.op = .load t y) (r : Rel B I0 w0 c s a as w)
    (h : evLoad P t (s.eval y) s fun v => k v s) : Good P o B I0 w0 a as w k x := by
  obtain ⟨ad, v, z, e, hr, hv, hk⟩ := load_run r (r.eval y) h
  refine Good.value (v := v) (u := z) ?_ r hv hk
  simp only [execOp, ho, e, Instr.loadAt, Instr.sureAddr, Sem.run_bind, Sem.run_pure, Result.andThen_ok, hr]

/-! ### store -/
theorem run_storeVar {t : TypeId} {g : Bool} {n : Nat} (ht : ty P t = some (g, n)) (b o : Nat) (v : Value) (hn : v.cells.toList.length = n) (h1 : ∀ x ∈ v.cells.toList, x.oneCell' = true)
    (cur : Array Value) (e : TypeId) (hc : w.heap[b]? = some (.cells cur e (0, 0))) (hl : o + n ≤ cur.size) :
    (storeVar t ⟨b, o, none⟩ v).run P w = .ok () (w.setRow b (cur.toList.take o ++ v.cells.toList ++ cur.toList.drop (o + n)).toArray) := by
  unfold storeVar
  have hn' : v.cells.size = n := by simpa using hn
  have := run_storeCells_at P b o e v.cells.toList 0 cur w hc (by simp only [Nat.add_zero]; omega) h1
  simp only [Nat.add_zero] at this
  simp only [Sem.run_bind, run_sizeOf ht, Result.andThen_ok, hn', ne_eq, not_true, if_false, this, hn]

theorem isD_known {ys : List At} (h : ys.all At.isD = true) : ys.all At.known = true := by
  rw [List.all_eq_true] at h ⊢
  intro x hx
  have := h x hx
  cases x <;> simp_all [At.isD, At.known]
theorem mul_sep {i i' sz j j' n : Nat} (hj' : j' < sz) (hj : j + n ≤ sz) (h1 : i * sz + j ≤ i' * sz + j') (h2 : i' * sz + j' < i * sz + j + n) : i' = i ∧ j ≤ j' ∧ j' < j + n := by
  have : i' = i := by
    rcases Nat.lt_trichotomy i' i with h | h | h
    · have := Nat.mul_le_mul_right sz (show i' + 1 ≤ i by omega)
      rw [Nat.add_mul] at this
      omega
    · exact h
    · have := Nat.mul_le_mul_right sz (show i + 1 ≤ i' by omega)
      rw [Nat.add_mul] at this
      omega
  subst this
  omega

theorem good_store {o : Oper} {t : TypeId} {y z : Operand} {k x : V → St → Prop} (ho : o.op = .store t y z) (r : Rel B I0 w0 c s a as w)
    (h : evStore P t (s.eval y) (s.eval z) s fun s' => k .unk s') : Good P o B I0 w0 a as w k x := by
  have hy' := r.eval y
  have hz' := r.eval z
  unfold evStore at h
  split at h
  · rename_i g n id off g' ys ht hy hz
    rw [hy] at hy'; rw [hz] at hz'
    obtain ⟨hid, e⟩ := hy'
    split at h
    · rename_i el xs hob
      split at h
      · rename_i hb
        obtain ⟨hn, hl, hk⟩ := hb
        obtain ⟨hB, cur, hc, ha, h1⟩ := r.obs id _ hob
        obtain ⟨hr, hr1⟩ := cells_rep hk hz'
        have hlen := ha.length
        have hlv := hr.length
        have hrun := run_storeVar (w := w) ht (c.ρ id) off (a.eval z) (by omega) hr1 cur el hc (by simp at hlen; omega)
        refine Good.skip (w' := w.setRow (c.ρ id) (cur.toList.take off ++ (a.eval z).cells.toList ++ cur.toList.drop (off + n)).toArray) ?_ (r.setRow (.cells el xs) (.cells el (putList xs off ys)) id cur _ el hc hob rfl rfl rfl (fun _ ho => absurd ho (by simp [Ob.fzc])) (Nat.le_refl _) ?_) h
        · simp only [execOp, ho, e, Instr.storeAt, Instr.sureAddr, Sem.run_bind, Sem.run_pure, Result.andThen_ok, hrun]
        · intro hs
          refine ⟨hB, _, setRow_heap w _ cur _ el _ hc, ?_, ?_⟩
          · have hpl : putList xs off ys = xs.take off ++ ys ++ xs.drop (off + n) := by rw [putList, hn]
            conv => arg 2; rw [hpl]
            exact ((((ha.take off).append hr).append (ha.drop (off + n))).imp fun x v h => AtRep.mono hs (At.fits_all x) h)
          · intro v hv
            simp only [List.mem_append] at hv
            rcases hv with (hv | hv) | hv
            · exact h1 v (List.mem_of_mem_take hv)
            · exact hr1 v hv
            · exact h1 v (List.mem_of_mem_drop hv)
      · exact h.elim
    · exact h.elim
  · rename_i g n id sz i j g' ys ht hy hz
    rw [hy] at hy'; rw [hz] at hz'
    obtain ⟨hid, e⟩ := hy'
    split at h
    · rename_i el sz' len get fz hob
      split at h
      · rename_i hb
        obtain ⟨hn, rfl, hi, hfz, hj, hk⟩ := hb
        obtain ⟨hlen, hm, hr0⟩ := r.obs id _ hob
        obtain ⟨ck, hk0, hik⟩ := cap_lt (Nat.lt_of_lt_of_le hi hlen)
        obtain ⟨hB, cur, hc, hsz, hg⟩ := hr0 ck hk0
        obtain ⟨hr, hr1⟩ := cells_rep (isD_known hk) hz'
        have hlv := hr.length
        have hin : i * sz' + j + n ≤ cur.size := by
          rw [hsz]
          have := Nat.mul_le_mul_right sz' (show i + 1 ≤ ck by omega)
          rw [Nat.add_mul] at this
          omega
        have hrun := run_storeVar (w := w) ht (c.ρ id) (i * sz' + j) (a.eval z) (by omega) hr1 cur el hc hin
        have hlv' : (a.eval z).cells.toList.length = n := by omega
        have hget : ∀ q, (cur.toList.take (i * sz' + j) ++ (a.eval z).cells.toList ++ cur.toList.drop (i * sz' + j + n)).toArray[q]? =
            if i * sz' + j ≤ q ∧ q < i * sz' + j + n then (a.eval z).cells.toList[q - (i * sz' + j)]? else cur[q]? := by
          intro q
          simp only [List.getElem?_toArray]
          have hlt : (cur.toList.take (i * sz' + j)).length = i * sz' + j := by simp; omega
          split
          · rename_i hq
            rw [List.getElem?_append_left (by rw [List.length_append, hlt]; omega), List.getElem?_append_right (by omega), hlt]
          · rename_i hq
            by_cases hq1 : q < i * sz' + j
            · rw [List.getElem?_append_left (by rw [List.length_append, hlt]; omega), List.getElem?_append_left (by omega), List.getElem?_take, if_pos hq1]
              simp
            · rw [List.getElem?_append_right (by rw [List.length_append, hlt]; omega), List.length_append, hlt, hlv', List.getElem?_drop]
              rw [show i * sz' + j + n + (q - (i * sz' + j + n)) = q by omega]
              simp
        refine Good.skip (w' := w.setRow (c.ρ id) (cur.toList.take (i * sz' + j) ++ (a.eval z).cells.toList ++ cur.toList.drop (i * sz' + j + n)).toArray) ?_
          (r.setRow (.row el sz' len get fz) (.row el sz' len (updRow get i j (ys.map At.toD)) fz) id cur _ el hc hob (row_blk hk0) (row_blk hk0) rfl ?_ (Nat.le_refl _) ?_) h
        · simp only [execOp, ho, e, Instr.storeAt, Instr.sureAddr, Sem.run_bind, Sem.run_pure, Result.andThen_ok, hrun]
        · intro q hq
          rw [hget, if_neg]
          simp only [Ob.fzc] at hq
          have := Nat.mul_le_mul_right sz' hfz
          omega
        · intro hs
          refine ⟨hlen, hm, fun k hk' => ⟨hB, _, setRow_heap w _ cur _ el _ hc, ?_, ?_⟩⟩
          · have : k = ck := by rw [hk0] at hk'; exact (Option.some.inj hk').symm
            subst this
            simp only [List.size_toArray, List.length_append, List.length_take, List.length_drop, Array.length_toList, hlv']
            omega
          · intro i' hi' j' hj'
            rw [hget]
            split
            · rename_i hq
              obtain ⟨rfl, h1, h2⟩ := mul_sep hj' hj hq.1 hq.2
              have hjl : j' - j < ys.length := by omega
              obtain ⟨v, hv, hvr⟩ := hr.get (List.getElem?_eq_getElem hjl)
              refine ⟨v, by rw [show i' * sz' + j' - (i' * sz' + j) = j' - j by omega]; exact hv, ?_⟩
              simp only [updRow, if_true, h1]
              have hd : (ys.map At.toD).getD (j' - j) (get i' j') = (ys[j' - j]).toD := by simp [List.getD, hjl]
              rw [hd]
              have hx := List.all_eq_true.1 hk (ys[j' - j]) (List.getElem_mem hjl)
              generalize ys[j' - j] = q at *
              cases q with
              | d q => exact D.Rep.mono hs.d _ hvr
              | _ => simp [At.isD] at hx
            · rename_i hq
              obtain ⟨v, hv, hvr⟩ := hg i' hi' j' hj'
              refine ⟨v, hv, ?_⟩
              have : updRow get i j (ys.map At.toD) i' j' = get i' j' := by
                simp only [updRow]
                split
                · rename_i e1; subst e1
                  split
                  · rw [List.getD, List.getElem?_eq_none (by simp; omega)]; rfl
                  · rfl
                · rfl
              rw [this]
              exact D.Rep.mono hs.d _ hvr
      · exact h.elim
    · exact h.elim
  · exact h.elim
end
end Go.Proofs.Vl
