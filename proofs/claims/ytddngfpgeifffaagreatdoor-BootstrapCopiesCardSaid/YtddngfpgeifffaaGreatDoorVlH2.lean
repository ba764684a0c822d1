/- A part of the proof: H2. -/
import Derived.Test.YtddngfpgeifffaaGreatDoorVlH0
import Derived.Test.YtddngfpgeifffaaGreatDoorVlPure
set_option linter.unusedVariables false
set_option linter.unusedSimpArgs false
set_option maxRecDepth 20000
namespace Go.Proofs.YtddngfpgeifffaaGreatDoor
open Go Go.Proofs Go.Proofs.Vl

/-! What a sign does. -/
def binM (c a b : Int) : Option Int :=
  if c = 43 then some (IntKind.u32.wrap (a + b))
  else if c = 45 then some (IntKind.u32.wrap (a - b))
  else if c = 42 then some (IntKind.u32.wrap (a * b))
  else if c = 47 then if b = 0 then none else some (IntKind.u32.wrap (a.tdiv b))
  else if c = 37 then if b = 0 then none else some (a.tmod b)
  else if c = 94 then some (bXor .u32 a b)
  else if c = 60 then some (if a < b then 1 else 0)
  else none
def digitV (v c : Int) : Int := IntKind.u32.wrap (IntKind.u32.wrap (IntKind.u32.wrap (v * 10) + c) - 48)
def withTop (m : MSt) (v : Int) : Option MSt := if m.data.length < 256 then some (pushed m v) else none
def otherM (m : MSt) (c : Int) : Option MSt :=
  match m.data with
  | b :: a :: st => match binM c a b with
    | some r => withTop { m with data := st } r
    | none => none
  | _ => none
def execM (m : MSt) (c : Int) : Option MSt :=
  if 48 ≤ c ∧ c ≤ 57 then
    if m.digit = true then match m.data with
      | v :: st => some { m with data := digitV v c :: st }
      | [] => none
    else withTop m (IntKind.u32.wrap (c - 48))
  else if c = 32 ∨ c = 10 then some m
  else if c = 64 then match m.data with
    | a :: st => if a < 262144 then withTop { m with data := st } (m.mem a.toNat) else none
    | [] => none
  else if c = 33 then match m.data with
    | a :: v :: st => if a < 262144 then some { m with data := st, mem := fun i => if i = a.toNat then v else m.mem i } else none
    | _ => none
  else if c = 63 then match m.data with
    | t :: v :: st => some { m with data := st, pc := if v = 0 then t else m.pc }
    | _ => none
  else if c = 58 then match m.data with
    | t :: st => if m.calls.length < 64 then some { m with data := st, calls := m.pc :: m.calls, pc := t } else none
    | [] => none
  else if c = 59 then match m.calls with
    | p :: cs => some { m with calls := cs, pc := p }
    | [] => none
  else if c = 44 then withTop { m with input := m.input.tail } (m.input.headD 4294967295)
  else if c = 46 then match m.data with
    | v :: st => some { m with data := st, output := m.output ++ [UInt8.ofNat v.toNat] }
    | [] => none
  else if c = 36 then some { m with stopped := true }
  else otherM m c

/-- What is asked behind a sign that is done; behind a trap. -/
def EPost (k : V → St → Prop) (cur : Fr) (rest : List Fr) (T : List Ob) (m' : MSt) : Prop :=
  ∀ g', MRel m' g' → k (.tup []) ⟨cur, rest, MH m' g' T⟩ ∧ ∀ r ob, (r = 6 ∨ r = 7 ∨ r = 8) → k (.tup []) ⟨cur.scrub r, rest.map (Fr.scrub r), MH m' g' (T.map (Ob.scrub r) ++ [ob])⟩
def XPost (x : V → St → Prop) (cur : Fr) (rest : List Fr) (T : List Ob) (m : MSt) : Prop :=
  ∀ m' g', MRel m' g' → m'.output = m.output → m'.steps = m.steps → x trapV ⟨cur, rest, MH m' g' T⟩
theorem MRel.stop {m : MSt} {g : MG} (h : MRel m g) : MRel { m with stopped := true } g := { h with }
theorem MRel.drop {m : MSt} {g : MG} {v : Int} {st : List Int} (h : MRel m g) (hd : m.data = v :: st) : MRel { m with data := st } g :=
  { h with
    gd := by have := h.gd; rw [hd] at this; exact this.pop
    ld := by have := h.ld; rw [hd] at this; simp at this ⊢; omega
    dataR := fun u hu => h.dataR u (by rw [hd]; simp [hu])
    dataL := by have := h.dataL; rw [hd] at this; simp at this ⊢; omega }

section
variable {cur : Fr} {rest : List Fr} {m : MSt} {g : MG} {T : List Ob} {k x : V → St → Prop}
theorem m_stop (hr : MRel m g) (hk : EPost k cur rest T { m with stopped := true }) : ACall Tryz.prog 54 [(false, [.ref 3 0]), (false, [.d (.raw (.int .u32 36))])] ⟨cur, rest, MH m g T⟩ k x := by
  refine ACall.of_body Tryz.func54 rfl (by kernel_rfl) (Nat.le_of_ble_eq_true rfl) ?_
  simp -implicitDefEqProofs (maxSteps := 10000000) (disch := omega) [MH, mObj]
  simpa [MH, mObj] using (hk g hr.stop).1
theorem m_space (c : Int) (hc : c = 32 ∨ c = 10) (hr : MRel m g) (hk : EPost k cur rest T m) : ACall Tryz.prog 54 [(false, [.ref 3 0]), (false, [.d (.raw (.int .u32 c))])] ⟨cur, rest, MH m g T⟩ k x := by
  refine ACall.of_body Tryz.func54 rfl (by kernel_rfl) (Nat.le_of_ble_eq_true rfl) ?_
  rcases hc with rfl | rfl <;> simp -implicitDefEqProofs (maxSteps := 10000000) (disch := omega) <;> exact (hk g hr).1
theorem m_jump (hr : MRel m g) (hk : ∀ t v st, m.data = t :: v :: st → EPost k cur rest T { m with data := st, pc := if v = 0 then t else m.pc }) (hx : (m.data.length < 2) → XPost x cur rest T m) :
    ACall Tryz.prog 54 [(false, [.ref 3 0]), (false, [.d (.raw (.int .u32 63))])] ⟨cur, rest, MH m g T⟩ k x := by
  refine ACall.of_body Tryz.func54 rfl (by kernel_rfl) (Nat.le_of_ble_eq_true rfl) ?_
  simp -implicitDefEqProofs (maxSteps := 10000000) (disch := omega)
  refine m_pop hr (fun t st hd => ?_) (fun hd => ?_)
  · simp -implicitDefEqProofs (maxSteps := 10000000) (disch := omega)
    refine m_pop (hr.drop hd) (fun v st2 hd2 => ?_) (fun hd2 => ?_)
    · simp only at hd2
      subst hd2
      have hk := hk t v st2 hd
      have hR : MRel { m with data := st2, pc := if v = 0 then t else m.pc } g := { (hr.drop hd).drop (m := { m with data := v :: st2 }) rfl with pcR := by split; (exact hr.dataR t (by rw [hd]; simp)); exact hr.pcR }
      simp -implicitDefEqProofs (maxSteps := 10000000) (disch := omega)
      refine boolK_both (fun h => ?_) (fun h => ?_) <;> simp at h
      · subst h
        simp -implicitDefEqProofs (maxSteps := 10000000) (disch := omega) [MH, mObj]
        simpa [MH, mObj] using (hk g hR).1
      · simp -implicitDefEqProofs (maxSteps := 10000000) (disch := omega)
        rw [if_neg h] at hk hR
        exact (hk g hR).1
    · simp -implicitDefEqProofs (maxSteps := 10000000) (disch := omega)
      exact hx (by simp only at hd2; rw [hd, hd2]; simp) _ g (hr.drop hd) rfl rfl
  · simp -implicitDefEqProofs (maxSteps := 10000000) (disch := omega)
    exact hx (by rw [hd]; simp) m g hr rfl rfl
theorem m_call (hr : MRel m g) (hk : ∀ t st, m.data = t :: st → m.calls.length < 64 → EPost k cur rest T { m with data := st, calls := m.pc :: m.calls, pc := t }) (hx : (∀ t st, m.data = t :: st → 64 ≤ m.calls.length) → XPost x cur rest T m) :
    ACall Tryz.prog 54 [(false, [.ref 3 0]), (false, [.d (.raw (.int .u32 58))])] ⟨cur, rest, MH m g T⟩ k x := by
  refine ACall.of_body Tryz.func54 rfl (by kernel_rfl) (Nat.le_of_ble_eq_true rfl) ?_
  simp -implicitDefEqProofs (maxSteps := 10000000) (disch := omega)
  refine m_pop hr (fun t st hd => ?_) (fun hd => ?_)
  · have hlc := hr.lc
    have hLc := hr.callsL
    simp -implicitDefEqProofs (maxSteps := 10000000) (disch := omega) [MH, mObj]
    refine m_check (fun h => ?_) (fun h => ?_) <;> simp at h
    · have hk := hk t st hd (by omega)
      have hR : MRel { m with data := st, calls := m.pc :: m.calls, pc := t } { g with nc := m.calls.length + 1, gc := catRow g.gc m.calls.length (litRow [.d (.raw (.int .u32 m.pc))] 1) } :=
        { (hr.drop hd) with
          pcR := hr.dataR t (by rw [hd]; simp)
          gc := hr.gc.push m.pc
          lc := by simp
          callsR := fun u hu => by
            rcases List.mem_cons.1 hu with rfl | hu
            · exact hr.pcR
            · exact hr.callsR u hu
          callsL := by simp; omega }
      simp -implicitDefEqProofs (maxSteps := 10000000) (disch := omega)
      refine ADraw.of_plan (Sched.one 0 (Sched.one 1 (Sched.one 2 (Sched.one 3 (Sched.one 5 (Sched.one 6 (Sched.one 7 (Sched.alt 4 (Sched.alt 8 (Sched.alt 9 (Sched.alt 10 (Sched.one 11 (Sched.one 12 (Sched.alt 13 Sched.fin Sched.stop))) Sched.stop) Sched.stop) Sched.stop) (Sched.alt 8 (Sched.alt 4 (Sched.alt 9 (Sched.alt 10 (Sched.one 11 (Sched.one 12 (Sched.alt 13 Sched.fin Sched.stop))) Sched.stop) Sched.stop) (Sched.alt 9 (Sched.alt 4 (Sched.alt 10 (Sched.one 11 (Sched.one 12 (Sched.alt 13 Sched.fin Sched.stop))) Sched.stop) Sched.stop) Sched.stop)) Sched.stop))))))))) (by kernel_rfl) (by kernel_rfl) ?_
      simp -implicitDefEqProofs (maxSteps := 10000000) (disch := omega) [List.getElem?_concat_length, List.getElem?_append_left, List.set_append_left]
      simpa [MH, mObj] using (hk _ hR).2 7 (.row 23 1 1 (litRow [.d (.raw (.int .u32 m.pc))] 1) 0) (by simp)
    · simp -implicitDefEqProofs (maxSteps := 10000000) (disch := omega)
      have := hx (fun _ _ _ => by omega) _ g (hr.drop hd) rfl rfl
      simpa [MH, mObj] using this
  · simp -implicitDefEqProofs (maxSteps := 10000000) (disch := omega)
    exact hx (fun t st h => by rw [hd] at h; cases h) m g hr rfl rfl
theorem m_ret (hr : MRel m g) (hk : ∀ p cs, m.calls = p :: cs → EPost k cur rest T { m with calls := cs, pc := p }) (hx : m.calls = [] → XPost x cur rest T m) :
    ACall Tryz.prog 54 [(false, [.ref 3 0]), (false, [.d (.raw (.int .u32 59))])] ⟨cur, rest, MH m g T⟩ k x := by
  refine ACall.of_body Tryz.func54 rfl (by kernel_rfl) (Nat.le_of_ble_eq_true rfl) ?_
  have hlc := hr.lc
  have hLc := hr.callsL
  cases hd : m.calls with
  | nil =>
    simp -implicitDefEqProofs (maxSteps := 10000000) (disch := omega) [MH, mObj, hd]
    refine m_check (fun h => by cases h) (fun _ => ?_)
    simp -implicitDefEqProofs (maxSteps := 10000000) (disch := omega)
    simpa [MH, mObj, hd] using hx hd m g hr rfl rfl
  | cons p cs =>
    have hst := hr.gc
    rw [hd] at hst hlc hLc
    have htop := hst.top
    simp at hlc hLc
    simp -implicitDefEqProofs (maxSteps := 10000000) (disch := omega) [MH, mObj, hd]
    refine m_check (fun _ => ?_) (fun h => by simp at h)
    simp -implicitDefEqProofs (maxSteps := 10000000) (disch := omega) [htop, du32]
    have hR : MRel { m with calls := cs, pc := p } g :=
      { hr with
        pcR := hr.callsR p (by rw [hd]; simp)
        gc := hst.pop
        lc := by simp; omega
        callsR := fun u hu => hr.callsR u (by rw [hd]; simp [hu])
        callsL := by simp; omega }
    simpa [MH, mObj, hd] using (hk p cs hd g hR).1
theorem m_out (hr : MRel m g) (hk : ∀ v st, m.data = v :: st → EPost k cur rest T { m with data := st, output := m.output ++ [UInt8.ofNat v.toNat] }) (ho : m.output.length ≤ 1000000000) (hx : m.data = [] → XPost x cur rest T m) :
    ACall Tryz.prog 54 [(false, [.ref 3 0]), (false, [.d (.raw (.int .u32 46))])] ⟨cur, rest, MH m g T⟩ k x := by
  refine ACall.of_body Tryz.func54 rfl (by kernel_rfl) (Nat.le_of_ble_eq_true rfl) ?_
  have hlo := hr.lo
  have key : ∀ v st, m.data = v :: st → MRel { m with data := st, output := m.output ++ [UInt8.ofNat v.toNat] } { g with no := m.output.length + 1, go := catRow g.go m.output.length (litRow [.d (.raw (.int .u8 (IntKind.u8.wrap v)))] 1) } := fun v st hd =>
    { (hr.drop hd) with
      go := by
        have hv := hr.dataR v (by rw [hd]; simp)
        have e : IntKind.u8.wrap v = ((UInt8.ofNat v.toNat).toNat : Int) := by
          rw [IntKind.wrap_u8, UInt8.toNat_ofNat']
          have := hv.1
          omega
        rw [e]
        exact hr.go.byte _
      lo := by simp }
  simp -implicitDefEqProofs (maxSteps := 10000000) (disch := omega) [MH, mObj]
  refine ADraw.of_plan (Sched.one 0 (Sched.one 1 (Sched.one 2 (Sched.one 3 (Sched.one 5 (Sched.alt 4 (Sched.alt 6 (Sched.one 7 (Sched.alt 8 (Sched.alt 9 (Sched.one 10 (Sched.one 11 (Sched.alt 12 Sched.fin Sched.stop))) Sched.stop) Sched.stop)) Sched.stop) (Sched.alt 6 (Sched.one 7 (Sched.alt 4 (Sched.alt 8 (Sched.alt 9 (Sched.one 10 (Sched.one 11 (Sched.alt 12 Sched.fin Sched.stop))) Sched.stop) Sched.stop) (Sched.alt 8 (Sched.alt 4 (Sched.alt 9 (Sched.one 10 (Sched.one 11 (Sched.alt 12 Sched.fin Sched.stop))) Sched.stop) Sched.stop) Sched.stop))) Sched.stop))))))) (by kernel_rfl) (by kernel_rfl) ?_
  simp -implicitDefEqProofs (maxSteps := 10000000) (disch := omega)
  refine ⟨?_, ?_⟩
  all_goals
    refine m_pop (m := m) (g := g) (T := T) hr (fun v st hd => ?_) (fun hd => ?_)
    · simp -implicitDefEqProofs (maxSteps := 10000000) (disch := omega) [MH, mObj, List.getElem?_concat_length, List.getElem?_append_left, List.set_append_left]
      simpa [MH, mObj] using (hk v st hd _ (key v st hd)).2 8 (.row 5 1 1 (litRow [.d (.raw (.int .u8 (IntKind.u8.wrap v)))] 1) 0) (by simp)
    · simp -implicitDefEqProofs (maxSteps := 10000000) (disch := omega)
      exact hx hd m g hr rfl rfl
theorem m_in (hr : MRel m g) (hk : m.data.length < 256 → EPost k cur rest T (pushed { m with input := m.input.tail } (m.input.headD 4294967295))) (hx : 256 ≤ m.data.length → XPost x cur rest T m) :
    ACall Tryz.prog 54 [(false, [.ref 3 0]), (false, [.d (.raw (.int .u32 44))])] ⟨cur, rest, MH m g T⟩ k x := by
  refine ACall.of_body Tryz.func54 rfl (by kernel_rfl) (Nat.le_of_ble_eq_true rfl) ?_
  cases hd : m.input with
  | nil =>
    rw [hd] at hk
    simp -implicitDefEqProofs (maxSteps := 10000000) (disch := omega) [MH, mObj, hd]
    refine m_push (m := { m with input := [] }) (g := g) (T := T) { hr with gi := fun i hi => absurd hi (by simp), inputR := fun v hv => by cases hv } (fun h => ?_) (fun h => ?_)
    · have hR : MRel { m with input := [] } g := { hr with gi := fun i hi => absurd hi (by simp), inputR := fun v hv => by cases hv }
      simp -implicitDefEqProofs (maxSteps := 10000000) (disch := omega)
      exact (hk h _ (hR.push ⟨by decide, by decide⟩ h)).2 6 _ (by simp)
    · simp -implicitDefEqProofs (maxSteps := 10000000) (disch := omega)
      exact hx h _ g { hr with gi := fun i hi => absurd hi (by simp), inputR := fun v hv => by cases hv } rfl rfl
  | cons u us =>
    rw [hd] at hk
    have hgi : g.gi 0 0 = du32 u := by rw [hr.gi 0 (by rw [hd]; simp), hd]; rfl
    have hR : MRel { m with input := us } { g with gi := fun i j => g.gi (1 + i) j } :=
      { hr with
        gi := fun i hi => by
          show g.gi (1 + i) 0 = _
          rw [hr.gi (1 + i) (by rw [hd]; simp at hi ⊢; omega), hd, Nat.add_comm]
          rfl
        inputR := fun v hv => hr.inputR v (by rw [hd]; simp [hv]) }
    simp -implicitDefEqProofs (maxSteps := 10000000) (disch := omega) [MH, mObj, hd, hgi, du32]
    refine m_push (m := { m with input := us }) (g := { g with gi := fun i j => g.gi (1 + i) j }) (T := T) hR (fun h => ?_) (fun h => ?_)
    · simp -implicitDefEqProofs (maxSteps := 10000000) (disch := omega)
      exact (hk h _ (hR.push (hr.inputR u (by rw [hd]; simp)) h)).2 6 _ (by simp)
    · simp -implicitDefEqProofs (maxSteps := 10000000) (disch := omega)
      exact hx h _ _ hR rfl rfl
theorem m_load (hr : MRel m g) (hk : ∀ a st, m.data = a :: st → a < 262144 → EPost k cur rest T (pushed { m with data := st } (m.mem a.toNat))) (hx : (∀ a st, m.data = a :: st → 262144 ≤ a) → XPost x cur rest T m) :
    ACall Tryz.prog 54 [(false, [.ref 3 0]), (false, [.d (.raw (.int .u32 64))])] ⟨cur, rest, MH m g T⟩ k x := by
  refine ACall.of_body Tryz.func54 rfl (by kernel_rfl) (Nat.le_of_ble_eq_true rfl) ?_
  have hL := hr.dataL
  simp -implicitDefEqProofs (maxSteps := 10000000) (disch := omega) [MH, mObj]
  refine ADraw.of_plan (Sched.one 0 (Sched.one 1 (Sched.one 2 (Sched.one 3 (Sched.one 5 (Sched.alt 4 (Sched.alt 6 (Sched.alt 7 (Sched.alt 8 (Sched.alt 9 Sched.fin Sched.stop) Sched.stop) Sched.stop) Sched.stop) (Sched.alt 6 (Sched.alt 4 (Sched.alt 7 (Sched.alt 8 (Sched.alt 9 Sched.fin Sched.stop) Sched.stop) Sched.stop) Sched.stop) Sched.stop))))))) (by kernel_rfl) (by kernel_rfl) ?_
  simp -implicitDefEqProofs (maxSteps := 10000000) (disch := omega)
  refine ⟨?_, ?_⟩
  all_goals
    refine m_address (m := m) (g := g) (T := T) hr (fun a st hd ha => ?_) (fun st hno hst => ?_)
    · have h0 := (hr.dataR a (by rw [hd]; simp)).1
      have hgm := hr.gm a.toNat (by omega)
      rw [hd] at hL
      simp at hL
      simp -implicitDefEqProofs (maxSteps := 10000000) (disch := omega) [MH, mObj, hgm, du32]
      refine m_push (m := { m with data := st }) (g := g) (T := T) (hr.drop hd) (fun h => ?_) (fun h => ?_)
      · simp -implicitDefEqProofs (maxSteps := 10000000) (disch := omega)
        exact (hk a st hd ha _ ((hr.drop hd).push (hr.memR _) h)).2 6 _ (by simp)
      · simp at h
        omega
    · simp -implicitDefEqProofs (maxSteps := 10000000) (disch := omega)
      exact hx hno _ g hst rfl rfl
theorem m_store (hr : MRel m g) (hk : ∀ a v st, m.data = a :: v :: st → a < 262144 → EPost k cur rest T { m with data := st, mem := fun i => if i = a.toNat then v else m.mem i }) (hx : (∀ a v st, m.data = a :: v :: st → 262144 ≤ a) → XPost x cur rest T m) :
    ACall Tryz.prog 54 [(false, [.ref 3 0]), (false, [.d (.raw (.int .u32 33))])] ⟨cur, rest, MH m g T⟩ k x := by
  refine ACall.of_body Tryz.func54 rfl (by kernel_rfl) (Nat.le_of_ble_eq_true rfl) ?_
  simp -implicitDefEqProofs (maxSteps := 10000000) (disch := omega)
  refine m_address hr (fun a st hd ha => ?_) (fun st hno hst => ?_)
  · have h0 := (hr.dataR a (by rw [hd]; simp)).1
    simp -implicitDefEqProofs (maxSteps := 10000000) (disch := omega) [MH, mObj]
    refine ADraw.of_plan (Sched.one 0 (Sched.one 1 (Sched.one 2 (Sched.one 4 (Sched.one 5 (Sched.alt 3 (Sched.alt 6 (Sched.alt 7 (Sched.alt 8 Sched.fin Sched.stop) Sched.stop) Sched.stop) (Sched.alt 6 (Sched.alt 3 (Sched.alt 7 (Sched.alt 8 Sched.fin Sched.stop) Sched.stop) Sched.stop) Sched.stop))))))) (by kernel_rfl) (by kernel_rfl) ?_
    simp -implicitDefEqProofs (maxSteps := 10000000) (disch := omega)
    refine ⟨?_, ?_⟩
    all_goals
      refine m_pop (m := { m with data := st }) (g := g) (T := T) (hr.drop hd) (fun v st2 hd2 => ?_) (fun hd2 => ?_)
      · simp only at hd2
        subst hd2
        have hR : MRel { m with data := st2, mem := fun i => if i = a.toNat then v else m.mem i } { g with gm := updRow g.gm a.toNat 0 [.raw (.int .u32 v)] } :=
          { ((hr.drop hd).drop (m := { m with data := v :: st2 }) rfl) with
            gm := fun i hi => by
              simp only [updRow]
              by_cases hia : i = a.toNat
              · subst hia; simp [du32]
              · simp [hia, hr.gm i hi]
            memR := fun i => by
              simp only
              split
              · exact hr.dataR v (by rw [hd]; simp)
              · exact hr.memR i }
        simp -implicitDefEqProofs (maxSteps := 10000000) (disch := omega) [MH, mObj]
        simpa [MH, mObj, At.toD] using (hk a v st2 hd ha _ hR).1
      · simp -implicitDefEqProofs (maxSteps := 10000000) (disch := omega)
        exact hx (fun a' v' st' h' => by simp only at hd2; rw [hd, hd2] at h'; cases h') _ g (hr.drop hd) rfl rfl
  · simp -implicitDefEqProofs (maxSteps := 10000000) (disch := omega)
    exact hx (fun a v st h' => hno a _ h') _ g hst rfl rfl
theorem b_add (a b : Int) : PSpec Tryz.prog 45 [dint .u32 a, dint .u32 b] [dint .u32 (IntKind.u32.wrap (a + b))] := by
  refine PSpec.of_body Tryz.func45 rfl (by kernel_rfl) (Nat.le_of_ble_eq_true rfl) ?_
  simp -implicitDefEqProofs (maxSteps := 10000000) (disch := omega) [dint]
  exact Shows.int rfl
theorem b_sub (a b : Int) : PSpec Tryz.prog 46 [dint .u32 a, dint .u32 b] [dint .u32 (IntKind.u32.wrap (a - b))] := by
  refine PSpec.of_body Tryz.func46 rfl (by kernel_rfl) (Nat.le_of_ble_eq_true rfl) ?_
  simp -implicitDefEqProofs (maxSteps := 10000000) (disch := omega) [dint]
  exact Shows.int rfl
theorem b_mul (a b : Int) : PSpec Tryz.prog 47 [dint .u32 a, dint .u32 b] [dint .u32 (IntKind.u32.wrap (a * b))] := by
  refine PSpec.of_body Tryz.func47 rfl (by kernel_rfl) (Nat.le_of_ble_eq_true rfl) ?_
  simp -implicitDefEqProofs (maxSteps := 10000000) (disch := omega) [dint]
  exact Shows.int rfl
theorem b_xor (a b : Int) : PSpec Tryz.prog 51 [dint .u32 a, dint .u32 b] [dint .u32 (bXor .u32 a b)] := by
  refine PSpec.of_body Tryz.func51 rfl (by kernel_rfl) (Nat.le_of_ble_eq_true rfl) ?_
  simp -implicitDefEqProofs (maxSteps := 10000000) (disch := omega) [dint]
  exact Shows.int rfl
theorem b_less (a b : Int) : PSpec Tryz.prog 52 [dint .u32 a, dint .u32 b] [dint .u32 (if a < b then 1 else 0)] := by
  refine PSpec.of_body Tryz.func52 rfl (by kernel_rfl) (Nat.le_of_ble_eq_true rfl) ?_
  simp -implicitDefEqProofs (maxSteps := 10000000) (disch := omega) [dint]
  refine boolK_both (fun h => ?_) (fun h => ?_) <;> simp at h <;> simp -implicitDefEqProofs (maxSteps := 10000000) (disch := omega)
  · exact Shows.int (by rw [if_pos h])
  · exact Shows.int (by rw [if_neg (by omega)])
theorem b_quo {s : St} (a b : Int) (h1 : b ≠ 0 → k (.c false [.d (.raw (.int .u32 (IntKind.u32.wrap (a.tdiv b))))]) s) (h2 : b = 0 → x trapV s) :
    ACall Tryz.prog 48 [(false, [.d (.raw (.int .u32 a))]), (false, [.d (.raw (.int .u32 b))])] s k x := by
  refine ACall.of_body Tryz.func48 rfl (by kernel_rfl) (Nat.le_of_ble_eq_true rfl) ?_
  simp -implicitDefEqProofs (maxSteps := 10000000) (disch := omega)
  refine m_check (fun h => ?_) (fun h => ?_) <;> simp at h
  · simp -implicitDefEqProofs (maxSteps := 10000000) (disch := omega) [h]
    exact h1 h
  · simp -implicitDefEqProofs (maxSteps := 10000000) (disch := omega)
    exact h2 h
theorem b_rem {s : St} (a b : Int) (h1 : b ≠ 0 → k (.c false [.d (.raw (.int .u32 (a.tmod b)))]) s) (h2 : b = 0 → x trapV s) :
    ACall Tryz.prog 50 [(false, [.d (.raw (.int .u32 a))]), (false, [.d (.raw (.int .u32 b))])] s k x := by
  refine ACall.of_body Tryz.func50 rfl (by kernel_rfl) (Nat.le_of_ble_eq_true rfl) ?_
  simp -implicitDefEqProofs (maxSteps := 10000000) (disch := omega)
  refine m_check (fun h => ?_) (fun h => ?_) <;> simp at h
  · simp -implicitDefEqProofs (maxSteps := 10000000) (disch := omega) [h]
    exact h1 h
  · simp -implicitDefEqProofs (maxSteps := 10000000) (disch := omega)
    exact h2 h
theorem m_bin_add (hr : MRel m g) (hk : ∀ b a st r, m.data = b :: a :: st → binM 43 a b = some r → EPost k cur rest T (pushed { m with data := st } r)) (hx : m.data.length < 2 → XPost x cur rest T m) :
    ACall Tryz.prog 54 [(false, [.ref 3 0]), (false, [.d (.raw (.int .u32 43))])] ⟨cur, rest, MH m g T⟩ k x := by
  refine ACall.of_body Tryz.func54 rfl (by kernel_rfl) (Nat.le_of_ble_eq_true rfl) ?_
  simp -implicitDefEqProofs (maxSteps := 10000000) (disch := omega) [MH, mObj, binMap, mget]
  refine m_check (fun _ => ?_) (fun h => by cases h)
  simp -implicitDefEqProofs (maxSteps := 10000000) (disch := omega)
  refine m_pop (m := m) (g := g) (T := T) hr (fun b st1 hd => ?_) (fun hd => ?_)
  · simp -implicitDefEqProofs (maxSteps := 10000000) (disch := omega)
    refine m_pop (m := { m with data := st1 }) (g := g) (T := T) (hr.drop hd) (fun a st hd2 => ?_) (fun hd2 => ?_)
    · simp only at hd2
      subst hd2
      have hR := (hr.drop hd).drop (m := { m with data := a :: st }) rfl
      have hL := hr.dataL
      rw [hd] at hL
      simp at hL
      have ha := hr.dataR a (by rw [hd]; simp)
      have hb := hr.dataR b (by rw [hd]; simp)
      simp -implicitDefEqProofs (maxSteps := 10000000) (disch := omega)
      refine (b_add a b).use rfl ?_
      simp -implicitDefEqProofs (maxSteps := 10000000) (disch := omega) [dint]
      refine m_push (m := { m with data := st }) (g := g) (T := T) hR (fun h => ?_) (fun h => ?_)
      · simp -implicitDefEqProofs (maxSteps := 10000000) (disch := omega)
        exact (hk b a st _ hd rfl _ (hR.push (wrap32_range _) h)).2 6 _ (by simp)
      · simp at h
        omega
    · simp -implicitDefEqProofs (maxSteps := 10000000) (disch := omega)
      exact hx (by simp only at hd2; rw [hd, hd2]; simp) _ g (hr.drop hd) rfl rfl
  · simp -implicitDefEqProofs (maxSteps := 10000000) (disch := omega)
    exact hx (by rw [hd]; simp) m g hr rfl rfl
theorem m_bin_sub (hr : MRel m g) (hk : ∀ b a st r, m.data = b :: a :: st → binM 45 a b = some r → EPost k cur rest T (pushed { m with data := st } r)) (hx : m.data.length < 2 → XPost x cur rest T m) :
    ACall Tryz.prog 54 [(false, [.ref 3 0]), (false, [.d (.raw (.int .u32 45))])] ⟨cur, rest, MH m g T⟩ k x := by
  refine ACall.of_body Tryz.func54 rfl (by kernel_rfl) (Nat.le_of_ble_eq_true rfl) ?_
  simp -implicitDefEqProofs (maxSteps := 10000000) (disch := omega) [MH, mObj, binMap, mget]
  refine m_check (fun _ => ?_) (fun h => by cases h)
  simp -implicitDefEqProofs (maxSteps := 10000000) (disch := omega)
  refine m_pop (m := m) (g := g) (T := T) hr (fun b st1 hd => ?_) (fun hd => ?_)
  · simp -implicitDefEqProofs (maxSteps := 10000000) (disch := omega)
    refine m_pop (m := { m with data := st1 }) (g := g) (T := T) (hr.drop hd) (fun a st hd2 => ?_) (fun hd2 => ?_)
    · simp only at hd2
      subst hd2
      have hR := (hr.drop hd).drop (m := { m with data := a :: st }) rfl
      have hL := hr.dataL
      rw [hd] at hL
      simp at hL
      have ha := hr.dataR a (by rw [hd]; simp)
      have hb := hr.dataR b (by rw [hd]; simp)
      simp -implicitDefEqProofs (maxSteps := 10000000) (disch := omega)
      refine (b_sub a b).use rfl ?_
      simp -implicitDefEqProofs (maxSteps := 10000000) (disch := omega) [dint]
      refine m_push (m := { m with data := st }) (g := g) (T := T) hR (fun h => ?_) (fun h => ?_)
      · simp -implicitDefEqProofs (maxSteps := 10000000) (disch := omega)
        exact (hk b a st _ hd rfl _ (hR.push (wrap32_range _) h)).2 6 _ (by simp)
      · simp at h
        omega
    · simp -implicitDefEqProofs (maxSteps := 10000000) (disch := omega)
      exact hx (by simp only at hd2; rw [hd, hd2]; simp) _ g (hr.drop hd) rfl rfl
  · simp -implicitDefEqProofs (maxSteps := 10000000) (disch := omega)
    exact hx (by rw [hd]; simp) m g hr rfl rfl
theorem m_bin_mul (hr : MRel m g) (hk : ∀ b a st r, m.data = b :: a :: st → binM 42 a b = some r → EPost k cur rest T (pushed { m with data := st } r)) (hx : m.data.length < 2 → XPost x cur rest T m) :
    ACall Tryz.prog 54 [(false, [.ref 3 0]), (false, [.d (.raw (.int .u32 42))])] ⟨cur, rest, MH m g T⟩ k x := by
  refine ACall.of_body Tryz.func54 rfl (by kernel_rfl) (Nat.le_of_ble_eq_true rfl) ?_
  simp -implicitDefEqProofs (maxSteps := 10000000) (disch := omega) [MH, mObj, binMap, mget]
  refine m_check (fun _ => ?_) (fun h => by cases h)
  simp -implicitDefEqProofs (maxSteps := 10000000) (disch := omega)
  refine m_pop (m := m) (g := g) (T := T) hr (fun b st1 hd => ?_) (fun hd => ?_)
  · simp -implicitDefEqProofs (maxSteps := 10000000) (disch := omega)
    refine m_pop (m := { m with data := st1 }) (g := g) (T := T) (hr.drop hd) (fun a st hd2 => ?_) (fun hd2 => ?_)
    · simp only at hd2
      subst hd2
      have hR := (hr.drop hd).drop (m := { m with data := a :: st }) rfl
      have hL := hr.dataL
      rw [hd] at hL
      simp at hL
      have ha := hr.dataR a (by rw [hd]; simp)
      have hb := hr.dataR b (by rw [hd]; simp)
      simp -implicitDefEqProofs (maxSteps := 10000000) (disch := omega)
      refine (b_mul a b).use rfl ?_
      simp -implicitDefEqProofs (maxSteps := 10000000) (disch := omega) [dint]
      refine m_push (m := { m with data := st }) (g := g) (T := T) hR (fun h => ?_) (fun h => ?_)
      · simp -implicitDefEqProofs (maxSteps := 10000000) (disch := omega)
        exact (hk b a st _ hd rfl _ (hR.push (wrap32_range _) h)).2 6 _ (by simp)
      · simp at h
        omega
    · simp -implicitDefEqProofs (maxSteps := 10000000) (disch := omega)
      exact hx (by simp only at hd2; rw [hd, hd2]; simp) _ g (hr.drop hd) rfl rfl
  · simp -implicitDefEqProofs (maxSteps := 10000000) (disch := omega)
    exact hx (by rw [hd]; simp) m g hr rfl rfl
theorem m_bin_quo (hr : MRel m g) (hk : ∀ b a st r, m.data = b :: a :: st → binM 47 a b = some r → EPost k cur rest T (pushed { m with data := st } r)) (hx : (∀ b a st, m.data = b :: a :: st → b = 0) → XPost x cur rest T m) :
    ACall Tryz.prog 54 [(false, [.ref 3 0]), (false, [.d (.raw (.int .u32 47))])] ⟨cur, rest, MH m g T⟩ k x := by
  refine ACall.of_body Tryz.func54 rfl (by kernel_rfl) (Nat.le_of_ble_eq_true rfl) ?_
  simp -implicitDefEqProofs (maxSteps := 10000000) (disch := omega) [MH, mObj, binMap, mget]
  refine m_check (fun _ => ?_) (fun h => by cases h)
  simp -implicitDefEqProofs (maxSteps := 10000000) (disch := omega)
  refine m_pop (m := m) (g := g) (T := T) hr (fun b st1 hd => ?_) (fun hd => ?_)
  · simp -implicitDefEqProofs (maxSteps := 10000000) (disch := omega)
    refine m_pop (m := { m with data := st1 }) (g := g) (T := T) (hr.drop hd) (fun a st hd2 => ?_) (fun hd2 => ?_)
    · simp only at hd2
      subst hd2
      have hR := (hr.drop hd).drop (m := { m with data := a :: st }) rfl
      have hL := hr.dataL
      rw [hd] at hL
      simp at hL
      have ha := hr.dataR a (by rw [hd]; simp)
      have hb := hr.dataR b (by rw [hd]; simp)
      simp -implicitDefEqProofs (maxSteps := 10000000) (disch := omega)
      refine b_quo a b (fun h0 => ?_) (fun h0 => ?_)
      · simp -implicitDefEqProofs (maxSteps := 10000000) (disch := omega)
        refine m_push (m := { m with data := st }) (g := g) (T := T) hR (fun h => ?_) (fun h => ?_)
        · simp -implicitDefEqProofs (maxSteps := 10000000) (disch := omega)
          exact (hk b a st _ hd (by simp [binM, h0]) _ (hR.push (wrap32_range _) h)).2 6 _ (by simp)
        · simp at h
          omega
      · simp -implicitDefEqProofs (maxSteps := 10000000) (disch := omega)
        exact hx (fun b' a' st' h' => by rw [hd] at h'; cases h'; exact h0) _ g hR rfl rfl
    · simp -implicitDefEqProofs (maxSteps := 10000000) (disch := omega)
      exact hx (fun b' a' st' h' => by simp only at hd2; rw [hd, hd2] at h'; cases h') _ g (hr.drop hd) rfl rfl
  · simp -implicitDefEqProofs (maxSteps := 10000000) (disch := omega)
    exact hx (fun b' a' st' h' => by rw [hd] at h'; cases h') m g hr rfl rfl
theorem m_bin_rem (hr : MRel m g) (hk : ∀ b a st r, m.data = b :: a :: st → binM 37 a b = some r → EPost k cur rest T (pushed { m with data := st } r)) (hx : (∀ b a st, m.data = b :: a :: st → b = 0) → XPost x cur rest T m) :
    ACall Tryz.prog 54 [(false, [.ref 3 0]), (false, [.d (.raw (.int .u32 37))])] ⟨cur, rest, MH m g T⟩ k x := by
  refine ACall.of_body Tryz.func54 rfl (by kernel_rfl) (Nat.le_of_ble_eq_true rfl) ?_
  simp -implicitDefEqProofs (maxSteps := 10000000) (disch := omega) [MH, mObj, binMap, mget]
  refine m_check (fun _ => ?_) (fun h => by cases h)
  simp -implicitDefEqProofs (maxSteps := 10000000) (disch := omega)
  refine m_pop (m := m) (g := g) (T := T) hr (fun b st1 hd => ?_) (fun hd => ?_)
  · simp -implicitDefEqProofs (maxSteps := 10000000) (disch := omega)
    refine m_pop (m := { m with data := st1 }) (g := g) (T := T) (hr.drop hd) (fun a st hd2 => ?_) (fun hd2 => ?_)
    · simp only at hd2
      subst hd2
      have hR := (hr.drop hd).drop (m := { m with data := a :: st }) rfl
      have hL := hr.dataL
      rw [hd] at hL
      simp at hL
      have ha := hr.dataR a (by rw [hd]; simp)
      have hb := hr.dataR b (by rw [hd]; simp)
      simp -implicitDefEqProofs (maxSteps := 10000000) (disch := omega)
      refine b_rem a b (fun h0 => ?_) (fun h0 => ?_)
      · simp -implicitDefEqProofs (maxSteps := 10000000) (disch := omega)
        refine m_push (m := { m with data := st }) (g := g) (T := T) hR (fun h => ?_) (fun h => ?_)
        · simp -implicitDefEqProofs (maxSteps := 10000000) (disch := omega)
          exact (hk b a st _ hd (by simp [binM, h0]) _ (hR.push (by rw [Int.tmod_eq_emod_of_nonneg ha.1]; have h1 := Int.emod_nonneg a h0; have h2 := Int.emod_lt_of_pos a (show 0 < b by have := hb.1; omega); have := hb.2; exact ⟨h1, by omega⟩) h)).2 6 _ (by simp)
        · simp at h
          omega
      · simp -implicitDefEqProofs (maxSteps := 10000000) (disch := omega)
        exact hx (fun b' a' st' h' => by rw [hd] at h'; cases h'; exact h0) _ g hR rfl rfl
    · simp -implicitDefEqProofs (maxSteps := 10000000) (disch := omega)
      exact hx (fun b' a' st' h' => by simp only at hd2; rw [hd, hd2] at h'; cases h') _ g (hr.drop hd) rfl rfl
  · simp -implicitDefEqProofs (maxSteps := 10000000) (disch := omega)
    exact hx (fun b' a' st' h' => by rw [hd] at h'; cases h') m g hr rfl rfl
theorem m_bin_xor (hr : MRel m g) (hk : ∀ b a st r, m.data = b :: a :: st → binM 94 a b = some r → EPost k cur rest T (pushed { m with data := st } r)) (hx : m.data.length < 2 → XPost x cur rest T m) :
    ACall Tryz.prog 54 [(false, [.ref 3 0]), (false, [.d (.raw (.int .u32 94))])] ⟨cur, rest, MH m g T⟩ k x := by
  refine ACall.of_body Tryz.func54 rfl (by kernel_rfl) (Nat.le_of_ble_eq_true rfl) ?_
  simp -implicitDefEqProofs (maxSteps := 10000000) (disch := omega) [MH, mObj, binMap, mget]
  refine m_check (fun _ => ?_) (fun h => by cases h)
  simp -implicitDefEqProofs (maxSteps := 10000000) (disch := omega)
  refine m_pop (m := m) (g := g) (T := T) hr (fun b st1 hd => ?_) (fun hd => ?_)
  · simp -implicitDefEqProofs (maxSteps := 10000000) (disch := omega)
    refine m_pop (m := { m with data := st1 }) (g := g) (T := T) (hr.drop hd) (fun a st hd2 => ?_) (fun hd2 => ?_)
    · simp only at hd2
      subst hd2
      have hR := (hr.drop hd).drop (m := { m with data := a :: st }) rfl
      have hL := hr.dataL
      rw [hd] at hL
      simp at hL
      have ha := hr.dataR a (by rw [hd]; simp)
      have hb := hr.dataR b (by rw [hd]; simp)
      simp -implicitDefEqProofs (maxSteps := 10000000) (disch := omega)
      refine (b_xor a b).use rfl ?_
      simp -implicitDefEqProofs (maxSteps := 10000000) (disch := omega) [dint]
      refine m_push (m := { m with data := st }) (g := g) (T := T) hR (fun h => ?_) (fun h => ?_)
      · simp -implicitDefEqProofs (maxSteps := 10000000) (disch := omega)
        exact (hk b a st _ hd rfl _ (hR.push (wrap32_range _) h)).2 6 _ (by simp)
      · simp at h
        omega
    · simp -implicitDefEqProofs (maxSteps := 10000000) (disch := omega)
      exact hx (by simp only at hd2; rw [hd, hd2]; simp) _ g (hr.drop hd) rfl rfl
  · simp -implicitDefEqProofs (maxSteps := 10000000) (disch := omega)
    exact hx (by rw [hd]; simp) m g hr rfl rfl
theorem m_bin_less (hr : MRel m g) (hk : ∀ b a st r, m.data = b :: a :: st → binM 60 a b = some r → EPost k cur rest T (pushed { m with data := st } r)) (hx : m.data.length < 2 → XPost x cur rest T m) :
    ACall Tryz.prog 54 [(false, [.ref 3 0]), (false, [.d (.raw (.int .u32 60))])] ⟨cur, rest, MH m g T⟩ k x := by
  refine ACall.of_body Tryz.func54 rfl (by kernel_rfl) (Nat.le_of_ble_eq_true rfl) ?_
  simp -implicitDefEqProofs (maxSteps := 10000000) (disch := omega) [MH, mObj, binMap, mget]
  refine m_check (fun _ => ?_) (fun h => by cases h)
  simp -implicitDefEqProofs (maxSteps := 10000000) (disch := omega)
  refine m_pop (m := m) (g := g) (T := T) hr (fun b st1 hd => ?_) (fun hd => ?_)
  · simp -implicitDefEqProofs (maxSteps := 10000000) (disch := omega)
    refine m_pop (m := { m with data := st1 }) (g := g) (T := T) (hr.drop hd) (fun a st hd2 => ?_) (fun hd2 => ?_)
    · simp only at hd2
      subst hd2
      have hR := (hr.drop hd).drop (m := { m with data := a :: st }) rfl
      have hL := hr.dataL
      rw [hd] at hL
      simp at hL
      have ha := hr.dataR a (by rw [hd]; simp)
      have hb := hr.dataR b (by rw [hd]; simp)
      simp -implicitDefEqProofs (maxSteps := 10000000) (disch := omega)
      refine (b_less a b).use rfl ?_
      simp -implicitDefEqProofs (maxSteps := 10000000) (disch := omega) [dint]
      refine m_push (m := { m with data := st }) (g := g) (T := T) hR (fun h => ?_) (fun h => ?_)
      · simp -implicitDefEqProofs (maxSteps := 10000000) (disch := omega)
        exact (hk b a st _ hd rfl _ (hR.push (by split <;> exact ⟨by decide, by decide⟩) h)).2 6 _ (by simp)
      · simp at h
        omega
    · simp -implicitDefEqProofs (maxSteps := 10000000) (disch := omega)
      exact hx (by simp only at hd2; rw [hd, hd2]; simp) _ g (hr.drop hd) rfl rfl
  · simp -implicitDefEqProofs (maxSteps := 10000000) (disch := omega)
    exact hx (by rw [hd]; simp) m g hr rfl rfl
set_option maxHeartbeats 6400000 in
theorem m_bad (c : Int) (hc : ¬ (48 ≤ c ∧ c ≤ 57)) (hc2 : ∀ q ∈ [(32 : Int), 10, 64, 33, 63, 58, 59, 44, 46, 36, 43, 45, 42, 47, 37, 94, 60], c ≠ q) (hr : MRel m g) (hx : XPost x cur rest T m) :
    ACall Tryz.prog 54 [(false, [.ref 3 0]), (false, [.d (.raw (.int .u32 c))])] ⟨cur, rest, MH m g T⟩ k x := by
  refine ACall.of_body Tryz.func54 rfl (by kernel_rfl) (Nat.le_of_ble_eq_true rfl) ?_
  have n48 : c ≠ 48 := by omega
  have n49 : c ≠ 49 := by omega
  have n50 : c ≠ 50 := by omega
  have n51 : c ≠ 51 := by omega
  have n52 : c ≠ 52 := by omega
  have n53 : c ≠ 53 := by omega
  have n54 : c ≠ 54 := by omega
  have n55 : c ≠ 55 := by omega
  have n56 : c ≠ 56 := by omega
  have n57 : c ≠ 57 := by omega
  simp only [List.mem_cons, List.not_mem_nil, or_false, forall_eq_or_imp, forall_eq] at hc2
  obtain ⟨a1, a2, a3, a4, a5, a6, a7, a8, a9, a10, a11, a12, a13, a14, a15, a16, a17⟩ := hc2
  simp -implicitDefEqProofs (maxSteps := 10000000) (disch := omega) [n48, n49, n50, n51, n52, n53, n54, n55, n56, n57, a1, a2, a3, a4, a5, a6, a7, a8, a9, a10, Ne.symm a11, Ne.symm a12, Ne.symm a13, Ne.symm a14, Ne.symm a15, Ne.symm a16, Ne.symm a17, MH, mObj, binMap, mget]
  refine m_check (fun h => by cases h) (fun _ => ?_)
  simp -implicitDefEqProofs (maxSteps := 10000000) (disch := omega)
  exact hx m g hr rfl rfl
set_option maxHeartbeats 6400000 in
/-- A digit. -/
theorem m_digit (c : Int) (hc : 48 ≤ c ∧ c ≤ 57) (hr : MRel m g) (h1 : m.digit = true → ∀ v st, m.data = v :: st → EPost k cur rest T { m with data := digitV v c :: st }) (h0 : m.digit = true → m.data ≠ [])
    (h2 : m.digit = false → m.data.length < 256 → EPost k cur rest T (pushed m (IntKind.u32.wrap (c - 48)))) (hx : m.digit = false → 256 ≤ m.data.length → XPost x cur rest T m) :
    ACall Tryz.prog 54 [(false, [.ref 3 0]), (false, [.d (.raw (.int .u32 c))])] ⟨cur, rest, MH m g T⟩ k x := by
  have hc2 : c = 48 ∨ c = 49 ∨ c = 50 ∨ c = 51 ∨ c = 52 ∨ c = 53 ∨ c = 54 ∨ c = 55 ∨ c = 56 ∨ c = 57 := by omega
  refine ACall.of_body Tryz.func54 rfl (by kernel_rfl) (Nat.le_of_ble_eq_true rfl) ?_
  have hl := hr.ld
  have hL := hr.dataL
  cases hdg : m.digit with
  | true =>
    obtain ⟨v, st, hd⟩ : ∃ v st, m.data = v :: st := by
      cases hd : m.data with
      | nil => exact absurd hd (h0 hdg)
      | cons v st => exact ⟨v, st, rfl⟩
    have hst := hr.gd
    rw [hd] at hst hl hL
    have htop := hst.top
    simp at hl hL
    have hR : MRel { m with data := digitV v c :: st } { g with gd := updRow g.gd st.length 0 [.raw (.int .u32 (digitV v c))] } :=
      { hr with
        gd := fun i hi => by
          simp only [updRow]
          by_cases hie : i = st.length
          · subst hie; simp [du32]
          · have hi2 : i < st.length := by simp at hi; omega
            rw [if_neg hie, hst i (by simp; omega)]
            simp [List.getElem?_append_left, hi2]
        ld := by simp; omega
        dataR := fun u hu => by
          rcases List.mem_cons.1 hu with rfl | hu
          · exact wrap32_range _
          · exact hr.dataR u (by rw [hd]; simp [hu])
        dataL := by simp; omega }
    have hk := h1 hdg v st hd
    rcases hc2 with rfl | rfl | rfl | rfl | rfl | rfl | rfl | rfl | rfl | rfl
    all_goals
      simp -implicitDefEqProofs (maxSteps := 10000000) (disch := omega) [MH, mObj, hd, hdg]
      refine ADraw.of_plan (Sched.one 0 (Sched.one 1 (Sched.one 2 (Sched.one 4 (Sched.one 5 (Sched.one 6 (Sched.one 7 (Sched.one 9 (Sched.one 13 (Sched.alt 3 (Sched.alt 8 (Sched.alt 10 (Sched.alt 11 (Sched.one 12 (Sched.one 14 (Sched.one 15 (Sched.alt 16 (Sched.alt 17 Sched.fin Sched.stop) Sched.stop)))) Sched.stop) Sched.stop) Sched.stop) (Sched.alt 8 (Sched.alt 3 (Sched.alt 10 (Sched.alt 11 (Sched.one 12 (Sched.one 14 (Sched.one 15 (Sched.alt 16 (Sched.alt 17 Sched.fin Sched.stop) Sched.stop)))) Sched.stop) Sched.stop) (Sched.alt 10 (Sched.alt 3 (Sched.alt 11 (Sched.one 12 (Sched.one 14 (Sched.one 15 (Sched.alt 16 (Sched.alt 17 Sched.fin Sched.stop) Sched.stop)))) Sched.stop) (Sched.alt 11 (Sched.one 12 (Sched.one 14 (Sched.one 15 (Sched.alt 3 (Sched.alt 16 (Sched.alt 17 Sched.fin Sched.stop) Sched.stop) Sched.stop)))) Sched.stop)) Sched.stop)) Sched.stop))))))))))) (by kernel_rfl) (by kernel_rfl) ?_
      simp -implicitDefEqProofs (maxSteps := 10000000) (disch := omega) [htop, du32]
      simpa [MH, mObj, hdg, digitV] using (hk _ hR).1
  | false =>
    rcases hc2 with rfl | rfl | rfl | rfl | rfl | rfl | rfl | rfl | rfl | rfl
    all_goals
      simp -implicitDefEqProofs (maxSteps := 10000000) (disch := omega) [MH, mObj, hdg]
      refine m_push (m := { m with digit := false }) (g := g) (T := T) (by rw [← hdg]; exact hr) (fun h => ?_) (fun h => ?_)
      · simp -implicitDefEqProofs (maxSteps := 10000000) (disch := omega)
        have hk := (h2 hdg h _ (hr.push (wrap32_range _) h)).2 6
        simp [MH, mObj, pushed, pushedG, hdg] at hk ⊢
        exact hk _
      · simp -implicitDefEqProofs (maxSteps := 10000000) (disch := omega)
        have := hx hdg h m g hr rfl rfl
        simpa [MH, mObj, hdg] using this
end
end Go.Proofs.YtddngfpgeifffaaGreatDoor
