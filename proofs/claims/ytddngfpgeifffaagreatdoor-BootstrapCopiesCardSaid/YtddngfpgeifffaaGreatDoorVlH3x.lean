/- A part of the proof: H3, H4, H5. -/
import Derived.Test.YtddngfpgeifffaaGreatDoorVlH2
import Derived.Test.YtddngfpgeifffaaGreatDoorVlSimp5
import Derived.Test.YtddngfpgeifffaaGreatDoorVlDefer
set_option linter.unusedVariables false
set_option linter.unusedSimpArgs false
section
set_option maxRecDepth 20000
namespace Go.Proofs.YtddngfpgeifffaaGreatDoor
open Go Go.Proofs Go.Proofs.Vl
section
variable {cur : Fr} {rest : List Fr} {m : MSt} {g : MG} {T : List Ob} {k x : V → St → Prop}

/-- A sign. -/
theorem m_exec (c : Int) (hr : MRel m g) (hdig : m.digit = true → m.data ≠ []) (ho : m.output.length ≤ 1000000000) (hk : ∀ m', execM m c = some m' → EPost k cur rest T m') (hx : execM m c = none → XPost x cur rest T m) :
    ACall Tryz.prog 54 [(false, [.ref 3 0]), (false, [.d (.raw (.int .u32 c))])] ⟨cur, rest, MH m g T⟩ k x := by
  have hL := hr.dataL
  by_cases c1 : 48 ≤ c ∧ c ≤ 57
  · refine m_digit c c1 hr (fun hd v st h => hk _ (by simp [execM, c1, hd, h])) hdig (fun hd h => hk _ (by simp [execM, c1, hd, withTop, h])) (fun hd h => hx (by simp [execM, c1, hd, withTop]; omega))
  by_cases c2 : c = 32 ∨ c = 10
  · exact m_space c c2 hr (hk _ (by simp [execM, c1, c2]))
  have e2 : ¬ c = 32 ∧ ¬ c = 10 := by omega
  by_cases c3 : c = 64
  · subst c3
    refine m_load hr (fun a st h ha => hk _ ?_) (fun h => hx ?_)
    · rw [h] at hL
      simp at hL
      simp [execM, h, ha, withTop]; omega
    · cases hd : m.data with
      | nil => simp [execM, hd]
      | cons a st => have := h a st hd; simp [execM, hd]; omega
  by_cases c4 : c = 33
  · subst c4
    refine m_store hr (fun a v st h ha => hk _ (by simp [execM, h, ha])) (fun h => hx ?_)
    cases hd : m.data with
    | nil => simp [execM, hd]
    | cons a st => cases st with
      | nil => simp [execM, hd]
      | cons v st => have := h a v st hd; simp [execM, hd]; omega
  by_cases c5 : c = 63
  · subst c5
    refine m_jump hr (fun t v st h => hk _ (by simp [execM, h])) (fun h => hx ?_)
    cases hd : m.data with
    | nil => simp [execM, hd]
    | cons a st => cases st with
      | nil => simp [execM, hd]
      | cons v st => rw [hd] at h; simp only [List.length_cons] at h; omega
  by_cases c6 : c = 58
  · subst c6
    refine m_call hr (fun t st h hc => hk _ (by simp [execM, h, hc])) (fun h => hx ?_)
    cases hd : m.data with
    | nil => simp [execM, hd]
    | cons a st => have := h a st hd; simp [execM, hd]; omega
  by_cases c7 : c = 59
  · subst c7
    exact m_ret hr (fun p cs h => hk _ (by simp [execM, h])) (fun h => hx (by simp [execM, h]))
  by_cases c8 : c = 44
  · subst c8
    exact m_in hr (fun h => hk _ (by simp [execM, withTop, h])) (fun h => hx (by simp [execM, withTop]; omega))
  by_cases c9 : c = 46
  · subst c9
    exact m_out hr (fun v st h => hk _ (by simp [execM, h])) ho (fun h => hx (by simp [execM, h]))
  by_cases c10 : c = 36
  · subst c10
    exact m_stop hr (hk _ (by simp [execM]))
  have two : ∀ h : m.data.length < 2, (∀ (b a : Int) (st : List Int), m.data ≠ b :: a :: st) := fun h b a st e => by rw [e] at h; simp only [List.length_cons] at h; omega
  have def' : execM m c = otherM m c := by simp [execM, c1, e2.1, e2.2, c3, c4, c5, c6, c7, c8, c9, c10]
  have some' : ∀ b a st r, m.data = b :: a :: st → binM c a b = some r → execM m c = some (pushed { m with data := st } r) := fun b a st r h hb => by
    rw [def']
    simp only [otherM, h, hb, withTop]
    rw [h] at hL
    simp only [List.length_cons] at hL
    rw [if_pos (by show st.length < 256; omega)]
  have none2 : m.data.length < 2 → execM m c = none := fun h => by
    rw [def', otherM]
    cases hd : m.data with
    | nil => rfl
    | cons b st => cases st with
      | nil => rfl
      | cons a st => rw [hd] at h; simp only [List.length_cons] at h; omega
  have none0 : (∀ b a st, m.data = b :: a :: st → binM c a b = none) → execM m c = none := fun h => by
    rw [def', otherM]
    cases hd : m.data with
    | nil => rfl
    | cons b st => cases st with
      | nil => rfl
      | cons a st => simp only [h b a st hd]
  by_cases d1 : c = 43
  · subst d1; exact m_bin_add hr (fun b a st r h hb => hk _ (some' b a st r h hb)) (fun h => hx (none2 h))
  by_cases d2 : c = 45
  · subst d2; exact m_bin_sub hr (fun b a st r h hb => hk _ (some' b a st r h hb)) (fun h => hx (none2 h))
  by_cases d3 : c = 42
  · subst d3; exact m_bin_mul hr (fun b a st r h hb => hk _ (some' b a st r h hb)) (fun h => hx (none2 h))
  by_cases d4 : c = 47
  · subst d4; exact m_bin_quo hr (fun b a st r h hb => hk _ (some' b a st r h hb)) (fun h => hx (none0 fun b a st h' => by rw [h b a st h']; rfl))
  by_cases d5 : c = 37
  · subst d5; exact m_bin_rem hr (fun b a st r h hb => hk _ (some' b a st r h hb)) (fun h => hx (none0 fun b a st h' => by rw [h b a st h']; rfl))
  by_cases d6 : c = 94
  · subst d6; exact m_bin_xor hr (fun b a st r h hb => hk _ (some' b a st r h hb)) (fun h => hx (none2 h))
  by_cases d7 : c = 60
  · subst d7; exact m_bin_less hr (fun b a st r h hb => hk _ (some' b a st r h hb)) (fun h => hx (none2 h))
  refine m_bad c c1 ?_ hr (hx (none0 fun b a st _ => by simp [binM, d1, d2, d3, d4, d5, d6, d7]))
  simp [e2.1, e2.2, c3, c4, c5, c6, c7, c8, c9, c10, d1, d2, d3, d4, d5, d6, d7]
end
end Go.Proofs.YtddngfpgeifffaaGreatDoor
end
section
set_option maxRecDepth 20000
namespace Go.Proofs.YtddngfpgeifffaaGreatDoor
open Go Go.Proofs Go.Proofs.Vl

/-- What a run answers. -/
structure Out where
  out : List UInt8
  err : Int
  steps : Int
/-- The sign that is executed, and the machine with its step counted. -/
def signM (m : MSt) : Int := m.mem m.pc.toNat
def nextM (m : MSt) : MSt := { m with steps := m.steps + 1, pc := IntKind.u32.wrap (m.pc + 1) }
def digitOf (m : MSt) (c : Int) : MSt := { m with digit := decide (48 ≤ c ∧ c ≤ 57) }
def runM : Nat → MSt → Out
  | 0, m => ⟨m.output, 13, m.steps⟩
  | n + 1, m =>
    if m.pc < 262144 then match execM (nextM m) (signM m) with
      | none => ⟨m.output, 12, m.steps + 1⟩
      | some m' => if m'.stopped = true then ⟨m'.output, 0, m'.steps⟩ else runM n (digitOf m' (signM m))
    else ⟨m.output, 12, m.steps + 1⟩

theorem withTop_some {m m' : MSt} {v : Int} (h : withTop m v = some m') : m' = pushed m v := by
  unfold withTop at h
  split at h
  · cases h; rfl
  · cases h
theorem execM_keeps {m m' : MSt} {c : Int} (h : execM m c = some m') : m'.steps = m.steps ∧ m'.output.length ≤ m.output.length + 1 ∧ (48 ≤ c ∧ c ≤ 57 → m'.data ≠ []) := by
  unfold execM at h
  split at h
  · split at h
    · split at h
      · cases h; exact ⟨rfl, Nat.le_succ _, fun _ => by simp⟩
      · cases h
    · cases withTop_some h; exact ⟨rfl, Nat.le_succ _, fun _ => by simp [pushed]⟩
  · rename_i hc
    have hn : ∀ {Q : Prop}, 48 ≤ c ∧ c ≤ 57 → Q := fun h => absurd h hc
    repeat' split at h
    all_goals first
      | (cases h; exact ⟨rfl, by simp, hn⟩)
      | (cases withTop_some h; exact ⟨rfl, by simp [pushed], hn⟩)
      | (cases h)
      | skip
    unfold otherM at h
    split at h
    · split at h
      · cases withTop_some h; exact ⟨rfl, by simp [pushed], hn⟩
      · cases h
    · cases h
end Go.Proofs.YtddngfpgeifffaaGreatDoor
end
section
set_option maxRecDepth 20000
namespace Go.Proofs.YtddngfpgeifffaaGreatDoor
open Go Go.Proofs Go.Proofs.Vl
theorem EPost.of {k : V → St → Prop} {cur : Fr} {rest : List Fr} {T : List Ob} {m' : MSt} (hc : ∀ r, (r = 6 ∨ r = 7 ∨ r = 8) → cur.scrub r = cur ∧ rest.map (Fr.scrub r) = rest ∧ T.map (Ob.scrub r) = T)
    (h : ∀ g' tail, MRel m' g' → k (.tup []) ⟨cur, rest, MH m' g' (T ++ tail)⟩) : EPost k cur rest T m' := by
  intro g' hr
  refine ⟨by simpa using h g' [] hr, fun r ob hr' => ?_⟩
  obtain ⟨h1, h2, h3⟩ := hc r hr'
  rw [h1, h2, h3]
  exact h g' [ob] hr
theorem set_snoc {α : Type} (l : List α) (a b : α) : (l ++ [a]).set l.length b = l ++ [b] := by simp
theorem digit_guard {c : Int} : (decide (48 ≤ c) && decide (c ≤ 57)) = decide (48 ≤ c ∧ c ≤ 57) := by simp
set_option maxHeartbeats 6400000 in
theorem m_run {cur : Fr} {rest : List Fr} {m : MSt} {g : MG} {n : Nat} {k x : V → St → Prop} (hr : MRel m g) (hc : ∀ r, (r = 6 ∨ r = 7 ∨ r = 8) → cur.scrub r = cur ∧ rest.map (Fr.scrub r) = rest) (hcl : cur.clip 11 = cur ∧ rest.map (Fr.clip 11) = rest)
    (hn : n ≤ 100000000) (h0 : m.stopped = false ∧ m.digit = false ∧ m.output = [] ∧ m.steps = 0)
    (h : ∀ m' g' T' e, MRel m' g' → m'.output.length ≤ n → runM n m = ⟨m'.output, e, m'.steps⟩ → k (.c false [.d (.raw (.int .i64 e))]) ⟨cur, rest, MH m' g' T'⟩) :
    ACall Tryz.prog 31 [(false, [.ref 3 0]), (false, [.d (.raw (.int .i64 n))])] ⟨cur, rest, MH m g []⟩ k x := by
  refine ACall.of_recover Tryz.func31 rfl Tryz.func53 rfl rfl (by simp) (by kernel_rfl) (Nat.le_of_ble_eq_true rfl) ?_
  simp -implicitDefEqProofs (maxSteps := 10000000) (disch := omega) [MH]
  refine ALoop.inv [0, 1, 4] 11 (T := Nat × MSt × MG) (fun t => ⟨⟨59, [(0, .a (.ref 3 0)), (1, .raw (.int .i64 n)), (4, .a (.ref 9 0))]⟩, ⟨14, [(0, .a (.ref 9 0))]⟩ :: cur :: rest, MH t.2.1 t.2.2 [.cells 31 [.d (.raw (.int .i64 0))], .clo (.func 53) [] [(false, [.ref 9 0])]]⟩)
    (fun t => t.1) (fun t => MRel t.2.1 t.2.2 ∧ t.2.1.stopped = false ∧ (t.2.1.digit = true → t.2.1.data ≠ []) ∧ (t.2.1.output.length : Int) ≤ t.2.1.steps ∧ t.2.1.steps + t.1 = n ∧ runM t.1 t.2.1 = runM n m) (n, m, g) ?_ ?_ (fun _ => rfl) (by kernel_rfl) ?_
  · simp -implicitDefEqProofs (maxSteps := 10000000) (disch := omega) [MH, mObj, hcl.1, hcl.2]
  · obtain ⟨h1, h2, h3, h4⟩ := h0
    exact ⟨hr, h1, fun e => by rw [h2] at e; (cases e), by rw [h3, h4]; simp, by rw [h4]; simp, rfl⟩
  · rintro ⟨f, m1, g1⟩ ⟨hr1, hst, hdg, hol, hsum, hres⟩
    simp only at hr1 hst hdg hol hsum hres
    simp -implicitDefEqProofs (maxSteps := 10000000) (disch := omega) [MH, mObj]
    refine boolK_both (fun hlt => ?_) (fun hlt => ?_) <;> simp at hlt
    · obtain ⟨f, rfl⟩ : ∃ f', f = f' + 1 := ⟨f - 1, by omega⟩
      simp -implicitDefEqProofs (maxSteps := 10000000) (disch := omega)
      refine m_check (fun h2 => ?_) (fun h2 => ?_) <;> simp at h2
      · obtain ⟨hp0, hp1⟩ := hr1.pcR
        have hgm := hr1.gm m1.pc.toNat (by omega)
        have hmr := hr1.memR m1.pc.toNat
        have hnx : nextM m1 = { m1 with steps := m1.steps + 1, pc := m1.pc + 1 } := by unfold nextM; rw [IntKind.wrap_u32, Int.emod_eq_of_lt (by omega) (by omega)]
        simp -implicitDefEqProofs (maxSteps := 10000000) (disch := omega)
        refine ADraw.of_plan (Sched.one 0 (Sched.one 1 (Sched.one 2 (Sched.one 4 (Sched.one 5 (Sched.one 6 (Sched.alt 3 (Sched.alt 7 (Sched.alt 8 (Sched.alt 9 (Sched.one 10 Sched.fin) Sched.stop) Sched.stop) Sched.stop) (Sched.alt 7 (Sched.alt 3 (Sched.alt 8 (Sched.alt 9 (Sched.one 10 Sched.fin) Sched.stop) Sched.stop) Sched.stop) Sched.stop)))))))) (by kernel_rfl) (by kernel_rfl) ?_
        simp -implicitDefEqProofs (maxSteps := 10000000) (disch := omega) [hgm, du32]
        refine ⟨?_, ?_⟩
        all_goals
          refine m_exec (m := { m1 with steps := m1.steps + 1, pc := m1.pc + 1 }) (g := g1) (T := [.cells 31 [.d (.raw (.int .i64 0))], .clo (.func 53) [] [(false, [.ref 9 0])]]) (m1.mem m1.pc.toNat) ?_ hdg ?_ (fun m' he => EPost.of ?_ fun g' tail hr' => ?_) (fun he => ?_)
          · exact { hr1 with pcR := ⟨by simp only; omega, by simp only; omega⟩ }
          · simp only; omega
          · intro r hr
            rcases hr with rfl | rfl | rfl <;> simp [hc]
          · rw [← hnx] at he
            obtain ⟨k1, k2, k3⟩ := execM_keeps he
            rw [runM, if_pos h2, show signM m1 = m1.mem m1.pc.toNat from rfl, he] at hres
            simp only at hres
            simp -implicitDefEqProofs (maxSteps := 10000000) (disch := omega) [MH, mObj]
            simp only [nextM] at k1 k2
            refine boolK_both (fun h3 => ?_) (fun h3 => ?_)
            · rw [if_pos h3] at hres
              simp -implicitDefEqProofs (maxSteps := 10000000) (disch := omega) [List.getElem?_concat_length, set_snoc]
              exact h m' g' (.cells 31 [.d (.raw (.int .i64 0))] :: .clo (.func 53) [] [(false, [.ref 9 0])] :: (tail ++ [.cells 106 []])) 0 hr' (by omega) hres.symm
            · rw [if_neg (by rw [h3]; decide)] at hres
              refine boolK_both (fun h4 => ?_) (fun h4 => ?_) <;> simp at h4 <;> simp -implicitDefEqProofs (maxSteps := 10000000) (disch := omega) [List.getElem?_concat_length, set_snoc]
              · refine ⟨f, digitOf m' (m1.mem m1.pc.toNat), g', ⟨hcl, ⟨rfl, rfl, rfl, ⟨rfl, rfl⟩, rfl, by simp [digitOf, h4], rfl, rfl⟩, rfl, ⟨rfl, rfl⟩, ⟨rfl, rfl⟩, rfl, rfl⟩, ⟨{ hr' with }, h3, fun hd => ?_, ?_, ?_, hres⟩, by omega⟩
                · simp only [digitOf, decide_eq_true_eq] at hd ⊢; exact k3 hd
                · simp only [digitOf]; omega
                · simp only [digitOf]; omega
              · refine ⟨f, digitOf m' (m1.mem m1.pc.toNat), g', ⟨hcl, ⟨rfl, rfl, rfl, ⟨rfl, rfl⟩, rfl, by simp [digitOf]; omega, rfl, rfl⟩, rfl, ⟨rfl, rfl⟩, ⟨rfl, rfl⟩, rfl, rfl⟩, ⟨{ hr' with }, h3, fun hd => ?_, ?_, ?_, hres⟩, by omega⟩
                · simp only [digitOf, decide_eq_true_eq] at hd ⊢; exact k3 hd
                · simp only [digitOf]; omega
                · simp only [digitOf]; omega
          · intro m' g' hr' e1 e2
            rw [← hnx] at he
            rw [runM, if_pos h2, show signM m1 = m1.mem m1.pc.toNat from rfl, he] at hres
            simp only at hres e1 e2
            simp -implicitDefEqProofs (maxSteps := 10000000) (disch := omega) [trapV, MH, mObj]
            exact h m' g' [.cells 31 [.d (.raw (.int .i64 12))], .clo (.func 53) [] [(false, [.ref 9 0])], .cells 106 []] 12 hr' (by rw [e1]; omega) (by rw [e1, e2]; exact hres.symm)
      · rw [runM, if_neg (by omega)] at hres
        simp -implicitDefEqProofs (maxSteps := 10000000) (disch := omega) [trapV]
        exact h { m1 with steps := m1.steps + 1 } g1 [.cells 31 [.d (.raw (.int .i64 12))], .clo (.func 53) [] [(false, [.ref 9 0])], .cells 106 []] 12 { hr1 with } (by simp only; omega) hres.symm
    · obtain rfl : f = 0 := by omega
      rw [runM] at hres
      simp -implicitDefEqProofs (maxSteps := 10000000) (disch := omega)
      exact h m1 g1 [.cells 31 [.d (.raw (.int .i64 13))], .clo (.func 53) [] [(false, [.ref 9 0])], .cells 106 []] 13 hr1 (by omega) hres.symm
end Go.Proofs.YtddngfpgeifffaaGreatDoor
end
