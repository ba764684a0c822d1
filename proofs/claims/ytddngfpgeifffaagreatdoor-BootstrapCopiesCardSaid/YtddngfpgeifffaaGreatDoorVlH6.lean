/- A part of the proof: H6. -/
import Derived.Test.YtddngfpgeifffaaGreatDoorVlH3x
set_option linter.unusedVariables false
set_option linter.unusedSimpArgs false
set_option maxRecDepth 20000
namespace Go.Proofs.YtddngfpgeifffaaGreatDoor
open Go Go.Proofs Go.Proofs.Vl

theorem and_via {A B C : Prop} (h1 : C → A) (h2 : C → B) (h : C) : A ∧ B := ⟨h1 h, h2 h⟩
theorem BytesG.conv {get : Nat → Nat → D} {l : List UInt8} (h : BytesG get l) : (∀ i, i < l.length → IsByte (get i 0)) ∧ (List.range l.length).map (fun i => Vl.byteOf (get i 0)) = l := by
  refine ⟨fun i hi => ?_, List.ext_getElem? fun i => ?_⟩
  · rw [h i hi]
    exact ⟨_, rfl⟩
  · rw [List.getElem?_map]
    by_cases hi : i < l.length
    · simp [hi, h i hi, Vl.byteOf]
    · simp [hi]
def textD (code : List UInt8) : D := .sl 1 2 fun _ j => if j = 0 then .raw (.int .i64 10000) else .raw (.string ⟨⟨code⟩⟩)
def outC (o : Out) : DC := (true, [.raw (.string ⟨⟨o.out⟩⟩), .raw (.int .i64 o.err), .raw (.int .i64 o.steps)])
def mem0 (code : List UInt8) (n : Nat) (i : Nat) : Int := if 10000 ≤ i ∧ i < 10000 + n then ((code.getD (i - 10000) 0).toNat : Int) else 0
theorem mem0_step {code : List UInt8} {gm : Nat → Nat → D} {i : Nat} (hu : ∀ k, k < 262144 → gm k 0 = du32 (mem0 code i k)) (h : i < code.length) {k : Nat} (hk : k < 262144) :
    updRow gm (10000 + (i : Int)).toNat 0 [D.raw (Value.int IntKind.u32 (IntKind.u32.wrap (code[i].toNat : Int)))] k 0 = du32 (mem0 code (i + 1) k) := by
  have hb : IntKind.u32.wrap (code[i].toNat : Int) = (code[i].toNat : Int) := by
    rw [IntKind.wrap_u32]; have := code[i].toNat_lt; omega
  unfold updRow
  rw [hb]
  by_cases hk2 : k = (10000 + (i : Int)).toNat
  · rw [if_pos hk2]
    have : k = 10000 + i := by omega
    subst this
    simp [mem0, du32, h]
  · rw [if_neg hk2, hu k hk]
    unfold mem0
    by_cases h1 : 10000 ≤ k ∧ k < 10000 + i
    · rw [if_pos h1, if_pos (by omega)]
    · rw [if_neg h1, if_neg (by omega)]
def start0 (code : List UInt8) (inp : List Int) : MSt := ⟨mem0 code code.length, 10000, [], [], inp, [], false, 0, false⟩
def runOut (code : List UInt8) (inp : List Int) (steps : Nat) : Out := runM steps (start0 code inp)

set_option maxHeartbeats 6400000 in
theorem t_machineRun (code : List UInt8) (inp : List Int) (steps : Nat) (hc : code.length ≤ 200000) (hi' : ∀ v ∈ inp, U32 v) (hl : inp.length ≤ 1000000000) (hs : 1 ≤ steps) (hs2 : steps ≤ 100000000) :
    PSpec Tryz.prog 16 [(false, [textD code]), dint .i64 10000, (false, [u32s inp]), dint .i64 steps] [outC (runOut code inp steps)] := by
  refine PSpec.of_body Tryz.func16 rfl (by kernel_rfl) (Nat.le_of_ble_eq_true rfl) ?_
  simp -implicitDefEqProofs (maxSteps := 10000000) (disch := omega) [dint, textD, u32s]
  refine ALoop.of_rounds [0, 1, 2, 3, 8, 9, 23, 24, 25] 1 2 (by kernel_rfl) ?_
  simp -implicitDefEqProofs (maxSteps := 10000000) (disch := omega)
  refine ADraw.of_plan (Sched.one 1 (Sched.one 2 (Sched.one 3 (Sched.alt 0 (Sched.alt 4 (Sched.alt 5 (Sched.alt 6 (Sched.one 7 Sched.fin) Sched.stop) Sched.stop) Sched.stop) (Sched.alt 4 (Sched.alt 0 (Sched.alt 5 (Sched.alt 6 (Sched.one 7 Sched.fin) Sched.stop) Sched.stop) Sched.stop) Sched.stop))))) (by kernel_rfl) (by kernel_rfl) ?_
  simp -implicitDefEqProofs (maxSteps := 10000000) (disch := omega)
  apply and_via
  · intro h
    refine ACall.of_body Tryz.func30 rfl (by kernel_rfl) (Nat.le_of_ble_eq_true rfl) ?_
    simp -implicitDefEqProofs (maxSteps := 10000000) (disch := omega)
    refine AWP.trim [3, 8, 12, 64, 65, 66] 4 ?_
    simp -implicitDefEqProofs (maxSteps := 10000000) (disch := omega)
    refine AWP.move 1 rfl ?_
    simp -implicitDefEqProofs (maxSteps := 10000000) (disch := omega)
    refine AWP.move 2 rfl ?_
    simp -implicitDefEqProofs (maxSteps := 10000000) (disch := omega)
    exact h
  · intro h
    refine ACall.of_body Tryz.func30 rfl (by kernel_rfl) (Nat.le_of_ble_eq_true rfl) ?_
    simp -implicitDefEqProofs (maxSteps := 10000000) (disch := omega)
    refine AWP.trim [3, 8, 12, 64, 65, 66] 4 ?_
    simp -implicitDefEqProofs (maxSteps := 10000000) (disch := omega)
    refine AWP.move 2 rfl ?_
    simp -implicitDefEqProofs (maxSteps := 10000000) (disch := omega)
    refine AWP.move 1 rfl ?_
    simp -implicitDefEqProofs (maxSteps := 10000000) (disch := omega)
    exact h
  refine AWP.adoptCell 3 2 23 1 nilD rfl rfl ?_
  simp -implicitDefEqProofs (maxSteps := 10000000) (disch := omega)
  refine AWP.adoptCell 3 3 23 1 nilD rfl rfl ?_
  simp -implicitDefEqProofs (maxSteps := 10000000) (disch := omega)
  refine AWP.adoptCell 3 5 5 1 nilD rfl rfl ?_
  simp -implicitDefEqProofs (maxSteps := 10000000) (disch := omega)
  refine ALoop.of_rounds [3, 8, 12, 64, 65, 66] 9 2 (by kernel_rfl) ?_
  simp -implicitDefEqProofs (maxSteps := 10000000) (disch := omega)
  refine ALoop.inv [3, 8, 12, 64, 65, 66, 14, 72, 73] 10 (T := Nat × (Nat → Nat → D)) (fun t => ⟨⟨106, [(3, .raw (.int .i64 steps)), (8, .a (.ref 0 0)), (12, .a (.ref 3 0)), (64, .c false [.d (textD code)]), (65, .raw (.int .i64 1)), (66, .raw (.int .i64 0)), (14, .a (.ref 9 0)), (72, .raw (.int .i64 code.length)), (73, .raw (.int .i64 t.1))]⟩, [⟨0, []⟩],
      MH (start0 code inp) ⟨t.2, 0, nilD, 0, nilD, fun i _ => du32 (inp[i]?.getD 0), 0, nilD⟩ [.cells 48 [.d (.raw (.int .i64 10000)), .d (.raw (.string ⟨⟨code⟩⟩))]]⟩)
    (fun t => code.length - t.1) (fun t => t.1 ≤ code.length ∧ ∀ k, k < 262144 → t.2 k 0 = du32 (mem0 code t.1 k)) (0, fun _ j => .raw ([Value.int .u32 0][j]?.getD .nilIface)) ?_ ?_ (fun _ => rfl) (by kernel_rfl) ?_
  · simp -implicitDefEqProofs (maxSteps := 10000000) (disch := omega) [MH, mObj, outOb, textD, start0]
    rfl
  · refine ⟨Nat.zero_le _, fun k _ => ?_⟩
    simp [mem0, du32]
    omega
  · rintro ⟨i, gm⟩ ⟨hi, hu⟩
    simp only at hi hu
    simp -implicitDefEqProofs (maxSteps := 10000000) (disch := omega) [MH, mObj, outOb, start0]
    refine boolK_both (fun h => ?_) (fun h => ?_) <;> simp at h
    · simp -implicitDefEqProofs (maxSteps := 10000000) (disch := omega)
      refine ADraw.of_plan (Sched.one 0 (Sched.one 1 (Sched.one 2 (Sched.one 4 (Sched.one 6 (Sched.one 8 (Sched.one 10 (Sched.alt 3 (Sched.alt 5 (Sched.one 7 (Sched.alt 9 (Sched.alt 11 (Sched.one 12 (Sched.alt 13 (Sched.alt 14 Sched.fin Sched.stop) Sched.stop)) Sched.stop) Sched.stop)) (Sched.alt 9 (Sched.alt 5 (Sched.one 7 (Sched.alt 11 (Sched.one 12 (Sched.alt 13 (Sched.alt 14 Sched.fin Sched.stop) Sched.stop)) Sched.stop)) (Sched.alt 11 (Sched.one 12 (Sched.alt 5 (Sched.one 7 (Sched.alt 13 (Sched.alt 14 Sched.fin Sched.stop) Sched.stop)) Sched.stop)) Sched.stop)) Sched.stop)) (Sched.alt 5 (Sched.one 7 (Sched.alt 3 (Sched.alt 9 (Sched.alt 11 (Sched.one 12 (Sched.alt 13 (Sched.alt 14 Sched.fin Sched.stop) Sched.stop)) Sched.stop) Sched.stop) (Sched.alt 9 (Sched.alt 3 (Sched.alt 11 (Sched.one 12 (Sched.alt 13 (Sched.alt 14 Sched.fin Sched.stop) Sched.stop)) Sched.stop) (Sched.alt 11 (Sched.one 12 (Sched.alt 3 (Sched.alt 13 (Sched.alt 14 Sched.fin Sched.stop) Sched.stop) Sched.stop)) Sched.stop)) Sched.stop))) (Sched.alt 9 (Sched.alt 3 (Sched.alt 5 (Sched.one 7 (Sched.alt 11 (Sched.one 12 (Sched.alt 13 (Sched.alt 14 Sched.fin Sched.stop) Sched.stop)) Sched.stop)) (Sched.alt 11 (Sched.one 12 (Sched.alt 5 (Sched.one 7 (Sched.alt 13 (Sched.alt 14 Sched.fin Sched.stop) Sched.stop)) Sched.stop)) Sched.stop)) (Sched.alt 5 (Sched.one 7 (Sched.alt 3 (Sched.alt 11 (Sched.one 12 (Sched.alt 13 (Sched.alt 14 Sched.fin Sched.stop) Sched.stop)) Sched.stop) (Sched.alt 11 (Sched.one 12 (Sched.alt 3 (Sched.alt 13 (Sched.alt 14 Sched.fin Sched.stop) Sched.stop) Sched.stop)) Sched.stop))) (Sched.alt 11 (Sched.one 12 (Sched.alt 3 (Sched.alt 5 (Sched.one 7 (Sched.alt 13 (Sched.alt 14 Sched.fin Sched.stop) Sched.stop)) Sched.stop) (Sched.alt 5 (Sched.one 7 (Sched.alt 3 (Sched.alt 13 (Sched.alt 14 Sched.fin Sched.stop) Sched.stop) Sched.stop)) Sched.stop))) Sched.stop))) Sched.stop)))))))))) (by kernel_rfl) (by kernel_rfl) ?_
      simp -implicitDefEqProofs (maxSteps := 10000000) (disch := omega)
      exact ⟨i + 1, _, ⟨by omega, rfl⟩, ⟨by omega, fun k hk => mem0_step hu h hk⟩, by omega⟩
    · have : i = code.length := by omega
      subst this
      simp -implicitDefEqProofs (maxSteps := 10000000) (disch := omega)
      have hr : MRel (start0 code inp) ⟨gm, 0, nilD, 0, nilD, fun i _ => du32 (inp[i]?.getD 0), 0, nilD⟩ :=
        { gm := hu
          memR := fun i => by
            show U32 (mem0 code code.length i)
            unfold mem0
            split
            · have := (code.getD (i - 10000) 0).toNat_lt
              exact ⟨by omega, by omega⟩
            · exact ⟨by decide, by decide⟩
          pcR := ⟨by simp only [start0]; omega, by simp only [start0]; omega⟩
          gd := fun i hi => absurd hi (by simp [start0])
          ld := Nat.zero_le _
          dataR := fun v hv => by simp [start0] at hv
          dataL := Nat.zero_le _
          gc := fun i hi => absurd hi (by simp [start0])
          lc := Nat.zero_le _
          callsR := fun v hv => by simp [start0] at hv
          callsL := Nat.zero_le _
          gi := fun i hi => by simp [start0]
          inputR := hi'
          go := BytesG.nil _
          lo := Nat.zero_le _ }
      refine m_run (m := start0 code inp) (g := ⟨gm, 0, nilD, 0, nilD, fun i _ => du32 (inp[i]?.getD 0), 0, nilD⟩) (n := steps) hr ?_ ?_ hs2 ⟨rfl, rfl, rfl, rfl⟩ (fun m' g' T' e hr' ho hres => ?_)
      · intro r hr
        rcases hr with rfl | rfl | rfl <;> simp [textD]
      · simp [textD]
      · simp -implicitDefEqProofs (maxSteps := 10000000) (disch := omega) [MH, mObj, outOb]
        refine ADraw.of_plan (.one 0 (.one 1 (.one 2 (.one 5 (.one 6 (.one 7 (.one 8
          (.alt 3 (.alt 4 (.alt 9 (.alt 10 (.alt 11 .fin .stop) .stop) .stop) (.alt 9 (.alt 4 (.alt 10 (.alt 11 .fin .stop) .stop) .stop) .stop))
            (.alt 9 (.alt 3 (.alt 4 (.alt 10 (.alt 11 .fin .stop) .stop) .stop) .stop) .stop))))))))) (by kernel_rfl) (by kernel_rfl) ?_
        simp -implicitDefEqProofs (maxSteps := 10000000) (disch := omega)
        obtain ⟨b1, b2⟩ := hr'.go.conv
        refine ⟨b1, ?_⟩
        rw [b2, show runOut code inp steps = ⟨m'.output, e, m'.steps⟩ from hres]
        exact Shows.data _ [outC ⟨m'.output, e, m'.steps⟩]

end Go.Proofs.YtddngfpgeifffaaGreatDoor
