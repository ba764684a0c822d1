/- A part of the proof: D1. -/
import Derived.Test.YtddngfpgeifffaaGreatDoorVlC1
set_option linter.unusedVariables false
set_option linter.unusedSimpArgs false
set_option maxRecDepth 20000
namespace Go.Proofs.YtddngfpgeifffaaGreatDoor
open Go Go.Proofs Go.Proofs.Vl

def printableB (b : UInt8) : Bool := decide (32 ≤ b.toNat ∧ b.toNat ≤ 126)
theorem t_printable (s : List UInt8) (hs : s.length < 9000000000000000000) : PSpec Tryz.prog 35 [dstr s] [dbool (s.all printableB)] := by
  refine PSpec.of_body Tryz.func35 rfl (by kernel_rfl) (Nat.le_of_ble_eq_true rfl) ?_
  simp -implicitDefEqProofs (maxSteps := 10000000) (disch := omega) [dstr, dbool]
  refine ALoop.inv [0, 5, 6] 0 (T := Nat) (fun t => ⟨⟨20, [(0, .raw (.string ⟨⟨s⟩⟩)), (5, .raw (.int .i64 s.length)), (6, .raw (.int .i64 t))]⟩, [⟨0, []⟩], []⟩)
    (fun t => s.length - t) (fun t => t ≤ s.length ∧ (s.drop t).all printableB = s.all printableB) 0 ?_ ?_ (fun _ => rfl) (by kernel_rfl) ?_
  · simp -implicitDefEqProofs (maxSteps := 10000000) (disch := omega)
  · simp
  · rintro i ⟨hi, hu⟩
    simp -implicitDefEqProofs (maxSteps := 10000000) (disch := omega)
    refine boolK_both (fun h => ?_) (fun h => ?_) <;> simp at h
    · simp -implicitDefEqProofs (maxSteps := 10000000) (disch := omega)
      rw [List.drop_eq_getElem_cons h, List.all_cons] at hu
      refine boolK_both (fun h2 => ?_) (fun h2 => ?_) <;> simp at h2 <;> simp -implicitDefEqProofs (maxSteps := 10000000) (disch := omega)
      · refine Shows.scalar (by rw [← hu]; simp [printableB]; omega)
      · refine boolK_both (fun h3 => ?_) (fun h3 => ?_) <;> simp at h3 <;> simp -implicitDefEqProofs (maxSteps := 10000000) (disch := omega)
        · refine Shows.scalar (by rw [← hu]; simp [printableB]; omega)
        · exact ⟨i + 1, rfl, ⟨by omega, by rw [← hu]; simp [printableB]; omega⟩, by omega⟩
    · have : i = s.length := by omega
      subst this
      simp -implicitDefEqProofs (maxSteps := 10000000) (disch := omega)
      exact Shows.scalar (by rw [← hu]; simp)

theorem t_cellsCheck (s : List UInt8) (hs : s.length < 9000000000000000000) : PSpec Tryz.prog 55 [dstr s] [dint .i64 (if Lib.trimS s [48, 49, 63] = [] then 0 else 3)] := by
  refine PSpec.of_body Tryz.func55 rfl (by kernel_rfl) (Nat.le_of_ble_eq_true rfl) ?_
  simp -implicitDefEqProofs (maxSteps := 10000000) (disch := omega) [dstr, dint]
  refine (t_trim s [48, 49, 63] (by omega) (by decide) (by decide)).use rfl ?_
  simp -implicitDefEqProofs (maxSteps := 10000000) (disch := omega) [dstr]
  refine boolK_both (fun h => ?_) (fun h => ?_) <;> simp at h <;> simp -implicitDefEqProofs (maxSteps := 10000000) (disch := omega)
  · exact Shows.int (by rw [if_neg h])
  · exact Shows.int (by rw [if_pos h])
theorem t_unreadable (s : List UInt8) : PSpec Tryz.prog 56 [dstr s] [dint .i64 (Lib.countByte s 63)] := by
  refine PSpec.of_body Tryz.func56 rfl (by kernel_rfl) (Nat.le_of_ble_eq_true rfl) ?_
  simp -implicitDefEqProofs (maxSteps := 10000000) (disch := omega) [dstr, dint]
  refine (t_count s 63).use rfl ?_
  simp -implicitDefEqProofs (maxSteps := 10000000) (disch := omega) [dint]
  exact Shows.int rfl

/-- The eight cells of a byte. -/
def bitc (b : UInt8) (k : Nat) : UInt8 := 48 + ((b >>> (UInt8.ofNat (7 - k))) &&& 1)
def cells8 (b : UInt8) : List UInt8 := (List.range 8).map (bitc b)
def cellsOf (s : List UInt8) : List UInt8 := s.flatMap cells8
theorem length_cells8 (b : UInt8) : (cells8 b).length = 8 := rfl
theorem length_cellsOf (s : List UInt8) : (cellsOf s).length = 8 * s.length := by
  induction s with
  | nil => rfl
  | cons b s ih => rw [cellsOf, List.flatMap_cons, List.length_append, length_cells8, ← cellsOf, ih, List.length_cons]; omega
theorem bit_expr (b : UInt8) (k : Nat) (hk : (k : Int) < 8) : IntKind.u8.wrap (48 + bAnd .u8 (Int.fdiv (b.toNat : Int) (2 ^ (7 - k))) 1) = ((bitc b k).toNat : Int) := by
  have key : ∀ n : Fin 256, ∀ k : Fin 8, IntKind.u8.wrap (48 + bAnd .u8 (Int.fdiv (n.val : Int) (2 ^ (7 - k.val))) 1) = ((bitc (UInt8.ofNat n.val) k.val).toNat : Int) := by decide +kernel
  have := key ⟨b.toNat, b.toNat_lt⟩ ⟨k, by omega⟩
  simpa using this
theorem t_fromBytes (s : List UInt8) (hs : s.length ≤ 1000000) : PSpec Tryz.prog 39 [dstr s] [dstr (cellsOf s)] := by
  refine PSpec.of_body Tryz.func39 rfl (by kernel_rfl) (Nat.le_of_ble_eq_true rfl) ?_
  simp -implicitDefEqProofs (maxSteps := 10000000) (disch := omega) [dstr]
  refine AWP.adoptB 0 (e5 := 5) rfl ?_
  simp -implicitDefEqProofs (maxSteps := 10000000) (disch := omega)
  refine ALoop.inv [0, 3, 7, 8] 2 (T := Nat × (Nat → Nat → D)) (fun t => ⟨⟨26, [(0, .raw (.string ⟨⟨s⟩⟩)), (3, .a (.ref 0 0)), (7, .raw (.int .i64 s.length)), (8, .raw (.int .i64 t.1))]⟩, [⟨0, []⟩], [.cells 64 [.mref 0 0, .row 1 (8 * t.1)], .row 5 1 (8 * t.1) t.2 0]⟩)
    (fun t => s.length - t.1) (fun t => t.1 ≤ s.length ∧ BytesG t.2 (cellsOf (s.take t.1))) (0, nilD) ?_ ?_ (fun _ => rfl) (by kernel_rfl) ?_
  · simp -implicitDefEqProofs (maxSteps := 10000000) (disch := omega)
  · simp [cellsOf, BytesG.nil]
  · rintro ⟨i, get⟩ ⟨hi, hu⟩
    simp -implicitDefEqProofs (maxSteps := 10000000) (disch := omega)
    simp only at hi hu
    refine boolK_both (fun h => ?_) (fun h => ?_) <;> simp at h
    · simp -implicitDefEqProofs (maxSteps := 10000000) (disch := omega)
      refine ALoop.inv [0, 3, 4, 7, 8, 11] 2 (T := Nat × (Nat → Nat → D)) (fun t => ⟨⟨26, [(0, .raw (.string ⟨⟨s⟩⟩)), (3, .a (.ref 0 0)), (4, .raw (.int .i64 i)), (7, .raw (.int .i64 s.length)), (8, .raw (.int .i64 i)), (11, .raw (.int .i64 t.1))]⟩, [⟨0, []⟩], [.cells 64 [.mref 0 0, .row 1 (8 * i + t.1)], .row 5 1 (8 * i + t.1) t.2 0]⟩)
        (fun t => 8 - t.1) (fun t => t.1 ≤ 8 ∧ BytesG t.2 (cellsOf (s.take i) ++ (cells8 s[i]).take t.1)) (0, get) ?_ ?_ (fun _ => rfl) (by kernel_rfl) ?_
      · simp -implicitDefEqProofs (maxSteps := 10000000) (disch := omega)
      · simpa using hu
      · rintro ⟨k, get⟩ ⟨hk, hv⟩
        simp only at hk hv
        simp -implicitDefEqProofs (maxSteps := 10000000) (disch := omega)
        refine boolK_both (fun h2 => ?_) (fun h2 => ?_) <;> simp at h2
        · simp -implicitDefEqProofs (maxSteps := 10000000) (disch := omega)
          rw [bit_expr s[i] k h2]
          refine b_writeByte (id := 0) (rid := 1) rfl rfl (by decide) (by omega) ?_
          simp -implicitDefEqProofs (maxSteps := 10000000) (disch := omega)
          have hlen : (cellsOf (s.take i) ++ (cells8 s[i]).take k).length = 8 * i + k := by rw [List.length_append, length_cellsOf, List.length_take, List.length_take, length_cells8]; omega
          have hb := hv.byte (bitc s[i] k)
          rw [hlen] at hb
          refine ⟨k + 1, _, ⟨by omega, by omega, rfl⟩, ⟨by omega, ?_⟩, by omega⟩
          rw [List.take_succ_eq_append_getElem (by rw [length_cells8]; omega), ← List.append_assoc]
          simpa [cells8] using hb
        · have : k = 8 := by omega
          subst this
          simp -implicitDefEqProofs (maxSteps := 10000000) (disch := omega)
          refine ⟨i + 1, get, ⟨by omega, by omega, rfl⟩, ⟨by omega, ?_⟩, by omega⟩
          rw [List.take_succ_eq_append_getElem h, cellsOf, List.flatMap_append]
          rw [show (cells8 s[i]).take 8 = cells8 s[i] from List.take_of_length_le (by rw [length_cells8]; omega)] at hv
          simpa [cellsOf] using hv
    · have : i = s.length := by omega
      subst this
      simp -implicitDefEqProofs (maxSteps := 10000000) (disch := omega)
      rw [List.take_length] at hu
      have hl := length_cellsOf s
      refine b_string (id := 0) (rid := 1) (l := cellsOf s) (by rw [hl]; rfl) (by rw [hl]; rfl) (by decide) (by omega) hu ?_
      simp -implicitDefEqProofs (maxSteps := 10000000) (disch := omega)
      exact Shows.str rfl
end Go.Proofs.YtddngfpgeifffaaGreatDoor
