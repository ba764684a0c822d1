/- A part of the proof: F1, F2. -/
import Derived.Test.YtddngfpgeifffaaGreatDoorVlE1x
set_option linter.unusedVariables false
set_option linter.unusedSimpArgs false
section
set_option maxRecDepth 20000
namespace Go.Proofs.YtddngfpgeifffaaGreatDoor
open Go Go.Proofs Go.Proofs.Vl

/-- How many frames a text needs; the text padded with spaces; a frame's part. -/
def totalOf (s : List UInt8) : Nat := (s.length + 63) / 64
def padded (s : List UInt8) : List UInt8 := s ++ Lib.repeatL [32] (totalOf s * 64 - s.length)
def chunk (s : List UInt8) (i : Nat) : List UInt8 := ((padded s).take (64 * (i + 1))).drop (64 * i)
def frameC (a : Int) (s : List UInt8) (k j : Nat) : D :=
  match j with
  | 0 => .raw (.int .u32 a)
  | 1 => .raw (.int .i64 k)
  | 2 => .raw (.int .i64 (totalOf s))
  | _ => .raw (.string ⟨⟨chunk s k⟩⟩)
def framesD (a : Int) (s : List UInt8) : D := .sl (totalOf s) 4 (frameC a s)
theorem padded_len (s : List UInt8) : (padded s).length = 64 * totalOf s := by
  unfold padded totalOf
  rw [List.length_append, length_repeatL]
  simp; omega
theorem t_split (s : List UInt8) (a : Int) (hs : s.length ≤ 40000) :
    PSpec Tryz.prog 20 [dstr s, dint .u32 a] (if s.all printableB then [(false, [framesD a s]), dint .i64 0] else [(false, [.raw (.slice none 0 0)]), dint .i64 3]) := by
  refine PSpec.of_body Tryz.func20 rfl (by kernel_rfl) (Nat.le_of_ble_eq_true rfl) ?_
  simp -implicitDefEqProofs (maxSteps := 10000000) (disch := omega) [dstr, dint]
  refine (t_printable s (by omega)).use rfl ?_
  simp -implicitDefEqProofs (maxSteps := 10000000) (disch := omega) [dbool]
  refine boolK_both (fun h1 => ?_) (fun h1 => ?_)
  · have h2 : s.all printableB = true := by simpa using h1
    rw [h2, if_pos rfl]
    have e1 : (((s.length : Int) + 64 - 1).tdiv 64) = ((totalOf s : Nat) : Int) := by rw [Int.tdiv_eq_ediv_of_nonneg (by omega)]; unfold totalOf; omega
    have h3 : totalOf s ≤ 625 := by unfold totalOf; omega
    have h4 : s.length ≤ 64 * totalOf s := by unfold totalOf; omega
    simp -implicitDefEqProofs (maxSteps := 10000000) (disch := omega) [h2, e1]
    rw [show (totalOf s : Int) * 64 - (s.length : Int) = ((totalOf s * 64 - s.length : Nat) : Int) by omega]
    refine (t_repeat [32] (totalOf s * 64 - s.length) (by omega) (by simp; omega)).use rfl ?_
    have h5 := padded_len s
    have h6 : (Lib.repeatL [32] (totalOf s * 64 - s.length)).length = totalOf s * 64 - s.length := by rw [length_repeatL]; simp
    simp -implicitDefEqProofs (maxSteps := 10000000) (disch := omega) [dstr]
    rw [show s ++ Lib.repeatL [32] (totalOf s * 64 - s.length) = padded s from rfl]
    refine AWP.adopt 7 56 4 nilD (Nat.le_of_ble_eq_true rfl) rfl ?_
    refine ALoop.inv [0, 1, 4, 5, 6, 7, 30, 31] 1 (T := Nat × (Nat → Nat → D)) (fun t => ⟨⟨50, [(0, .raw (.string ⟨⟨padded s⟩⟩)), (1, .raw (.int .u32 a)), (4, .raw (.slice none 0 0)), (5, .raw (.int .i64 0)), (6, .raw (.int .i64 (totalOf s))), (7, .a (.row 0 t.1)), (30, .raw (.int .i64 (totalOf s))), (31, .raw (.int .i64 t.1))]⟩, [⟨0, []⟩], [.row 56 4 t.1 t.2 0]⟩)
      (fun t => totalOf s - t.1) (fun t => t.1 ≤ totalOf s ∧ ∀ k, k < t.1 → ∀ j, j < 4 → t.2 k j = frameC a s k j) (0, nilD) ?_ ?_ (fun _ => rfl) (by kernel_rfl) ?_
    · simp -implicitDefEqProofs (maxSteps := 10000000) (disch := omega)
    · simp
    · rintro ⟨i, get⟩ ⟨hi, hu⟩
      simp only at hi hu
      simp -implicitDefEqProofs (maxSteps := 10000000) (disch := omega)
      refine boolK_both (fun h => ?_) (fun h => ?_) <;> simp at h
      · simp -implicitDefEqProofs (maxSteps := 10000000) (disch := omega)
        refine ⟨i + 1, _, ⟨⟨rfl, by omega⟩, rfl, rfl⟩, ⟨by omega, fun k hk j hj => ?_⟩, by omega⟩
        unfold catRow
        split
        · exact hu k (by omega) j hj
        · have : k = i := by omega
          subst this
          have e2 : (padded s).take (((k : Int) + 1) * 64).toNat = (padded s).take (64 * (k + 1)) := by congr 1; omega
          rw [e2, Nat.mul_comm k 64]
          rcases (by omega : j = 0 ∨ j = 1 ∨ j = 2 ∨ j = 3) with rfl | rfl | rfl | rfl <;> simp [litRow, frameC, At.toD, chunk]
      · have : i = totalOf s := by omega
        subst this
        simp -implicitDefEqProofs (maxSteps := 10000000) (disch := omega)
        refine Shows.tup ⟨⟨rfl, AtShow.row rfl fun k hk j hj => .of_eq (hu k hk j hj), trivial⟩, ⟨rfl, AtShow.data (.refl _), trivial⟩, trivial⟩ (by simp)
  · have h2 : s.all printableB = false := by
      refine Bool.eq_false_iff.2 fun h => ?_
      simp [h] at h1
    rw [h2]
    simp -implicitDefEqProofs (maxSteps := 10000000) (disch := omega)
    exact Shows.data _ [(false, [.raw (.slice none 0 0)]), dint .i64 3]
end Go.Proofs.YtddngfpgeifffaaGreatDoor
end
section
set_option maxRecDepth 20000
namespace Go.Proofs.YtddngfpgeifffaaGreatDoor
open Go Go.Proofs Go.Proofs.Vl

def groupD (n : Nat) (get : Nat → Nat → D) (g : Nat) : D := .sl (min 4 (n - 4 * g)) 4 fun i j => get (4 * g + i) j
def groupsD (n : Nat) (get : Nat → Nat → D) : D := .sl ((n + 3) / 4) 1 fun g _ => groupD n get g
theorem t_groups (n : Nat) (get : Nat → Nat → D) (hn : n ≤ 1000000) : PSpec Tryz.prog 21 [(false, [.sl n 4 get]), dint .i64 4] [(false, [groupsD n get])] := by
  refine PSpec.of_body Tryz.func21 rfl (by kernel_rfl) (Nat.le_of_ble_eq_true rfl) ?_
  simp -implicitDefEqProofs (maxSteps := 10000000) (disch := omega) [dint]
  refine AWP.adopt 5 26 1 nilD (Nat.le_of_ble_eq_true rfl) rfl ?_
  refine ALoop.inv [0, 1, 4, 5] 1 (T := Nat × (Nat → Nat → D) × (Nat → Nat → D)) (fun t => ⟨⟨24, [(0, .c false [.d (.sl (n - 4 * t.1) 4 t.2.1)]), (1, .raw (.int .i64 4)), (4, .raw (.slice none 0 0)), (5, .a (.row 0 t.1))]⟩, [⟨0, []⟩], [.row 26 1 t.1 t.2.2 0]⟩)
    (fun t => n - 4 * t.1) (fun t => t.1 ≤ (n + 3) / 4 ∧ (∀ i, i < n - 4 * t.1 → ∀ j, t.2.1 i j = get (4 * t.1 + i) j) ∧ ∀ g, g < t.1 → D.Eqv (t.2.2 g 0) (groupD n get g)) (0, get, nilD) ?_ ?_ (fun _ => rfl) (by kernel_rfl) ?_
  · simp -implicitDefEqProofs (maxSteps := 10000000) (disch := omega)
  · simp
  · rintro ⟨g, gr, go⟩ ⟨hg, hu, hv⟩
    simp only at hg hu hv
    simp -implicitDefEqProofs (maxSteps := 10000000) (disch := omega)
    refine boolK_both (fun h => ?_) (fun h => ?_) <;> simp at h
    · simp -implicitDefEqProofs (maxSteps := 10000000) (disch := omega)
      have e0 : (if ((n - 4 * g : Nat) : Int) < 4 then ((n - 4 * g : Nat) : Int) else 4).toNat = min 4 (n - 4 * g) := by split <;> omega
      have e1 : ((((n - 4 * g : Nat) : Int) - if ((n - 4 * g : Nat) : Int) < 4 then ((n - 4 * g : Nat) : Int) else 4)).toNat = n - 4 * (g + 1) := by split <;> omega
      rw [e0, e1]
      refine ⟨g + 1, _, _, ⟨⟨⟨rfl, rfl⟩, rfl⟩, rfl, rfl⟩, ⟨by omega, fun i hi j => ?_, fun k hk => ?_⟩, by omega⟩
      · have h4 : min 4 (n - 4 * g) = 4 := by omega
        simp only [h4]
        rw [hu _ (by omega)]
        congr 1; omega
      · unfold catRow
        split
        · exact hv k (by omega)
        · have : k = g := by omega
          subst this
          simp only [litRow, At.toD, Nat.sub_self]
          refine .sl _ _ _ _ fun i hi j hj => .of_eq ?_
          exact hu i (by omega) j
    · have : g = (n + 3) / 4 := by omega
      subst this
      simp -implicitDefEqProofs (maxSteps := 10000000) (disch := omega)
      refine Shows.one ⟨rfl, AtShow.row rfl fun k hk j hj => ?_, trivial⟩
      obtain rfl : j = 0 := by omega
      exact hv k hk
end Go.Proofs.YtddngfpgeifffaaGreatDoor
end
