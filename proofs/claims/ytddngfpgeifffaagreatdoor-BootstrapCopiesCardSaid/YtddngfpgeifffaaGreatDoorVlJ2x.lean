/- A part of the proof: J2, J3. -/
import Derived.KernelRfl
import Derived.Test.YtddngfpgeifffaaGreatDoorVlJ1x
import Derived.Test.YtddngfpgeifffaaGreatDoorVlP1
set_option linter.unusedVariables false
set_option linter.unusedSimpArgs false
section
set_option maxRecDepth 20000
namespace Go.Proofs.YtddngfpgeifffaaGreatDoor
open Go Go.Proofs Go.Proofs.Vl
def dollars : List UInt8 := Lib.repeatL [36] 300
theorem dollars_ok : dollars.all printableB = true ∧ dollars.length = 300 := ⟨by kernel_rfl, by kernel_rfl⟩
theorem clean1 : scanM (stripS 7 dollars 1) 0 = true := by kernel_rfl
theorem clean0 : scanM (stripS 7 dollars 0) 0 = true := by kernel_rfl
theorem dollars_total : totalOf dollars = 5 := by rw [totalOf, dollars_ok.2]
theorem dollars_strips : stripsL 7 dollars = [stripS 7 dollars 0, stripS 7 dollars 1] := by simp [stripsL, dollars_total, List.range_succ]
theorem alive_good : ∀ p ∈ stripsL 7 dollars, GoodP 7 dollars p := by
  intro p hp
  have hl := dollars_ok.2
  have ht := dollars_total
  rw [dollars_strips] at hp
  rcases List.mem_cons.1 hp with rfl | hp
  · exact (strip_keys (k := 0) (by decide) (by omega) (by omega) (cleanP_of clean0)).1
  · rw [List.mem_singleton] at hp
    subst hp
    exact (strip_keys (k := 0) (by decide) (by omega) (by omega) (cleanP_of clean1)).1
theorem alive_out : bootOut dollars 7 (stripsL 7 dollars) 10 = ⟨[], 0, 1⟩ := by
  have hl := dollars_ok.2
  have ht := dollars_total
  have hm : missOf (allKeys 7 dollars (stripsL 7 dollars)) (totalOf dollars) = [] := by
    refine all_full (by decide) (by omega) fun g hg => ?_
    rw [dollars_strips]
    rcases (by omega : g = 0 ∨ g = 1) with rfl | rfl
    · exact ⟨by simp, cleanP_of clean0⟩
    · exact ⟨by simp, cleanP_of clean1⟩
  have hk : allKeys 7 dollars (stripsL 7 dollars) ≠ [] := by
    intro e
    rw [e, ht] at hm
    exact absurd hm (by decide)
  unfold bootOut
  rw [if_neg hk, if_pos hm]
  have h36 : mem0 (padded dollars) (padded dollars).length 10000 = 36 := by
    have h1 := padded_len dollars
    unfold mem0
    rw [if_pos (by omega)]
    rfl
  unfold runOut
  generalize padded dollars = c at h36
  simp [runM, start0, signM, nextM, h36, execM]
theorem strs_nil_boot : bootOut [] 7 [] 10 = ⟨[], 9, 0⟩ := by simp [bootOut, allKeys]
set_option maxHeartbeats 6400000 in
theorem t_alive : PSpec Tryz.prog 5 [] [dbool true] := by
  refine PSpec.of_body Tryz.func5 rfl (by kernel_rfl) (Nat.le_of_ble_eq_true rfl) ?_
  simp -implicitDefEqProofs (maxSteps := 10000000) (disch := omega) [dbool]
  refine (t_repeat [36] 300 (by decide) (by decide)).use rfl ?_
  obtain ⟨d1, d2⟩ := dollars_ok
  rw [show Lib.repeatL [36] 300 = dollars from rfl]
  simp -implicitDefEqProofs (maxSteps := 10000000) (disch := omega) [dstr]
  refine (t_strips dollars 7 (by decide) (by omega)).use rfl ?_
  rw [if_pos d1]
  have hlen : (stripsL 7 dollars).length = 2 := by simp [stripsL, totalOf, d2]
  have hl0 : (stripS 7 dollars 0).length = 3072 := by rw [stripS_len (by decide) (by omega) (by simp [totalOf, d2])]; simp [totalOf, d2]
  have hl1 : (stripS 7 dollars 1).length = 768 := by rw [stripS_len (by decide) (by omega) (by simp [totalOf, d2])]; simp [totalOf, d2]
  have hx : stripsL 7 dollars = [stripS 7 dollars 0, stripS 7 dollars 1] := by simp [stripsL, totalOf, d2, List.range_succ]
  have hb : ∀ p ∈ stripsL 7 dollars, p.length ≤ 1000000 := by
    rw [hx]; intro p hp
    rcases List.mem_cons.1 hp with rfl | hp
    · omega
    · rw [List.mem_singleton] at hp; subst hp; omega
  obtain ⟨LD, hLD, hLD2⟩ : ∃ g : Nat → Nat → D, strs (stripsL 7 dollars) = .sl 2 1 g ∧ (g 0 0 = .raw (.string ⟨⟨stripS 7 dollars 0⟩⟩) ∧ g 1 0 = .raw (.string ⟨⟨stripS 7 dollars 1⟩⟩)) := ⟨_, by rw [strs, hlen], by rw [hx]; exact ⟨rfl, rfl⟩⟩
  simp -implicitDefEqProofs (maxSteps := 10000000) (disch := omega) [dstrs, dint, hLD]
  refine (t_boot [] 7 [] 10 (by decide) (by decide) rfl (by decide) (by simp) (by simp) (by decide) (by decide)).useE ?_ ?_
  · exact ⟨⟨rfl, ⟨_, rfl, .nil _ _⟩, trivial⟩, ⟨rfl, ⟨_, rfl, .refl _⟩, trivial⟩, ⟨rfl, ⟨_, rfl, .refl _⟩, trivial⟩, trivial⟩
  · rw [strs_nil_boot]
    simp -implicitDefEqProofs (maxSteps := 10000000) (disch := omega) [outC]
    refine (t_boot (stripsL 7 dollars) 7 dollars 10 (by decide) (by omega) d1 (by omega) hb alive_good (by decide) (by decide)).use (by simp [ups, up, dstrs, dint, hLD]) ?_
    rw [alive_out]
    simp -implicitDefEqProofs (maxSteps := 10000000) (disch := omega) [outC, hLD2, hl0, hl1]
    exact Shows.scalar rfl
end Go.Proofs.YtddngfpgeifffaaGreatDoor
end
section
set_option maxRecDepth 20000
namespace Go.Proofs.YtddngfpgeifffaaGreatDoor
open Go Go.Proofs Go.Proofs.Vl

def small6 (L : List (List UInt8)) : Bool := decide (L.length ≤ 6) && L.all fun p => decide (p.length ≤ 300)
set_option maxHeartbeats 6400000 in
theorem t_small6 (L : List (List UInt8)) (hL : L.length ≤ 9223372036854775807) (hl : ∀ p ∈ L, p.length ≤ 9223372036854775807) : PSpec Tryz.prog 6 [dstr [], dstrs L, dint .i64 0] [dbool (small6 L)] := by
  refine PSpec.of_body Tryz.func6 rfl (by kernel_rfl) (Nat.le_of_ble_eq_true rfl) ?_
  obtain ⟨LD, hLD, hLD2⟩ : ∃ g : Nat → Nat → D, strs L = .sl L.length 1 g ∧ ∀ i (h : i < L.length), g i 0 = .raw (.string ⟨⟨L[i]⟩⟩) := ⟨_, rfl, fun i h => by simp [h]⟩
  simp -implicitDefEqProofs (maxSteps := 10000000) (disch := omega) [dstr, dint, dbool, dstrs, hLD]
  refine boolK_both (fun h1 => ?_) (fun h1 => ?_) <;> simp at h1
  · simp -implicitDefEqProofs (maxSteps := 10000000) (disch := omega)
    exact Shows.scalar (by simp [small6]; omega)
  · simp -implicitDefEqProofs (maxSteps := 10000000) (disch := omega)
    refine ALoop.inv [0, 1, 2, 7] 0 (T := Nat) (fun t => ⟨⟨32, [(0, .raw (.string ⟨⟨[]⟩⟩)), (1, .c false [.d (.sl L.length 1 LD)]), (2, .raw (.int .i64 0)), (7, .raw (.int .i64 t))]⟩, [⟨0, []⟩], []⟩)
      (fun t => L.length - t) (fun t => t ≤ L.length ∧ (L.drop t).all (fun p => decide (p.length ≤ 300)) = L.all fun p => decide (p.length ≤ 300)) 0 ?_ ?_ (fun _ => rfl) (by kernel_rfl) ?_
    · simp -implicitDefEqProofs (maxSteps := 10000000) (disch := omega)
    · simp
    · rintro i ⟨hi, hu⟩
      simp -implicitDefEqProofs (maxSteps := 10000000) (disch := omega)
      refine boolK_both (fun h => ?_) (fun h => ?_) <;> simp at h
      · have hld := hLD2 i h
        have hx := hl _ (List.getElem_mem h)
        rw [List.drop_eq_getElem_cons h, List.all_cons] at hu
        simp -implicitDefEqProofs (maxSteps := 10000000) (disch := omega) [hld]
        refine boolK_both (fun h2 => ?_) (fun h2 => ?_) <;> simp at h2
        · simp -implicitDefEqProofs (maxSteps := 10000000) (disch := omega)
          refine Shows.scalar ?_
          unfold small6
          rw [← hu]
          have : ¬ L[i].length ≤ 300 := by omega
          simp [this]
        · simp -implicitDefEqProofs (maxSteps := 10000000) (disch := omega)
          exact ⟨i + 1, by simp, ⟨by omega, by rw [← hu]; simp; omega⟩, by omega⟩
      · have : i = L.length := by omega
        subst this
        simp -implicitDefEqProofs (maxSteps := 10000000) (disch := omega)
        refine Shows.scalar ?_
        unfold small6
        rw [← hu]
        simp; omega
end Go.Proofs.YtddngfpgeifffaaGreatDoor
end
