/- A part of the proof: F3. -/
import Derived.Test.YtddngfpgeifffaaGreatDoorVlF1x
set_option linter.unusedVariables false
set_option linter.unusedSimpArgs false
set_option maxRecDepth 20000
namespace Go.Proofs.YtddngfpgeifffaaGreatDoor
open Go Go.Proofs Go.Proofs.Vl

/-- The cells of frame k; a strip of four frames. -/
def frameS (a : Nat) (s : List UInt8) (k : Nat) : List UInt8 := encodeS a k (totalOf s) (chunk s k)
def stripS (a : Nat) (s : List UInt8) (g : Nat) : List UInt8 := (List.range (min 4 (totalOf s - 4 * g))).flatMap fun i => frameS a s (4 * g + i)
def stripsL (a : Nat) (s : List UInt8) : List (List UInt8) := (List.range ((totalOf s + 3) / 4)).map (stripS a s)
theorem chunk_len {s : List UInt8} {k : Nat} (hk : k < totalOf s) : (chunk s k).length = 64 := by
  have := padded_len s
  unfold chunk
  rw [List.length_drop, List.length_take]
  omega
theorem mem_padded {s : List UInt8} (hp : s.all printableB = true) : (padded s).all printableB = true := by
  unfold padded
  rw [List.all_append, hp, Bool.true_and, List.all_eq_true]
  intro b hb
  have := mem_repeatL hb
  rw [List.mem_singleton] at this
  subst this
  decide
theorem chunk_err {s : List UInt8} {k : Nat} (hs : s.length ≤ 40000) (hk : k < totalOf s) (hp : s.all printableB = true) : plainErr k (totalOf s) (chunk s k) = 0 := by
  have h1 := chunk_len hk
  have h2 : totalOf s ≤ 625 := by unfold totalOf; omega
  have h3 : (chunk s k).all printableB = true := by
    rw [List.all_eq_true]
    intro b hb
    exact List.all_eq_true.1 (mem_padded hp) b (List.mem_of_mem_take (List.mem_of_mem_drop hb))
  unfold plainErr
  rw [if_neg (by omega), if_neg (by rw [h3]; simp [h1])]
theorem encodeS_len {a i t : Nat} {x : List UInt8} (ha : a < 4294967296) (hi : i < 100000) (ht : t < 100000) (hx : x.length = 64) : (encodeS a i t x).length = 768 := by
  unfold encodeS
  rw [List.length_append, length_cellsOf, sealS_len, plainS_len ha hi ht hx]
  rfl
theorem frameS_len {a : Nat} {s : List UInt8} {k : Nat} (ha : a < 4294967296) (hs : s.length ≤ 40000) (hk : k < totalOf s) : (frameS a s k).length = 768 := by
  have h2 : totalOf s ≤ 625 := by unfold totalOf; omega
  exact encodeS_len ha (by omega) (by omega) (chunk_len hk)
theorem frames_len {a : Nat} {s : List UInt8} {g : Nat} (ha : a < 4294967296) (hs : s.length ≤ 40000) : ∀ {i : Nat}, 4 * g + i ≤ totalOf s → ((List.range i).flatMap fun i => frameS a s (4 * g + i)).length = 768 * i
  | 0, _ => rfl
  | i + 1, h => by
    rw [List.range_succ, List.flatMap_append, List.length_append, frames_len ha hs (by omega)]
    simp only [List.flatMap_cons, List.flatMap_nil, List.append_nil]
    rw [frameS_len ha hs (by omega)]
    omega
theorem stripS_len {a : Nat} {s : List UInt8} {g : Nat} (ha : a < 4294967296) (hs : s.length ≤ 40000) (hg : 4 * g < totalOf s) : (stripS a s g).length = 768 * min 4 (totalOf s - 4 * g) := frames_len ha hs (by omega)

set_option maxHeartbeats 6400000 in
theorem t_strips (s : List UInt8) (a : Nat) (ha : a < 4294967296) (hs : s.length ≤ 40000) :
    PSpec Tryz.prog 9 [dstr s, dint .u32 a] (if s.all printableB then [dstrs (stripsL a s), dint .i64 0] else [(false, [.raw (.slice none 0 0)]), dint .i64 3]) := by
  refine PSpec.of_body Tryz.func9 rfl (by kernel_rfl) (Nat.le_of_ble_eq_true rfl) ?_
  have h3 : totalOf s ≤ 625 := by unfold totalOf; omega
  simp -implicitDefEqProofs (maxSteps := 10000000) (disch := omega) [dstr, dint]
  refine (t_split s a hs).use rfl ?_
  by_cases h2 : s.all printableB = true
  · simp only [h2, if_true]
    simp -implicitDefEqProofs (maxSteps := 10000000) (disch := omega) [dint, framesD]
    refine (t_groups (totalOf s) (frameC a s) (by omega)).use rfl ?_
    simp -implicitDefEqProofs (maxSteps := 10000000) (disch := omega) [groupsD]
    obtain ⟨m, hm⟩ : ∃ m, m = (totalOf s + 3) / 4 := ⟨_, rfl⟩
    have hm1 : (totalOf s + 3) / 4 = m := hm.symm
    have hm2 : ((totalOf s : Int) + 3) / 4 = m := by omega
    simp only [hm1, hm2]
    obtain ⟨gr, hgr, hgr2⟩ : ∃ gr : Nat → Nat → D, (fun g (_ : Nat) => groupD (totalOf s) (frameC a s) g) = gr ∧ ∀ g, gr g 0 = groupD (totalOf s) (frameC a s) g := ⟨_, rfl, fun _ => rfl⟩
    rw [hgr]
    refine AWP.adopt 8 9 1 nilD (Nat.le_of_ble_eq_true rfl) rfl ?_
    refine ALoop.inv [4, 5, 8, 26, 27, 28] 1 (T := Nat × (Nat → Nat → D)) (fun t => ⟨⟨55, [(4, .raw (.slice none 0 0)), (5, .raw (.int .i64 0)), (8, .a (.row 0 t.1)), (26, .c false [.d (.sl m 1 gr)] ), (27, .raw (.int .i64 m)), (28, .raw (.int .i64 t.1))]⟩, [⟨0, []⟩], [.row 9 1 t.1 t.2 0]⟩)
      (fun t => m - t.1) (fun t => t.1 ≤ m ∧ ∀ k, k < t.1 → t.2 k 0 = .raw (.string ⟨⟨stripS a s k⟩⟩)) (0, nilD) ?_ ?_ (fun _ => rfl) (by kernel_rfl) ?_
    · simp -implicitDefEqProofs (maxSteps := 10000000) (disch := omega)
    · simp
    · rintro ⟨g, go⟩ ⟨hg, hv⟩
      simp only at hg hv
      simp -implicitDefEqProofs (maxSteps := 10000000) (disch := omega)
      refine boolK_both (fun h => ?_) (fun h => ?_) <;> simp at h
      · obtain ⟨q, hq⟩ : ∃ q, q = min 4 (totalOf s - 4 * g) := ⟨_, rfl⟩
        obtain ⟨fr, hfr, hfr2⟩ : ∃ fr : Nat → Nat → D, gr g 0 = .sl q 4 fr ∧ ∀ i j, fr i j = frameC a s (4 * g + i) j := ⟨_, by rw [hgr2, groupD, hq], fun _ _ => rfl⟩
        simp -implicitDefEqProofs (maxSteps := 10000000) (disch := omega) [hfr]
        refine AWP.adoptB 1 (e5 := 5) rfl ?_
        simp -implicitDefEqProofs (maxSteps := 10000000) (disch := omega)
        refine ALoop.inv [4, 5, 8, 11, 26, 27, 28, 32, 33, 34] 3 (T := Nat × Nat × (Nat → Nat → D)) (fun t => ⟨⟨55, [(4, .raw (.slice none 0 0)), (5, .raw (.int .i64 0)), (8, .a (.row 0 g)), (11, .a (.ref 1 0)), (26, .c false [.d (.sl m 1 gr)] ), (27, .raw (.int .i64 m)), (28, .raw (.int .i64 g)),
            (32, .c false [.d (.sl q 4 fr)]), (33, .raw (.int .i64 q)), (34, .raw (.int .i64 t.1))]⟩, [⟨0, []⟩], [.row 9 1 g go 0, .cells 64 [.mref 1 0, .row 2 t.2.1], .row 5 1 t.2.1 t.2.2 0]⟩)
          (fun t => q - t.1) (fun t => t.1 ≤ q ∧ t.2.1 = ((List.range t.1).flatMap fun i => frameS a s (4 * g + i)).length ∧ BytesG t.2.2 ((List.range t.1).flatMap fun i => frameS a s (4 * g + i))) (0, 0, nilD) ?_ ?_ (fun _ => rfl) (by kernel_rfl) ?_
        · simp -implicitDefEqProofs (maxSteps := 10000000) (disch := omega)
        · simp [BytesG.nil]
        · rintro ⟨i, n, get⟩ ⟨hi, hn, hu⟩
          simp only at hi hn hu
          have hn2 : n = 768 * i := by rw [hn]; exact frames_len ha hs (by omega)
          simp -implicitDefEqProofs (maxSteps := 10000000) (disch := omega)
          refine boolK_both (fun h' => ?_) (fun h' => ?_) <;> simp at h'
          · simp -implicitDefEqProofs (maxSteps := 10000000) (disch := omega) [hfr2, frameC]
            have hfl : (frameS a s (4 * g + i)).length = 768 := frameS_len ha hs (by omega)
            refine (t_encode a (4 * g + i) (totalOf s) (chunk s (4 * g + i)) ha (chunk_err hs (by omega) h2)).use (by simp [ups, up, dplain]) ?_
            rw [show encodeS a (4 * g + i) (totalOf s) (chunk s (4 * g + i)) = frameS a s (4 * g + i) from rfl]
            simp -implicitDefEqProofs (maxSteps := 10000000) (disch := omega) [dstr, dint]
            refine b_writeString (id := 1) (rid := 2) rfl rfl (by decide) (by omega) ?_
            simp -implicitDefEqProofs (maxSteps := 10000000) (disch := omega)
            have e := hu.str (frameS a s (4 * g + i))
            rw [← hn] at e
            refine ⟨i + 1, _, _, ⟨by omega, rfl, rfl⟩, ⟨by omega, ?_, ?_⟩, by omega⟩
            · simp [List.range_succ, hn]
            · simpa [List.range_succ] using e
          · have : i = q := by omega
            subst this
            simp -implicitDefEqProofs (maxSteps := 10000000) (disch := omega)
            have e : ((List.range i).flatMap fun i => frameS a s (4 * g + i)) = stripS a s g := by rw [stripS, hq]
            rw [e] at hn hu
            subst hn
            refine b_string (id := 1) (rid := 2) (l := stripS a s g) rfl rfl (by decide) (by omega) hu ?_
            simp -implicitDefEqProofs (maxSteps := 10000000) (disch := omega)
            refine ⟨g + 1, _, ⟨⟨rfl, by omega⟩, rfl, rfl⟩, ⟨by omega, fun k hk => ?_⟩, by omega⟩
            unfold catRow
            split
            · exact hv k ‹_›
            · have : k = g := by omega
              subst this
              simp [litRow, At.toD]
      · have : g = m := by omega
        subst this
        simp -implicitDefEqProofs (maxSteps := 10000000) (disch := omega)
        have hl : (stripsL a s).length = g := by rw [stripsL, List.length_map, List.length_range, hm1]
        have hl2 : strs (stripsL a s) = .sl g 1 fun i _ => .raw (.string ⟨⟨(stripsL a s).getD i []⟩⟩) := by rw [strs, hl]
        rw [dstrs, hl2]
        refine Shows.tup ⟨⟨rfl, AtShow.row rfl fun k hk j hj => .of_eq ?_, trivial⟩, ⟨rfl, AtShow.data (.refl _), trivial⟩, trivial⟩ (by simp)
        obtain rfl : j = 0 := by omega
        rw [hv k hk]
        have hk2 : k < (totalOf s + 3) / 4 := by omega
        simp [stripsL, hk2]
  · simp only [h2]
    simp -implicitDefEqProofs (maxSteps := 10000000) (disch := omega)
    exact Shows.data _ [(false, [.raw (.slice none 0 0)]), dint .i64 3]
end Go.Proofs.YtddngfpgeifffaaGreatDoor
