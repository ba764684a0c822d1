/- A part of the proof: G2, G3. -/
import Derived.Test.YtddngfpgeifffaaGreatDoorVlG1
import Derived.Test.YtddngfpgeifffaaGreatDoorVlB1x
set_option linter.unusedVariables false
set_option linter.unusedSimpArgs false
section
set_option maxRecDepth 20000
namespace Go.Proofs.YtddngfpgeifffaaGreatDoor
open Go Go.Proofs Go.Proofs.Vl

/-- Of short pieces there are no frames. -/
theorem t_pieces (L : List (List UInt8)) (a : Int) (hL : L.length ≤ 1000000000) (hl : ∀ p ∈ L, p.length < 768) :
    PSpec Tryz.prog 7 [dstrs L, dint .u32 a] [(false, [.raw (.slice none 0 0)])] := by
  refine PSpec.of_body Tryz.func7 rfl (by kernel_rfl) (Nat.le_of_ble_eq_true rfl) ?_
  obtain ⟨LD, hLD, hLD2⟩ : ∃ g : Nat → Nat → D, strs L = .sl L.length 1 g ∧ ∀ i (h : i < L.length), g i 0 = .raw (.string ⟨⟨L[i]⟩⟩) := ⟨_, rfl, fun i h => by simp [h]⟩
  simp -implicitDefEqProofs (maxSteps := 10000000) (disch := omega) [dint, dstrs, hLD]
  refine ACall.of_body Tryz.func18 rfl (by kernel_rfl) (Nat.le_of_ble_eq_true rfl) ?_
  simp -implicitDefEqProofs (maxSteps := 10000000) (disch := omega)
  refine AWP.trim [4, 5, 9] 4 ?_
  simp -implicitDefEqProofs (maxSteps := 10000000) (disch := omega)
  refine ARange.introE rfl rfl (by kernel_rfl) fun l cA cB hA hB => ?_
  simp -implicitDefEqProofs (maxSteps := 10000000) (disch := omega)
  refine ACall.of_body Tryz.func33 rfl (by kernel_rfl) (Nat.le_of_ble_eq_true rfl) ?_
  simp -implicitDefEqProofs (maxSteps := 10000000) (disch := omega)
  refine ALoop.inv [0, 1, 2, 9, 10, 11] 5 (T := Nat) (fun t => ⟨⟨51, [(0, V.c false [At.yld 4]), (1, V.c false [At.ref 1 0]), (2, V.c false [At.ref 2 0]), (9, V.c false [At.d (D.sl L.length 1 LD)]), (10, .raw (.int .i64 L.length)), (11, .raw (.int .i64 t))]⟩, [⟨16, [(4, V.c false [At.d (D.raw (.slice none 0 0))]), (5, V.c false [At.ref 0 0]), (9, V.c false [At.clo 3])]⟩, ⟨0, []⟩],
      [Ob.cells 26 [At.d (D.raw (.slice none 0 0))], Ob.cells 22 [At.d (D.sl L.length 1 LD)], Ob.cells 23 [At.d (D.raw (Value.int .u32 a))], Ob.clo (Fn.func 33) [] [(false, [At.ref 1 0]), (false, [At.ref 2 0])], Ob.lp l 16 [(4, V.c false [At.d (D.raw (.slice none 0 0))]), (5, V.c false [At.ref 0 0]), (9, V.c false [At.clo 3])] [10] cA cB false none]⟩)
    (fun t => L.length - t) (fun t => t ≤ L.length) 0 ?_ ?_ (fun _ => rfl) (by kernel_rfl) ?_
  · simp -implicitDefEqProofs (maxSteps := 10000000) (disch := omega)
  · exact Nat.zero_le _
  · rintro j hj
    simp -implicitDefEqProofs (maxSteps := 10000000) (disch := omega)
    refine boolK_both (fun h => ?_) (fun h => ?_) <;> simp at h
    · have hmem : L[j] ∈ L := List.getElem_mem h
      have hlen := hl _ hmem
      have hld := hLD2 j h
      simp -implicitDefEqProofs (maxSteps := 10000000) (disch := omega) [hld]
      generalize hpp : L[j] = p at *
      refine ALoop.inv [0, 1, 2, 5, 6, 9, 10, 11] 5 (T := Unit) (fun t => ⟨⟨51, [(0, V.c false [At.yld 4]), (1, V.c false [At.ref 1 0]), (2, V.c false [At.ref 2 0]), (5, .raw (.string ⟨⟨p⟩⟩)), (6, .raw (.int .i64 0)), (9, V.c false [At.d (D.sl L.length 1 LD)]), (10, .raw (.int .i64 L.length)), (11, .raw (.int .i64 j))]⟩, [⟨16, [(4, V.c false [At.d (D.raw (.slice none 0 0))]), (5, V.c false [At.ref 0 0]), (9, V.c false [At.clo 3])]⟩, ⟨0, []⟩],
          [Ob.cells 26 [At.d (D.raw (.slice none 0 0))], Ob.cells 22 [At.d (D.sl L.length 1 LD)], Ob.cells 23 [At.d (D.raw (Value.int .u32 a))], Ob.clo (Fn.func 33) [] [(false, [At.ref 1 0]), (false, [At.ref 2 0])], Ob.lp l 16 [(4, V.c false [At.d (D.raw (.slice none 0 0))]), (5, V.c false [At.ref 0 0]), (9, V.c false [At.clo 3])] [10] cA cB false none]⟩)
        (fun t => 0) (fun t => True) () ?_ ?_ (fun _ => rfl) (by kernel_rfl) ?_
      · simp -implicitDefEqProofs (maxSteps := 10000000) (disch := omega)
      · trivial
      · rintro - -
        simp -implicitDefEqProofs (maxSteps := 10000000) (disch := omega)
        exact ⟨j + 1, by simp, by omega, by omega⟩
    · have : j = L.length := by omega
      subst this
      simp -implicitDefEqProofs (maxSteps := 10000000) (disch := omega)
      exact Shows.data _ [(false, [.raw (.slice none 0 0)])]
end Go.Proofs.YtddngfpgeifffaaGreatDoor
end
section
set_option maxRecDepth 20000
namespace Go.Proofs.YtddngfpgeifffaaGreatDoor
open Go Go.Proofs Go.Proofs.Vl

/-- The input: the archive, the pieces' cells and ends. -/
def pieceIn (p : List UInt8) : List Int := if plainAt p 0 then [] else p.map symbolOf ++ [3]
def inputOf (a : Int) (L : List (List UInt8)) : List Int := a :: L.flatMap pieceIn
theorem pieceIn_len (p : List UInt8) : (pieceIn p).length ≤ p.length + 1 := by unfold pieceIn; split <;> simp
theorem ins_len {L : List (List UInt8)} (hl : ∀ p ∈ L, p.length ≤ 1000000) : ∀ {j}, (((L.take j).flatMap pieceIn)).length ≤ 1000001 * j
  | 0 => by simp
  | j + 1 => by
    rcases Nat.lt_or_ge j L.length with h | h
    · rw [List.take_succ_eq_append_getElem h, List.flatMap_append, List.length_append]
      simp only [List.flatMap_cons, List.flatMap_nil, List.append_nil]
      have h1 := ins_len (L := L) hl (j := j)
      have h2 := pieceIn_len L[j]
      have h3 := hl _ (List.getElem_mem h)
      omega
    · have h1 := ins_len (L := L) hl (j := j)
      rw [List.take_of_length_le (by omega)] at h1 ⊢
      omega

def inTo (a : Int) (L : List (List UInt8)) (j i : Nat) : List Int := inputOf a (L.take j) ++ ((L.getD j []).take i).map symbolOf
theorem inTo_zero (a : Int) (L : List (List UInt8)) (j : Nat) : inTo a L j 0 = inputOf a (L.take j) := by simp [inTo]
theorem inTo_len {a : Int} {L : List (List UInt8)} (hL : L.length ≤ 1000000) (hl : ∀ p ∈ L, p.length ≤ 1000000) {j i : Nat} (hj : j ≤ L.length) (hi : i ≤ 1000000) : (inTo a L j i).length ≤ 2000000000000 := by
  have := ins_len (L := L) hl (j := j)
  unfold inTo inputOf
  rw [List.length_append, List.length_cons, List.length_map, List.length_take]
  have : 1000001 * j ≤ 1000001 * 1000000 := Nat.mul_le_mul_left _ (by omega)
  omega
theorem inTo_add {a : Int} {L : List (List UInt8)} {j i : Nat} {p : List UInt8} (h : j < L.length) (hp : L[j] = p) (hi : i < p.length) : inTo a L j (i + 1) = inTo a L j i ++ [symbolOf p[i]] := by
  have e : L.getD j [] = p := by simp [h, hp]
  unfold inTo
  rw [e, List.take_succ_eq_append_getElem hi, List.map_append, List.append_assoc]
  rfl
theorem inTo_end {a : Int} {L : List (List UInt8)} {j : Nat} {p : List UInt8} (h : j < L.length) (hp : L[j] = p) (h3 : plainAt p 0 = false) : inTo a L j p.length ++ [3] = inTo a L (j + 1) 0 := by
  have e : L.getD j [] = p := by simp [h, hp]
  rw [inTo_zero]
  unfold inTo inputOf
  rw [e, List.take_length, List.take_succ_eq_append_getElem h, List.flatMap_append, hp]
  simp [pieceIn, h3]
theorem inTo_skip {a : Int} {L : List (List UInt8)} {j : Nat} {p : List UInt8} (h : j < L.length) (hp : L[j] = p) (h3 : plainAt p 0 = true) : inTo a L j 0 = inTo a L (j + 1) 0 := by
  rw [inTo_zero, inTo_zero]
  unfold inputOf
  rw [List.take_succ_eq_append_getElem h, List.flatMap_append, hp]
  simp [pieceIn, h3]

theorem t_input (L : List (List UInt8)) (a : Int) (hL : L.length ≤ 1000000) (hl : ∀ p ∈ L, p.length ≤ 1000000) :
    PSpec Tryz.prog 8 [dstrs L, dint .u32 a] [(false, [u32s (inputOf a L)])] := by
  refine PSpec.of_body Tryz.func8 rfl (by kernel_rfl) (Nat.le_of_ble_eq_true rfl) ?_
  obtain ⟨LD, hLD, hLD2⟩ : ∃ g : Nat → Nat → D, strs L = .sl L.length 1 g ∧ ∀ i (h : i < L.length), g i 0 = .raw (.string ⟨⟨L[i]⟩⟩) := ⟨_, rfl, fun i h => by simp [h]⟩
  simp -implicitDefEqProofs (maxSteps := 10000000) (disch := omega) [dint, dstrs, hLD]
  refine ALoop.inv [4, 5, 11, 12, 13] 1 (T := Nat × Nat × (Nat → Nat → D)) (fun t => ⟨⟨37, [(4, .raw (.slice none 0 0)), (5, .a (.row 0 t.2.1)), (11, V.c false [At.d (D.sl L.length 1 LD)]), (12, .raw (.int .i64 L.length)), (13, .raw (.int .i64 t.1))]⟩, [⟨0, []⟩], [.row 23 1 t.2.1 t.2.2 0]⟩)
    (fun t => L.length - t.1) (fun t => t.1 ≤ L.length ∧ NumsAt (inTo a L t.1 0) t.2.1 t.2.2) (0, 1, litRow [.d (.raw (.int .u32 a))] 1) ?_ ?_ (fun _ => rfl) (by kernel_rfl) ?_
  · simp -implicitDefEqProofs (maxSteps := 10000000) (disch := omega)
  · exact ⟨Nat.zero_le _, rfl, RowIs.lit (.raw (.int .u32 a))⟩
  · rintro ⟨j, n, get⟩ ⟨hj, hg⟩
    simp only at hj hg
    simp -implicitDefEqProofs (maxSteps := 10000000) (disch := omega)
    refine boolK_both (fun h => ?_) (fun h => ?_) <;> simp at h
    · have hmem : L[j] ∈ L := List.getElem_mem h
      have hlen := hl _ hmem
      have hld := hLD2 j h
      simp -implicitDefEqProofs (maxSteps := 10000000) (disch := omega) [hld]
      generalize hpp : L[j] = p at *
      refine (t_isPlain p 0 (by omega) (by omega)).use rfl ?_
      rw [show decide (0 + 16 ≤ p.length ∧ List.drop 0 (List.take (0 + 16) p) = plainMark) = plainAt p 0 from rfl]
      simp -implicitDefEqProofs (maxSteps := 10000000) (disch := omega) [dbool]
      refine boolK_both (fun h3 => ?_) (fun h3 => ?_)
      · simp -implicitDefEqProofs (maxSteps := 10000000) (disch := omega)
        refine ⟨j + 1, n, get, by simp, ⟨by omega, ?_⟩, by omega⟩
        rw [← inTo_skip h hpp h3]; exact hg
      · simp -implicitDefEqProofs (maxSteps := 10000000) (disch := omega)
        refine ALoop.inv [4, 5, 7, 11, 12, 13, 20, 21] 1 (T := Nat × Nat × (Nat → Nat → D)) (fun t => ⟨⟨37, [(4, .raw (.slice none 0 0)), (5, .a (.row 0 t.2.1)), (7, .raw (.string ⟨⟨p⟩⟩)), (11, V.c false [At.d (D.sl L.length 1 LD)]), (12, .raw (.int .i64 L.length)), (13, .raw (.int .i64 j)), (20, .raw (.int .i64 p.length)), (21, .raw (.int .i64 t.1))]⟩, [⟨0, []⟩], [.row 23 1 t.2.1 t.2.2 0]⟩)
          (fun t => p.length - t.1) (fun t => t.1 ≤ p.length ∧ NumsAt (inTo a L j t.1) t.2.1 t.2.2) (0, n, get) ?_ ?_ (fun _ => rfl) (by kernel_rfl) ?_
        · simp -implicitDefEqProofs (maxSteps := 10000000) (disch := omega)
        · exact ⟨Nat.zero_le _, hg⟩
        · rintro ⟨i, m, get2⟩ ⟨hi, hg2⟩
          simp only at hi hg2
          have hm := inTo_len (a := a) hL hl hj (i := i) (by omega)
          rw [← hg2.1] at hm
          simp -implicitDefEqProofs (maxSteps := 10000000) (disch := omega)
          refine boolK_both (fun h' => ?_) (fun h' => ?_) <;> simp at h'
          · simp -implicitDefEqProofs (maxSteps := 10000000) (disch := omega)
            refine (t_symbol p[i]).use rfl ?_
            simp -implicitDefEqProofs (maxSteps := 10000000) (disch := omega) [dint]
            refine ⟨i + 1, _, _, ⟨⟨rfl, by simp⟩, rfl, rfl⟩, ⟨by omega, ?_⟩, by omega⟩
            rw [inTo_add h hpp h']
            exact hg2.add _
          · have : i = p.length := by omega
            subst this
            simp -implicitDefEqProofs (maxSteps := 10000000) (disch := omega)
            refine ⟨j + 1, _, _, ⟨⟨rfl, by simp⟩, rfl, rfl⟩, ⟨by omega, ?_⟩, by omega⟩
            rw [← inTo_end h hpp h3]
            exact hg2.add 3
    · have : j = L.length := by omega
      subst this
      rw [inTo_zero, List.take_length] at hg
      simp -implicitDefEqProofs (maxSteps := 10000000) (disch := omega)
      exact Shows.one ⟨rfl, hg.show_row rfl, trivial⟩
end Go.Proofs.YtddngfpgeifffaaGreatDoor
end
