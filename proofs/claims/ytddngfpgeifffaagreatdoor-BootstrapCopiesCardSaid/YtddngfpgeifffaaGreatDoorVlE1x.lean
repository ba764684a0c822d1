/- A part of the proof: E1, E2. -/
import Derived.Test.YtddngfpgeifffaaGreatDoorVlN1
import Derived.Test.YtddngfpgeifffaaGreatDoorVlPure
set_option linter.unusedVariables false
set_option linter.unusedSimpArgs false
section
set_option maxRecDepth 20000
namespace Go.Proofs.YtddngfpgeifffaaGreatDoor
open Go Go.Proofs Go.Proofs.Vl

theorem padNum_length_le (n v : Nat) (hn : n < 1000) (hv : v < 18446744073709551616) : (padNum n v).length ≤ 1000 := by
  unfold padNum; rw [List.length_append, length_repeatL]; have := decDigits_le v hv; simp; omega
/-- A plain frame's text. -/
def plainS (a i t : Nat) (x : List UInt8) : List UInt8 := padNum 10 a ++ padNum 5 i ++ padNum 5 t ++ x
theorem plainS_len {a i t : Nat} {x : List UInt8} (ha : a < 4294967296) (hi : i < 100000) (ht : t < 100000) (hx : x.length = 64) : (plainS a i t x).length = 84 := by
  unfold plainS
  rw [List.length_append, List.length_append, List.length_append, padNum_len (n := 10) (by decide) (by omega), padNum_len (n := 5) (by decide) (by omega), padNum_len (n := 5) (by decide) (by omega), hx]
theorem sealS_len {l : List UInt8} : (sealS l).length = l.length + 10 := by
  obtain ⟨h1, h2⟩ := crc_range [l]
  unfold sealS
  rw [List.length_append, padNum_len (n := 10) (by decide) (by omega)]
def encodeS (a i t : Nat) (x : List UInt8) : List UInt8 := plainMark ++ cellsOf (sealS (plainS a i t x))
set_option maxHeartbeats 6400000 in
theorem t_encode (a i t : Nat) (x : List UInt8) (ha : a < 4294967296) (hp : plainErr i t x = 0) :
    PSpec Tryz.prog 22 [dplain a i t x] [dstr (encodeS a i t x), dint .i64 0] := by
  have hx : x.length = 64 ∧ i < 100000 ∧ t < 100000 := by
    unfold plainErr at hp
    split at hp
    · simp at hp
    · split at hp
      · simp at hp
      · omega
  refine PSpec.of_body Tryz.func22 rfl (by kernel_rfl) (Nat.le_of_ble_eq_true rfl) ?_
  simp -implicitDefEqProofs (maxSteps := 10000000) (disch := omega) [dplain, dint, dstr]
  refine (t_plainCheck a i t x (by omega)).use rfl ?_
  rw [hp]
  simp -implicitDefEqProofs (maxSteps := 10000000) (disch := omega) [dint]
  refine ACall.of_body Tryz.func37 rfl (by kernel_rfl) (Nat.le_of_ble_eq_true rfl) ?_
  simp -implicitDefEqProofs (maxSteps := 10000000) (disch := omega)
  refine ACall.of_body Tryz.func37 rfl (by kernel_rfl) (Nat.le_of_ble_eq_true rfl) ?_
  simp -implicitDefEqProofs (maxSteps := 10000000) (disch := omega)
  have hl1 := padNum_length_le 10 a (by decide) (by omega)
  have hl2 := padNum_length_le 5 i (by decide) (by omega)
  have hl3 := padNum_length_le 5 t (by decide) (by omega)
  refine ADraw.pure [.c false [.clo 2], .c false [.ref 0 0], .raw (.int .u32 a), .raw (.int .u64 a), .raw (.string ⟨⟨padNum 10 a⟩⟩), .c false [.clo 4], .c false [.ref 0 1], .raw (.int .i64 i), .raw (.int .u64 i), .raw (.string ⟨⟨padNum 5 i⟩⟩),
    .raw (.string ⟨⟨padNum 10 a ++ padNum 5 i⟩⟩), .c false [.clo 4], .c false [.ref 0 2], .raw (.int .i64 t), .raw (.int .u64 t), .raw (.string ⟨⟨padNum 5 t⟩⟩), .raw (.string ⟨⟨padNum 10 a ++ padNum 5 i ++ padNum 5 t⟩⟩), .c false [.ref 0 3],
    .raw (.string ⟨⟨x⟩⟩), .raw (.string ⟨⟨plainS a i t x⟩⟩), .raw (.string ⟨⟨plainS a i t x⟩⟩)] (by kernel_rfl) (by kernel_rfl) ?_ ?_
  · simp only [pureSteps_cons, pureSteps_nil, and_true]
    refine ⟨?_, ?_, ?_, ?_, ?_, ?_, ?_, ?_, ?_, ?_, ?_, ?_, ?_, ?_, ?_, ?_, ?_, ?_, ?_, ?_, ?_⟩
    all_goals intro tl h
    all_goals simp [opTmps, operTmps, Op.operands, Call.operands, expect] at h
    all_goals simp -implicitDefEqProofs (maxSteps := 10000000) (disch := omega) [h, plainS]
    · exact f58_call (id := 1) (n := 10) rfl (by omega) (by decide) rfl
    · exact f58_call (id := 3) (n := 5) rfl (by omega) (by decide) rfl
    · exact f58_call (id := 3) (n := 5) rfl (by omega) (by decide) rfl
  · intro tl h
    have h9 := h 9
    simp [expect] at h9
    clear h
    have hp1 : (plainS a i t x).length = 84 := plainS_len ha hx.2.1 hx.2.2 hx.1
    simp -implicitDefEqProofs (maxSteps := 10000000) (disch := omega) [h9]
    refine t_plainMark.use rfl ?_
    simp -implicitDefEqProofs (maxSteps := 10000000) (disch := omega) [h9, dstr]
    refine (t_seal _ (by omega)).use rfl ?_
    have hs1 : (sealS (plainS a i t x)).length = 94 := by rw [sealS_len, hp1]
    simp -implicitDefEqProofs (maxSteps := 10000000) (disch := omega) [dstr]
    refine (t_fromBytes _ (by omega)).use rfl ?_
    have hs2 : (cellsOf (sealS (plainS a i t x))).length = 752 := by rw [length_cellsOf, hs1]
    have hs3 : plainMark.length = 16 := rfl
    simp -implicitDefEqProofs (maxSteps := 10000000) (disch := omega) [dstr]
    exact Shows.data _ [dstr (encodeS a i t x), dint .i64 0]
end Go.Proofs.YtddngfpgeifffaaGreatDoor
end
section
set_option maxRecDepth 20000
namespace Go.Proofs.YtddngfpgeifffaaGreatDoor
open Go Go.Proofs Go.Proofs.Vl

theorem plain_ok {i t : Int} {x : List UInt8} (hp : plainErr i t x = 0) : x.length = 64 ∧ 0 ≤ i ∧ i < t ∧ t < 100000 ∧ x.all printableB = true := by
  unfold plainErr at hp
  split at hp
  · simp at hp
  · split at hp
    · simp at hp
    · rename_i h1 h2
      refine ⟨by omega, by omega, by omega, by omega, ?_⟩
      refine Classical.byContradiction fun h => h2 (.inr h)
theorem seal_parts {a i t : Nat} {x : List UInt8} (ha : a < 4294967296) (hi : i < 100000) (ht : t < 100000) (hx : x.length = 64) :
    (sealS (plainS a i t x)).take 84 = plainS a i t x ∧ (sealS (plainS a i t x)).take 10 = padNum 10 a ∧ ((sealS (plainS a i t x)).take 15).drop 10 = padNum 5 i ∧ ((sealS (plainS a i t x)).take 20).drop 15 = padNum 5 t ∧
    ((sealS (plainS a i t x)).take 84).drop 20 = x := by
  have h1 : (padNum 10 a).length = 10 := padNum_len (by decide) (by omega)
  have h2 : (padNum 5 i).length = 5 := padNum_len (by decide) (by omega)
  have h3 : (padNum 5 t).length = 5 := padNum_len (by decide) (by omega)
  have e1 : (sealS (plainS a i t x)).take 84 = plainS a i t x := by
    have := plainS_len ha hi ht hx
    unfold sealS
    rw [List.take_append_of_le_length (by omega), List.take_of_length_le (by omega)]
  generalize padNum 10 (crcSum [plainS a i t x]).toNat = z at *
  refine ⟨e1, ?_, ?_, ?_, ?_⟩
  · simp [sealS, plainS, List.take_append, h1]
  · simp [sealS, plainS, List.take_append, List.drop_append, h1, h2]
  · simp [sealS, plainS, List.take_append, List.drop_append, h1, h2, h3]
  · rw [e1]
    have e : (padNum 10 a ++ padNum 5 i ++ padNum 5 t).length = 20 := by rw [List.length_append, List.length_append, h1, h2, h3]
    unfold plainS
    rw [← e, List.drop_left]
set_option maxHeartbeats 6400000 in
theorem t_decode (a i t : Nat) (x : List UInt8) (ha : a < 4294967296) (hp : plainErr i t x = 0) :
    PSpec Tryz.prog 34 [dstr (cellsOf (sealS (plainS a i t x)))] [dplain a i t x, dint .i64 0] := by
  obtain ⟨hx, hi0, hit, ht, hpr⟩ := plain_ok hp
  have hp1 : (plainS a i t x).length = 84 := plainS_len ha (by omega) (by omega) hx
  have hs1 : (sealS (plainS a i t x)).length = 94 := by rw [sealS_len, hp1]
  have hs2 : (cellsOf (sealS (plainS a i t x))).length = 752 := by rw [length_cellsOf, hs1]
  refine PSpec.of_body Tryz.func34 rfl (by kernel_rfl) (Nat.le_of_ble_eq_true rfl) ?_
  simp -implicitDefEqProofs (maxSteps := 10000000) (disch := omega) [dplain, dint, dstr]
  refine (t_cellsCheck _ (by omega)).use rfl ?_
  rw [if_pos (cells_ok _)]
  simp -implicitDefEqProofs (maxSteps := 10000000) (disch := omega) [dint]
  refine (t_unreadable _).use rfl ?_
  rw [count_read]
  simp -implicitDefEqProofs (maxSteps := 10000000) (disch := omega) [dint]
  refine (t_toBytes _ (by omega) (by omega) (cells_ok _) (cells_read _)).use rfl ?_
  rw [bytes8_cellsOf]
  simp -implicitDefEqProofs (maxSteps := 10000000) (disch := omega) [dstr, dint]
  obtain ⟨e1, e2, e3, e4, e5⟩ := seal_parts (a := a) (i := i) (t := t) (x := x) ha (by omega) (by omega) hx
  generalize hS : sealS (plainS a i t x) = S at *
  rw [e1]
  refine (t_seal _ (by omega)).use rfl ?_
  rw [hS]
  simp -implicitDefEqProofs (maxSteps := 10000000) (disch := omega) [dstr]
  refine ACall.of_body Tryz.func37 rfl (by kernel_rfl) (Nat.le_of_ble_eq_true rfl) ?_
  simp -implicitDefEqProofs (maxSteps := 10000000) (disch := omega)
  refine ACall.of_body Tryz.func37 rfl (by kernel_rfl) (Nat.le_of_ble_eq_true rfl) ?_
  simp -implicitDefEqProofs (maxSteps := 10000000) (disch := omega) [e2]
  refine (t_parse (padNum 10 a) (by rw [padNum_len (by decide) (by omega)]; decide) a (fun _ => parse_padNum 10 a (by omega))).use rfl ?_
  rw [isDigits_of (padNum_digits 10 a), if_pos rfl]
  simp -implicitDefEqProofs (maxSteps := 10000000) (disch := omega) [dint, dbool, e3]
  refine (t_parse (padNum 5 i) (by rw [padNum_len (by decide) (by omega)]; decide) i (fun _ => parse_padNum 5 i (by omega))).use rfl ?_
  rw [isDigits_of (padNum_digits 5 i), if_pos rfl]
  simp -implicitDefEqProofs (maxSteps := 10000000) (disch := omega) [dint, dbool, e4]
  refine (t_parse (padNum 5 t) (by rw [padNum_len (by decide) (by omega)]; decide) t (fun _ => parse_padNum 5 t (by omega))).use rfl ?_
  rw [isDigits_of (padNum_digits 5 t), if_pos rfl]
  simp -implicitDefEqProofs (maxSteps := 10000000) (disch := omega) [dint, dbool, e5]
  refine (t_plainCheck a i t x (by omega)).use rfl ?_
  rw [hp]
  simp -implicitDefEqProofs (maxSteps := 10000000) (disch := omega) [dint]
  exact Shows.data _ [dplain a i t x, dint .i64 0]
end Go.Proofs.YtddngfpgeifffaaGreatDoor
end
