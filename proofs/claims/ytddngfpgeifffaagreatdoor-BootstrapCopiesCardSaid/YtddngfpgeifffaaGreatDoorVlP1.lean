/- A part of the proof: P1. -/
import Derived.Test.YtddngfpgeifffaaGreatDoorVlH3x
set_option linter.unusedVariables false
set_option linter.unusedSimpArgs false
set_option maxRecDepth 20000
namespace Go.Proofs.YtddngfpgeifffaaGreatDoor
open Go Go.Proofs Go.Proofs.Vl
/-- The program that copies its input. -/
def copyP : List UInt8 := [44, 57, 48, 48, 48, 33, 57, 48, 48, 48, 64, 52, 50, 57, 52, 57, 54, 55, 50, 57, 53, 60, 49, 48, 48, 52, 50, 63, 57, 48, 48, 48, 64, 46, 48, 32, 49, 48, 48, 48, 48, 63, 36]
def stC (mem : Nat → Int) (pc : Int) (data : List Int) (inp : List Int) (out : List UInt8) (dg : Bool) (s : Int) : MSt := ⟨mem, pc, data, [], inp, out, dg, s, false⟩
def CopyMem (mem : Nat → Int) : Prop := ∀ i, i < 43 → mem (10000 + i) = ((copyP.getD i 0).toNat : Int)
theorem runM_pos {f : Nat} (h : 0 < f) (m : MSt) : runM f m = if m.pc < 262144 then match execM (nextM m) (signM m) with
      | none => ⟨m.output, 12, m.steps + 1⟩
      | some m' => if m'.stopped = true then ⟨m'.output, 0, m'.steps⟩ else runM (f - 1) (digitOf m' (signM m))
    else ⟨m.output, 12, m.steps + 1⟩ := by
  obtain ⟨n, rfl⟩ : ∃ n, f = n + 1 := ⟨f - 1, by omega⟩
  rfl
def upd9 (mem : Nat → Int) (v : Int) : Nat → Int := fun i => if i = 9000 then v else mem i
theorem CopyMem.upd {mem : Nat → Int} (h : CopyMem mem) (v : Int) : CopyMem (upd9 mem v) := fun i hi => by unfold upd9; rw [if_neg (by omega)]; exact h i hi
set_option maxHeartbeats 6400000 in
theorem copy_step {mem : Nat → Int} {inp : List Int} {out : List UInt8} {s v : Int} {f : Nat} (hm : CopyMem mem) (hd : inp.headD 4294967295 = v) (hv : 0 ≤ v ∧ v < 4294967295) (hf : 43 ≤ f) : runM f (stC mem 10000 [] inp out false s) = runM (f - 42) (stC (upd9 mem v) 10000 [] inp.tail (out ++ [UInt8.ofNat v.toNat]) false (s + 42)) := by
  have h0 : mem 10000 = 44 := hm 0 (by decide)
  have h1 : mem 10001 = 57 := hm 1 (by decide)
  have h2 : mem 10002 = 48 := hm 2 (by decide)
  have h3 : mem 10003 = 48 := hm 3 (by decide)
  have h4 : mem 10004 = 48 := hm 4 (by decide)
  have h5 : mem 10005 = 33 := hm 5 (by decide)
  have h6 : mem 10006 = 57 := hm 6 (by decide)
  have h7 : mem 10007 = 48 := hm 7 (by decide)
  have h8 : mem 10008 = 48 := hm 8 (by decide)
  have h9 : mem 10009 = 48 := hm 9 (by decide)
  have h10 : mem 10010 = 64 := hm 10 (by decide)
  have h11 : mem 10011 = 52 := hm 11 (by decide)
  have h12 : mem 10012 = 50 := hm 12 (by decide)
  have h13 : mem 10013 = 57 := hm 13 (by decide)
  have h14 : mem 10014 = 52 := hm 14 (by decide)
  have h15 : mem 10015 = 57 := hm 15 (by decide)
  have h16 : mem 10016 = 54 := hm 16 (by decide)
  have h17 : mem 10017 = 55 := hm 17 (by decide)
  have h18 : mem 10018 = 50 := hm 18 (by decide)
  have h19 : mem 10019 = 57 := hm 19 (by decide)
  have h20 : mem 10020 = 53 := hm 20 (by decide)
  have h21 : mem 10021 = 60 := hm 21 (by decide)
  have h22 : mem 10022 = 49 := hm 22 (by decide)
  have h23 : mem 10023 = 48 := hm 23 (by decide)
  have h24 : mem 10024 = 48 := hm 24 (by decide)
  have h25 : mem 10025 = 52 := hm 25 (by decide)
  have h26 : mem 10026 = 50 := hm 26 (by decide)
  have h27 : mem 10027 = 63 := hm 27 (by decide)
  have h28 : mem 10028 = 57 := hm 28 (by decide)
  have h29 : mem 10029 = 48 := hm 29 (by decide)
  have h30 : mem 10030 = 48 := hm 30 (by decide)
  have h31 : mem 10031 = 48 := hm 31 (by decide)
  have h32 : mem 10032 = 64 := hm 32 (by decide)
  have h33 : mem 10033 = 46 := hm 33 (by decide)
  have h34 : mem 10034 = 48 := hm 34 (by decide)
  have h35 : mem 10035 = 32 := hm 35 (by decide)
  have h36 : mem 10036 = 49 := hm 36 (by decide)
  have h37 : mem 10037 = 48 := hm 37 (by decide)
  have h38 : mem 10038 = 48 := hm 38 (by decide)
  have h39 : mem 10039 = 48 := hm 39 (by decide)
  have h40 : mem 10040 = 48 := hm 40 (by decide)
  have h41 : mem 10041 = 63 := hm 41 (by decide)
  have h42 : mem 10042 = 36 := hm 42 (by decide)
  rw [List.headD_eq_head?_getD] at hd
  have e0 : runM (f - 0) (stC mem 10000 [] inp out false (s + 0)) = runM (f - 1) (stC mem 10001 [v] inp.tail out false (s + 1)) := by
    rw [runM_pos (by omega)]
    simp [stC, nextM, signM, digitOf, execM, withTop, pushed, digitV, otherM, binM, upd9, IntKind.wrap_u32, Nat.sub_sub, Int.add_assoc, h0, hd]
    all_goals first | done | omega | rfl | (refine ⟨?_, ?_⟩ <;> omega) | (congr 2; omega) | skip
  have e1 : runM (f - 1) (stC mem 10001 [v] inp.tail out false (s + 1)) = runM (f - 2) (stC mem 10002 [9, v] inp.tail out true (s + 2)) := by
    rw [runM_pos (by omega)]
    simp [stC, nextM, signM, digitOf, execM, withTop, pushed, digitV, otherM, binM, upd9, IntKind.wrap_u32, Nat.sub_sub, Int.add_assoc, h1, hd]
    all_goals first | done | omega | rfl | (refine ⟨?_, ?_⟩ <;> omega) | (congr 2; omega) | skip
  have e2 : runM (f - 2) (stC mem 10002 [9, v] inp.tail out true (s + 2)) = runM (f - 3) (stC mem 10003 [90, v] inp.tail out true (s + 3)) := by
    rw [runM_pos (by omega)]
    simp [stC, nextM, signM, digitOf, execM, withTop, pushed, digitV, otherM, binM, upd9, IntKind.wrap_u32, Nat.sub_sub, Int.add_assoc, h2, hd]
    all_goals first | done | omega | rfl | (refine ⟨?_, ?_⟩ <;> omega) | (congr 2; omega) | skip
  have e3 : runM (f - 3) (stC mem 10003 [90, v] inp.tail out true (s + 3)) = runM (f - 4) (stC mem 10004 [900, v] inp.tail out true (s + 4)) := by
    rw [runM_pos (by omega)]
    simp [stC, nextM, signM, digitOf, execM, withTop, pushed, digitV, otherM, binM, upd9, IntKind.wrap_u32, Nat.sub_sub, Int.add_assoc, h3, hd]
    all_goals first | done | omega | rfl | (refine ⟨?_, ?_⟩ <;> omega) | (congr 2; omega) | skip
  have e4 : runM (f - 4) (stC mem 10004 [900, v] inp.tail out true (s + 4)) = runM (f - 5) (stC mem 10005 [9000, v] inp.tail out true (s + 5)) := by
    rw [runM_pos (by omega)]
    simp [stC, nextM, signM, digitOf, execM, withTop, pushed, digitV, otherM, binM, upd9, IntKind.wrap_u32, Nat.sub_sub, Int.add_assoc, h4, hd]
    all_goals first | done | omega | rfl | (refine ⟨?_, ?_⟩ <;> omega) | (congr 2; omega) | skip
  have e5 : runM (f - 5) (stC mem 10005 [9000, v] inp.tail out true (s + 5)) = runM (f - 6) (stC (upd9 mem v) 10006 [] inp.tail out false (s + 6)) := by
    rw [runM_pos (by omega)]
    simp [stC, nextM, signM, digitOf, execM, withTop, pushed, digitV, otherM, binM, upd9, IntKind.wrap_u32, Nat.sub_sub, Int.add_assoc, h5, hd]
    all_goals first | done | omega | rfl | (refine ⟨?_, ?_⟩ <;> omega) | (congr 2; omega) | skip
  have e6 : runM (f - 6) (stC (upd9 mem v) 10006 [] inp.tail out false (s + 6)) = runM (f - 7) (stC (upd9 mem v) 10007 [9] inp.tail out true (s + 7)) := by
    rw [runM_pos (by omega)]
    simp [stC, nextM, signM, digitOf, execM, withTop, pushed, digitV, otherM, binM, upd9, IntKind.wrap_u32, Nat.sub_sub, Int.add_assoc, h6, hd]
    all_goals first | done | omega | rfl | (refine ⟨?_, ?_⟩ <;> omega) | (congr 2; omega) | skip
  have e7 : runM (f - 7) (stC (upd9 mem v) 10007 [9] inp.tail out true (s + 7)) = runM (f - 8) (stC (upd9 mem v) 10008 [90] inp.tail out true (s + 8)) := by
    rw [runM_pos (by omega)]
    simp [stC, nextM, signM, digitOf, execM, withTop, pushed, digitV, otherM, binM, upd9, IntKind.wrap_u32, Nat.sub_sub, Int.add_assoc, h7, hd]
    all_goals first | done | omega | rfl | (refine ⟨?_, ?_⟩ <;> omega) | (congr 2; omega) | skip
  have e8 : runM (f - 8) (stC (upd9 mem v) 10008 [90] inp.tail out true (s + 8)) = runM (f - 9) (stC (upd9 mem v) 10009 [900] inp.tail out true (s + 9)) := by
    rw [runM_pos (by omega)]
    simp [stC, nextM, signM, digitOf, execM, withTop, pushed, digitV, otherM, binM, upd9, IntKind.wrap_u32, Nat.sub_sub, Int.add_assoc, h8, hd]
    all_goals first | done | omega | rfl | (refine ⟨?_, ?_⟩ <;> omega) | (congr 2; omega) | skip
  have e9 : runM (f - 9) (stC (upd9 mem v) 10009 [900] inp.tail out true (s + 9)) = runM (f - 10) (stC (upd9 mem v) 10010 [9000] inp.tail out true (s + 10)) := by
    rw [runM_pos (by omega)]
    simp [stC, nextM, signM, digitOf, execM, withTop, pushed, digitV, otherM, binM, upd9, IntKind.wrap_u32, Nat.sub_sub, Int.add_assoc, h9, hd]
    all_goals first | done | omega | rfl | (refine ⟨?_, ?_⟩ <;> omega) | (congr 2; omega) | skip
  have e10 : runM (f - 10) (stC (upd9 mem v) 10010 [9000] inp.tail out true (s + 10)) = runM (f - 11) (stC (upd9 mem v) 10011 [v] inp.tail out false (s + 11)) := by
    rw [runM_pos (by omega)]
    simp [stC, nextM, signM, digitOf, execM, withTop, pushed, digitV, otherM, binM, upd9, IntKind.wrap_u32, Nat.sub_sub, Int.add_assoc, h10, hd]
    all_goals first | done | omega | rfl | (refine ⟨?_, ?_⟩ <;> omega) | (congr 2; omega) | skip
  have e11 : runM (f - 11) (stC (upd9 mem v) 10011 [v] inp.tail out false (s + 11)) = runM (f - 12) (stC (upd9 mem v) 10012 [4, v] inp.tail out true (s + 12)) := by
    rw [runM_pos (by omega)]
    simp [stC, nextM, signM, digitOf, execM, withTop, pushed, digitV, otherM, binM, upd9, IntKind.wrap_u32, Nat.sub_sub, Int.add_assoc, h11, hd]
    all_goals first | done | omega | rfl | (refine ⟨?_, ?_⟩ <;> omega) | (congr 2; omega) | skip
  have e12 : runM (f - 12) (stC (upd9 mem v) 10012 [4, v] inp.tail out true (s + 12)) = runM (f - 13) (stC (upd9 mem v) 10013 [42, v] inp.tail out true (s + 13)) := by
    rw [runM_pos (by omega)]
    simp [stC, nextM, signM, digitOf, execM, withTop, pushed, digitV, otherM, binM, upd9, IntKind.wrap_u32, Nat.sub_sub, Int.add_assoc, h12, hd]
    all_goals first | done | omega | rfl | (refine ⟨?_, ?_⟩ <;> omega) | (congr 2; omega) | skip
  have e13 : runM (f - 13) (stC (upd9 mem v) 10013 [42, v] inp.tail out true (s + 13)) = runM (f - 14) (stC (upd9 mem v) 10014 [429, v] inp.tail out true (s + 14)) := by
    rw [runM_pos (by omega)]
    simp [stC, nextM, signM, digitOf, execM, withTop, pushed, digitV, otherM, binM, upd9, IntKind.wrap_u32, Nat.sub_sub, Int.add_assoc, h13, hd]
    all_goals first | done | omega | rfl | (refine ⟨?_, ?_⟩ <;> omega) | (congr 2; omega) | skip
  have e14 : runM (f - 14) (stC (upd9 mem v) 10014 [429, v] inp.tail out true (s + 14)) = runM (f - 15) (stC (upd9 mem v) 10015 [4294, v] inp.tail out true (s + 15)) := by
    rw [runM_pos (by omega)]
    simp [stC, nextM, signM, digitOf, execM, withTop, pushed, digitV, otherM, binM, upd9, IntKind.wrap_u32, Nat.sub_sub, Int.add_assoc, h14, hd]
    all_goals first | done | omega | rfl | (refine ⟨?_, ?_⟩ <;> omega) | (congr 2; omega) | skip
  have e15 : runM (f - 15) (stC (upd9 mem v) 10015 [4294, v] inp.tail out true (s + 15)) = runM (f - 16) (stC (upd9 mem v) 10016 [42949, v] inp.tail out true (s + 16)) := by
    rw [runM_pos (by omega)]
    simp [stC, nextM, signM, digitOf, execM, withTop, pushed, digitV, otherM, binM, upd9, IntKind.wrap_u32, Nat.sub_sub, Int.add_assoc, h15, hd]
    all_goals first | done | omega | rfl | (refine ⟨?_, ?_⟩ <;> omega) | (congr 2; omega) | skip
  have e16 : runM (f - 16) (stC (upd9 mem v) 10016 [42949, v] inp.tail out true (s + 16)) = runM (f - 17) (stC (upd9 mem v) 10017 [429496, v] inp.tail out true (s + 17)) := by
    rw [runM_pos (by omega)]
    simp [stC, nextM, signM, digitOf, execM, withTop, pushed, digitV, otherM, binM, upd9, IntKind.wrap_u32, Nat.sub_sub, Int.add_assoc, h16, hd]
    all_goals first | done | omega | rfl | (refine ⟨?_, ?_⟩ <;> omega) | (congr 2; omega) | skip
  have e17 : runM (f - 17) (stC (upd9 mem v) 10017 [429496, v] inp.tail out true (s + 17)) = runM (f - 18) (stC (upd9 mem v) 10018 [4294967, v] inp.tail out true (s + 18)) := by
    rw [runM_pos (by omega)]
    simp [stC, nextM, signM, digitOf, execM, withTop, pushed, digitV, otherM, binM, upd9, IntKind.wrap_u32, Nat.sub_sub, Int.add_assoc, h17, hd]
    all_goals first | done | omega | rfl | (refine ⟨?_, ?_⟩ <;> omega) | (congr 2; omega) | skip
  have e18 : runM (f - 18) (stC (upd9 mem v) 10018 [4294967, v] inp.tail out true (s + 18)) = runM (f - 19) (stC (upd9 mem v) 10019 [42949672, v] inp.tail out true (s + 19)) := by
    rw [runM_pos (by omega)]
    simp [stC, nextM, signM, digitOf, execM, withTop, pushed, digitV, otherM, binM, upd9, IntKind.wrap_u32, Nat.sub_sub, Int.add_assoc, h18, hd]
    all_goals first | done | omega | rfl | (refine ⟨?_, ?_⟩ <;> omega) | (congr 2; omega) | skip
  have e19 : runM (f - 19) (stC (upd9 mem v) 10019 [42949672, v] inp.tail out true (s + 19)) = runM (f - 20) (stC (upd9 mem v) 10020 [429496729, v] inp.tail out true (s + 20)) := by
    rw [runM_pos (by omega)]
    simp [stC, nextM, signM, digitOf, execM, withTop, pushed, digitV, otherM, binM, upd9, IntKind.wrap_u32, Nat.sub_sub, Int.add_assoc, h19, hd]
    all_goals first | done | omega | rfl | (refine ⟨?_, ?_⟩ <;> omega) | (congr 2; omega) | skip
  have e20 : runM (f - 20) (stC (upd9 mem v) 10020 [429496729, v] inp.tail out true (s + 20)) = runM (f - 21) (stC (upd9 mem v) 10021 [4294967295, v] inp.tail out true (s + 21)) := by
    rw [runM_pos (by omega)]
    simp [stC, nextM, signM, digitOf, execM, withTop, pushed, digitV, otherM, binM, upd9, IntKind.wrap_u32, Nat.sub_sub, Int.add_assoc, h20, hd]
    all_goals first | done | omega | rfl | (refine ⟨?_, ?_⟩ <;> omega) | (congr 2; omega) | skip
  have e21 : runM (f - 21) (stC (upd9 mem v) 10021 [4294967295, v] inp.tail out true (s + 21)) = runM (f - 22) (stC (upd9 mem v) 10022 [1] inp.tail out false (s + 22)) := by
    rw [runM_pos (by omega)]
    simp [stC, nextM, signM, digitOf, execM, withTop, pushed, digitV, otherM, binM, upd9, IntKind.wrap_u32, Nat.sub_sub, Int.add_assoc, h21, hd, hv]
    all_goals first | done | omega | rfl | (refine ⟨?_, ?_⟩ <;> omega) | (congr 2; omega) | skip
  have e22 : runM (f - 22) (stC (upd9 mem v) 10022 [1] inp.tail out false (s + 22)) = runM (f - 23) (stC (upd9 mem v) 10023 [1, 1] inp.tail out true (s + 23)) := by
    rw [runM_pos (by omega)]
    simp [stC, nextM, signM, digitOf, execM, withTop, pushed, digitV, otherM, binM, upd9, IntKind.wrap_u32, Nat.sub_sub, Int.add_assoc, h22, hd]
    all_goals first | done | omega | rfl | (refine ⟨?_, ?_⟩ <;> omega) | (congr 2; omega) | skip
  have e23 : runM (f - 23) (stC (upd9 mem v) 10023 [1, 1] inp.tail out true (s + 23)) = runM (f - 24) (stC (upd9 mem v) 10024 [10, 1] inp.tail out true (s + 24)) := by
    rw [runM_pos (by omega)]
    simp [stC, nextM, signM, digitOf, execM, withTop, pushed, digitV, otherM, binM, upd9, IntKind.wrap_u32, Nat.sub_sub, Int.add_assoc, h23, hd]
    all_goals first | done | omega | rfl | (refine ⟨?_, ?_⟩ <;> omega) | (congr 2; omega) | skip
  have e24 : runM (f - 24) (stC (upd9 mem v) 10024 [10, 1] inp.tail out true (s + 24)) = runM (f - 25) (stC (upd9 mem v) 10025 [100, 1] inp.tail out true (s + 25)) := by
    rw [runM_pos (by omega)]
    simp [stC, nextM, signM, digitOf, execM, withTop, pushed, digitV, otherM, binM, upd9, IntKind.wrap_u32, Nat.sub_sub, Int.add_assoc, h24, hd]
    all_goals first | done | omega | rfl | (refine ⟨?_, ?_⟩ <;> omega) | (congr 2; omega) | skip
  have e25 : runM (f - 25) (stC (upd9 mem v) 10025 [100, 1] inp.tail out true (s + 25)) = runM (f - 26) (stC (upd9 mem v) 10026 [1004, 1] inp.tail out true (s + 26)) := by
    rw [runM_pos (by omega)]
    simp [stC, nextM, signM, digitOf, execM, withTop, pushed, digitV, otherM, binM, upd9, IntKind.wrap_u32, Nat.sub_sub, Int.add_assoc, h25, hd]
    all_goals first | done | omega | rfl | (refine ⟨?_, ?_⟩ <;> omega) | (congr 2; omega) | skip
  have e26 : runM (f - 26) (stC (upd9 mem v) 10026 [1004, 1] inp.tail out true (s + 26)) = runM (f - 27) (stC (upd9 mem v) 10027 [10042, 1] inp.tail out true (s + 27)) := by
    rw [runM_pos (by omega)]
    simp [stC, nextM, signM, digitOf, execM, withTop, pushed, digitV, otherM, binM, upd9, IntKind.wrap_u32, Nat.sub_sub, Int.add_assoc, h26, hd]
    all_goals first | done | omega | rfl | (refine ⟨?_, ?_⟩ <;> omega) | (congr 2; omega) | skip
  have e27 : runM (f - 27) (stC (upd9 mem v) 10027 [10042, 1] inp.tail out true (s + 27)) = runM (f - 28) (stC (upd9 mem v) 10028 [] inp.tail out false (s + 28)) := by
    rw [runM_pos (by omega)]
    simp [stC, nextM, signM, digitOf, execM, withTop, pushed, digitV, otherM, binM, upd9, IntKind.wrap_u32, Nat.sub_sub, Int.add_assoc, h27, hd, hv]
    all_goals first | done | omega | rfl | (refine ⟨?_, ?_⟩ <;> omega) | (congr 2; omega) | skip
  have e28 : runM (f - 28) (stC (upd9 mem v) 10028 [] inp.tail out false (s + 28)) = runM (f - 29) (stC (upd9 mem v) 10029 [9] inp.tail out true (s + 29)) := by
    rw [runM_pos (by omega)]
    simp [stC, nextM, signM, digitOf, execM, withTop, pushed, digitV, otherM, binM, upd9, IntKind.wrap_u32, Nat.sub_sub, Int.add_assoc, h28, hd]
    all_goals first | done | omega | rfl | (refine ⟨?_, ?_⟩ <;> omega) | (congr 2; omega) | skip
  have e29 : runM (f - 29) (stC (upd9 mem v) 10029 [9] inp.tail out true (s + 29)) = runM (f - 30) (stC (upd9 mem v) 10030 [90] inp.tail out true (s + 30)) := by
    rw [runM_pos (by omega)]
    simp [stC, nextM, signM, digitOf, execM, withTop, pushed, digitV, otherM, binM, upd9, IntKind.wrap_u32, Nat.sub_sub, Int.add_assoc, h29, hd]
    all_goals first | done | omega | rfl | (refine ⟨?_, ?_⟩ <;> omega) | (congr 2; omega) | skip
  have e30 : runM (f - 30) (stC (upd9 mem v) 10030 [90] inp.tail out true (s + 30)) = runM (f - 31) (stC (upd9 mem v) 10031 [900] inp.tail out true (s + 31)) := by
    rw [runM_pos (by omega)]
    simp [stC, nextM, signM, digitOf, execM, withTop, pushed, digitV, otherM, binM, upd9, IntKind.wrap_u32, Nat.sub_sub, Int.add_assoc, h30, hd]
    all_goals first | done | omega | rfl | (refine ⟨?_, ?_⟩ <;> omega) | (congr 2; omega) | skip
  have e31 : runM (f - 31) (stC (upd9 mem v) 10031 [900] inp.tail out true (s + 31)) = runM (f - 32) (stC (upd9 mem v) 10032 [9000] inp.tail out true (s + 32)) := by
    rw [runM_pos (by omega)]
    simp [stC, nextM, signM, digitOf, execM, withTop, pushed, digitV, otherM, binM, upd9, IntKind.wrap_u32, Nat.sub_sub, Int.add_assoc, h31, hd]
    all_goals first | done | omega | rfl | (refine ⟨?_, ?_⟩ <;> omega) | (congr 2; omega) | skip
  have e32 : runM (f - 32) (stC (upd9 mem v) 10032 [9000] inp.tail out true (s + 32)) = runM (f - 33) (stC (upd9 mem v) 10033 [v] inp.tail out false (s + 33)) := by
    rw [runM_pos (by omega)]
    simp [stC, nextM, signM, digitOf, execM, withTop, pushed, digitV, otherM, binM, upd9, IntKind.wrap_u32, Nat.sub_sub, Int.add_assoc, h32, hd]
    all_goals first | done | omega | rfl | (refine ⟨?_, ?_⟩ <;> omega) | (congr 2; omega) | skip
  have e33 : runM (f - 33) (stC (upd9 mem v) 10033 [v] inp.tail out false (s + 33)) = runM (f - 34) (stC (upd9 mem v) 10034 [] inp.tail (out ++ [UInt8.ofNat v.toNat]) false (s + 34)) := by
    rw [runM_pos (by omega)]
    simp [stC, nextM, signM, digitOf, execM, withTop, pushed, digitV, otherM, binM, upd9, IntKind.wrap_u32, Nat.sub_sub, Int.add_assoc, h33, hd]
    all_goals first | done | omega | rfl | (refine ⟨?_, ?_⟩ <;> omega) | (congr 2; omega) | skip
  have e34 : runM (f - 34) (stC (upd9 mem v) 10034 [] inp.tail (out ++ [UInt8.ofNat v.toNat]) false (s + 34)) = runM (f - 35) (stC (upd9 mem v) 10035 [0] inp.tail (out ++ [UInt8.ofNat v.toNat]) true (s + 35)) := by
    rw [runM_pos (by omega)]
    simp [stC, nextM, signM, digitOf, execM, withTop, pushed, digitV, otherM, binM, upd9, IntKind.wrap_u32, Nat.sub_sub, Int.add_assoc, h34, hd]
    all_goals first | done | omega | rfl | (refine ⟨?_, ?_⟩ <;> omega) | (congr 2; omega) | skip
  have e35 : runM (f - 35) (stC (upd9 mem v) 10035 [0] inp.tail (out ++ [UInt8.ofNat v.toNat]) true (s + 35)) = runM (f - 36) (stC (upd9 mem v) 10036 [0] inp.tail (out ++ [UInt8.ofNat v.toNat]) false (s + 36)) := by
    rw [runM_pos (by omega)]
    simp [stC, nextM, signM, digitOf, execM, withTop, pushed, digitV, otherM, binM, upd9, IntKind.wrap_u32, Nat.sub_sub, Int.add_assoc, h35, hd]
    all_goals first | done | omega | rfl | (refine ⟨?_, ?_⟩ <;> omega) | (congr 2; omega) | skip
  have e36 : runM (f - 36) (stC (upd9 mem v) 10036 [0] inp.tail (out ++ [UInt8.ofNat v.toNat]) false (s + 36)) = runM (f - 37) (stC (upd9 mem v) 10037 [1, 0] inp.tail (out ++ [UInt8.ofNat v.toNat]) true (s + 37)) := by
    rw [runM_pos (by omega)]
    simp [stC, nextM, signM, digitOf, execM, withTop, pushed, digitV, otherM, binM, upd9, IntKind.wrap_u32, Nat.sub_sub, Int.add_assoc, h36, hd]
    all_goals first | done | omega | rfl | (refine ⟨?_, ?_⟩ <;> omega) | (congr 2; omega) | skip
  have e37 : runM (f - 37) (stC (upd9 mem v) 10037 [1, 0] inp.tail (out ++ [UInt8.ofNat v.toNat]) true (s + 37)) = runM (f - 38) (stC (upd9 mem v) 10038 [10, 0] inp.tail (out ++ [UInt8.ofNat v.toNat]) true (s + 38)) := by
    rw [runM_pos (by omega)]
    simp [stC, nextM, signM, digitOf, execM, withTop, pushed, digitV, otherM, binM, upd9, IntKind.wrap_u32, Nat.sub_sub, Int.add_assoc, h37, hd]
    all_goals first | done | omega | rfl | (refine ⟨?_, ?_⟩ <;> omega) | (congr 2; omega) | skip
  have e38 : runM (f - 38) (stC (upd9 mem v) 10038 [10, 0] inp.tail (out ++ [UInt8.ofNat v.toNat]) true (s + 38)) = runM (f - 39) (stC (upd9 mem v) 10039 [100, 0] inp.tail (out ++ [UInt8.ofNat v.toNat]) true (s + 39)) := by
    rw [runM_pos (by omega)]
    simp [stC, nextM, signM, digitOf, execM, withTop, pushed, digitV, otherM, binM, upd9, IntKind.wrap_u32, Nat.sub_sub, Int.add_assoc, h38, hd]
    all_goals first | done | omega | rfl | (refine ⟨?_, ?_⟩ <;> omega) | (congr 2; omega) | skip
  have e39 : runM (f - 39) (stC (upd9 mem v) 10039 [100, 0] inp.tail (out ++ [UInt8.ofNat v.toNat]) true (s + 39)) = runM (f - 40) (stC (upd9 mem v) 10040 [1000, 0] inp.tail (out ++ [UInt8.ofNat v.toNat]) true (s + 40)) := by
    rw [runM_pos (by omega)]
    simp [stC, nextM, signM, digitOf, execM, withTop, pushed, digitV, otherM, binM, upd9, IntKind.wrap_u32, Nat.sub_sub, Int.add_assoc, h39, hd]
    all_goals first | done | omega | rfl | (refine ⟨?_, ?_⟩ <;> omega) | (congr 2; omega) | skip
  have e40 : runM (f - 40) (stC (upd9 mem v) 10040 [1000, 0] inp.tail (out ++ [UInt8.ofNat v.toNat]) true (s + 40)) = runM (f - 41) (stC (upd9 mem v) 10041 [10000, 0] inp.tail (out ++ [UInt8.ofNat v.toNat]) true (s + 41)) := by
    rw [runM_pos (by omega)]
    simp [stC, nextM, signM, digitOf, execM, withTop, pushed, digitV, otherM, binM, upd9, IntKind.wrap_u32, Nat.sub_sub, Int.add_assoc, h40, hd]
    all_goals first | done | omega | rfl | (refine ⟨?_, ?_⟩ <;> omega) | (congr 2; omega) | skip
  have e41 : runM (f - 41) (stC (upd9 mem v) 10041 [10000, 0] inp.tail (out ++ [UInt8.ofNat v.toNat]) true (s + 41)) = runM (f - 42) (stC (upd9 mem v) 10000 [] inp.tail (out ++ [UInt8.ofNat v.toNat]) false (s + 42)) := by
    rw [runM_pos (by omega)]
    simp [stC, nextM, signM, digitOf, execM, withTop, pushed, digitV, otherM, binM, upd9, IntKind.wrap_u32, Nat.sub_sub, Int.add_assoc, h41, hd, hv]
    all_goals first | done | omega | rfl | (refine ⟨?_, ?_⟩ <;> omega) | (congr 2; omega) | skip
  have e : runM f (stC mem 10000 [] inp out false s) = runM (f - 0) (stC mem 10000 [] inp out false (s + 0)) := by simp
  rw [e, e0, e1, e2, e3, e4, e5, e6, e7, e8, e9, e10, e11, e12, e13, e14, e15, e16, e17, e18, e19, e20, e21, e22, e23, e24, e25, e26, e27, e28, e29, e30, e31, e32, e33, e34, e35, e36, e37, e38, e39, e40, e41]
set_option maxHeartbeats 6400000 in
theorem copy_end {mem : Nat → Int} {inp : List Int} {out : List UInt8} {s v : Int} {f : Nat} (hm : CopyMem mem) (hd : inp.headD 4294967295 = v) (hv : v = 4294967295) (hf : 29 ≤ f) : runM f (stC mem 10000 [] inp out false s) = ⟨out, 0, s + 29⟩ := by
  have h0 : mem 10000 = 44 := hm 0 (by decide)
  have h1 : mem 10001 = 57 := hm 1 (by decide)
  have h2 : mem 10002 = 48 := hm 2 (by decide)
  have h3 : mem 10003 = 48 := hm 3 (by decide)
  have h4 : mem 10004 = 48 := hm 4 (by decide)
  have h5 : mem 10005 = 33 := hm 5 (by decide)
  have h6 : mem 10006 = 57 := hm 6 (by decide)
  have h7 : mem 10007 = 48 := hm 7 (by decide)
  have h8 : mem 10008 = 48 := hm 8 (by decide)
  have h9 : mem 10009 = 48 := hm 9 (by decide)
  have h10 : mem 10010 = 64 := hm 10 (by decide)
  have h11 : mem 10011 = 52 := hm 11 (by decide)
  have h12 : mem 10012 = 50 := hm 12 (by decide)
  have h13 : mem 10013 = 57 := hm 13 (by decide)
  have h14 : mem 10014 = 52 := hm 14 (by decide)
  have h15 : mem 10015 = 57 := hm 15 (by decide)
  have h16 : mem 10016 = 54 := hm 16 (by decide)
  have h17 : mem 10017 = 55 := hm 17 (by decide)
  have h18 : mem 10018 = 50 := hm 18 (by decide)
  have h19 : mem 10019 = 57 := hm 19 (by decide)
  have h20 : mem 10020 = 53 := hm 20 (by decide)
  have h21 : mem 10021 = 60 := hm 21 (by decide)
  have h22 : mem 10022 = 49 := hm 22 (by decide)
  have h23 : mem 10023 = 48 := hm 23 (by decide)
  have h24 : mem 10024 = 48 := hm 24 (by decide)
  have h25 : mem 10025 = 52 := hm 25 (by decide)
  have h26 : mem 10026 = 50 := hm 26 (by decide)
  have h27 : mem 10027 = 63 := hm 27 (by decide)
  have h28 : mem 10028 = 57 := hm 28 (by decide)
  have h29 : mem 10029 = 48 := hm 29 (by decide)
  have h30 : mem 10030 = 48 := hm 30 (by decide)
  have h31 : mem 10031 = 48 := hm 31 (by decide)
  have h32 : mem 10032 = 64 := hm 32 (by decide)
  have h33 : mem 10033 = 46 := hm 33 (by decide)
  have h34 : mem 10034 = 48 := hm 34 (by decide)
  have h35 : mem 10035 = 32 := hm 35 (by decide)
  have h36 : mem 10036 = 49 := hm 36 (by decide)
  have h37 : mem 10037 = 48 := hm 37 (by decide)
  have h38 : mem 10038 = 48 := hm 38 (by decide)
  have h39 : mem 10039 = 48 := hm 39 (by decide)
  have h40 : mem 10040 = 48 := hm 40 (by decide)
  have h41 : mem 10041 = 63 := hm 41 (by decide)
  have h42 : mem 10042 = 36 := hm 42 (by decide)
  rw [List.headD_eq_head?_getD] at hd
  subst hv
  have e0 : runM (f - 0) (stC mem 10000 [] inp out false (s + 0)) = runM (f - 1) (stC mem 10001 [4294967295] inp.tail out false (s + 1)) := by
    rw [runM_pos (by omega)]
    simp [stC, nextM, signM, digitOf, execM, withTop, pushed, digitV, otherM, binM, upd9, IntKind.wrap_u32, Nat.sub_sub, Int.add_assoc, h0, hd]
    all_goals first | done | omega | rfl | (refine ⟨?_, ?_⟩ <;> omega) | (congr 2; omega) | skip
  have e1 : runM (f - 1) (stC mem 10001 [4294967295] inp.tail out false (s + 1)) = runM (f - 2) (stC mem 10002 [9, 4294967295] inp.tail out true (s + 2)) := by
    rw [runM_pos (by omega)]
    simp [stC, nextM, signM, digitOf, execM, withTop, pushed, digitV, otherM, binM, upd9, IntKind.wrap_u32, Nat.sub_sub, Int.add_assoc, h1, hd]
    all_goals first | done | omega | rfl | (refine ⟨?_, ?_⟩ <;> omega) | (congr 2; omega) | skip
  have e2 : runM (f - 2) (stC mem 10002 [9, 4294967295] inp.tail out true (s + 2)) = runM (f - 3) (stC mem 10003 [90, 4294967295] inp.tail out true (s + 3)) := by
    rw [runM_pos (by omega)]
    simp [stC, nextM, signM, digitOf, execM, withTop, pushed, digitV, otherM, binM, upd9, IntKind.wrap_u32, Nat.sub_sub, Int.add_assoc, h2, hd]
    all_goals first | done | omega | rfl | (refine ⟨?_, ?_⟩ <;> omega) | (congr 2; omega) | skip
  have e3 : runM (f - 3) (stC mem 10003 [90, 4294967295] inp.tail out true (s + 3)) = runM (f - 4) (stC mem 10004 [900, 4294967295] inp.tail out true (s + 4)) := by
    rw [runM_pos (by omega)]
    simp [stC, nextM, signM, digitOf, execM, withTop, pushed, digitV, otherM, binM, upd9, IntKind.wrap_u32, Nat.sub_sub, Int.add_assoc, h3, hd]
    all_goals first | done | omega | rfl | (refine ⟨?_, ?_⟩ <;> omega) | (congr 2; omega) | skip
  have e4 : runM (f - 4) (stC mem 10004 [900, 4294967295] inp.tail out true (s + 4)) = runM (f - 5) (stC mem 10005 [9000, 4294967295] inp.tail out true (s + 5)) := by
    rw [runM_pos (by omega)]
    simp [stC, nextM, signM, digitOf, execM, withTop, pushed, digitV, otherM, binM, upd9, IntKind.wrap_u32, Nat.sub_sub, Int.add_assoc, h4, hd]
    all_goals first | done | omega | rfl | (refine ⟨?_, ?_⟩ <;> omega) | (congr 2; omega) | skip
  have e5 : runM (f - 5) (stC mem 10005 [9000, 4294967295] inp.tail out true (s + 5)) = runM (f - 6) (stC (upd9 mem 4294967295) 10006 [] inp.tail out false (s + 6)) := by
    rw [runM_pos (by omega)]
    simp [stC, nextM, signM, digitOf, execM, withTop, pushed, digitV, otherM, binM, upd9, IntKind.wrap_u32, Nat.sub_sub, Int.add_assoc, h5, hd]
    all_goals first | done | omega | rfl | (refine ⟨?_, ?_⟩ <;> omega) | (congr 2; omega) | skip
  have e6 : runM (f - 6) (stC (upd9 mem 4294967295) 10006 [] inp.tail out false (s + 6)) = runM (f - 7) (stC (upd9 mem 4294967295) 10007 [9] inp.tail out true (s + 7)) := by
    rw [runM_pos (by omega)]
    simp [stC, nextM, signM, digitOf, execM, withTop, pushed, digitV, otherM, binM, upd9, IntKind.wrap_u32, Nat.sub_sub, Int.add_assoc, h6, hd]
    all_goals first | done | omega | rfl | (refine ⟨?_, ?_⟩ <;> omega) | (congr 2; omega) | skip
  have e7 : runM (f - 7) (stC (upd9 mem 4294967295) 10007 [9] inp.tail out true (s + 7)) = runM (f - 8) (stC (upd9 mem 4294967295) 10008 [90] inp.tail out true (s + 8)) := by
    rw [runM_pos (by omega)]
    simp [stC, nextM, signM, digitOf, execM, withTop, pushed, digitV, otherM, binM, upd9, IntKind.wrap_u32, Nat.sub_sub, Int.add_assoc, h7, hd]
    all_goals first | done | omega | rfl | (refine ⟨?_, ?_⟩ <;> omega) | (congr 2; omega) | skip
  have e8 : runM (f - 8) (stC (upd9 mem 4294967295) 10008 [90] inp.tail out true (s + 8)) = runM (f - 9) (stC (upd9 mem 4294967295) 10009 [900] inp.tail out true (s + 9)) := by
    rw [runM_pos (by omega)]
    simp [stC, nextM, signM, digitOf, execM, withTop, pushed, digitV, otherM, binM, upd9, IntKind.wrap_u32, Nat.sub_sub, Int.add_assoc, h8, hd]
    all_goals first | done | omega | rfl | (refine ⟨?_, ?_⟩ <;> omega) | (congr 2; omega) | skip
  have e9 : runM (f - 9) (stC (upd9 mem 4294967295) 10009 [900] inp.tail out true (s + 9)) = runM (f - 10) (stC (upd9 mem 4294967295) 10010 [9000] inp.tail out true (s + 10)) := by
    rw [runM_pos (by omega)]
    simp [stC, nextM, signM, digitOf, execM, withTop, pushed, digitV, otherM, binM, upd9, IntKind.wrap_u32, Nat.sub_sub, Int.add_assoc, h9, hd]
    all_goals first | done | omega | rfl | (refine ⟨?_, ?_⟩ <;> omega) | (congr 2; omega) | skip
  have e10 : runM (f - 10) (stC (upd9 mem 4294967295) 10010 [9000] inp.tail out true (s + 10)) = runM (f - 11) (stC (upd9 mem 4294967295) 10011 [4294967295] inp.tail out false (s + 11)) := by
    rw [runM_pos (by omega)]
    simp [stC, nextM, signM, digitOf, execM, withTop, pushed, digitV, otherM, binM, upd9, IntKind.wrap_u32, Nat.sub_sub, Int.add_assoc, h10, hd]
    all_goals first | done | omega | rfl | (refine ⟨?_, ?_⟩ <;> omega) | (congr 2; omega) | skip
  have e11 : runM (f - 11) (stC (upd9 mem 4294967295) 10011 [4294967295] inp.tail out false (s + 11)) = runM (f - 12) (stC (upd9 mem 4294967295) 10012 [4, 4294967295] inp.tail out true (s + 12)) := by
    rw [runM_pos (by omega)]
    simp [stC, nextM, signM, digitOf, execM, withTop, pushed, digitV, otherM, binM, upd9, IntKind.wrap_u32, Nat.sub_sub, Int.add_assoc, h11, hd]
    all_goals first | done | omega | rfl | (refine ⟨?_, ?_⟩ <;> omega) | (congr 2; omega) | skip
  have e12 : runM (f - 12) (stC (upd9 mem 4294967295) 10012 [4, 4294967295] inp.tail out true (s + 12)) = runM (f - 13) (stC (upd9 mem 4294967295) 10013 [42, 4294967295] inp.tail out true (s + 13)) := by
    rw [runM_pos (by omega)]
    simp [stC, nextM, signM, digitOf, execM, withTop, pushed, digitV, otherM, binM, upd9, IntKind.wrap_u32, Nat.sub_sub, Int.add_assoc, h12, hd]
    all_goals first | done | omega | rfl | (refine ⟨?_, ?_⟩ <;> omega) | (congr 2; omega) | skip
  have e13 : runM (f - 13) (stC (upd9 mem 4294967295) 10013 [42, 4294967295] inp.tail out true (s + 13)) = runM (f - 14) (stC (upd9 mem 4294967295) 10014 [429, 4294967295] inp.tail out true (s + 14)) := by
    rw [runM_pos (by omega)]
    simp [stC, nextM, signM, digitOf, execM, withTop, pushed, digitV, otherM, binM, upd9, IntKind.wrap_u32, Nat.sub_sub, Int.add_assoc, h13, hd]
    all_goals first | done | omega | rfl | (refine ⟨?_, ?_⟩ <;> omega) | (congr 2; omega) | skip
  have e14 : runM (f - 14) (stC (upd9 mem 4294967295) 10014 [429, 4294967295] inp.tail out true (s + 14)) = runM (f - 15) (stC (upd9 mem 4294967295) 10015 [4294, 4294967295] inp.tail out true (s + 15)) := by
    rw [runM_pos (by omega)]
    simp [stC, nextM, signM, digitOf, execM, withTop, pushed, digitV, otherM, binM, upd9, IntKind.wrap_u32, Nat.sub_sub, Int.add_assoc, h14, hd]
    all_goals first | done | omega | rfl | (refine ⟨?_, ?_⟩ <;> omega) | (congr 2; omega) | skip
  have e15 : runM (f - 15) (stC (upd9 mem 4294967295) 10015 [4294, 4294967295] inp.tail out true (s + 15)) = runM (f - 16) (stC (upd9 mem 4294967295) 10016 [42949, 4294967295] inp.tail out true (s + 16)) := by
    rw [runM_pos (by omega)]
    simp [stC, nextM, signM, digitOf, execM, withTop, pushed, digitV, otherM, binM, upd9, IntKind.wrap_u32, Nat.sub_sub, Int.add_assoc, h15, hd]
    all_goals first | done | omega | rfl | (refine ⟨?_, ?_⟩ <;> omega) | (congr 2; omega) | skip
  have e16 : runM (f - 16) (stC (upd9 mem 4294967295) 10016 [42949, 4294967295] inp.tail out true (s + 16)) = runM (f - 17) (stC (upd9 mem 4294967295) 10017 [429496, 4294967295] inp.tail out true (s + 17)) := by
    rw [runM_pos (by omega)]
    simp [stC, nextM, signM, digitOf, execM, withTop, pushed, digitV, otherM, binM, upd9, IntKind.wrap_u32, Nat.sub_sub, Int.add_assoc, h16, hd]
    all_goals first | done | omega | rfl | (refine ⟨?_, ?_⟩ <;> omega) | (congr 2; omega) | skip
  have e17 : runM (f - 17) (stC (upd9 mem 4294967295) 10017 [429496, 4294967295] inp.tail out true (s + 17)) = runM (f - 18) (stC (upd9 mem 4294967295) 10018 [4294967, 4294967295] inp.tail out true (s + 18)) := by
    rw [runM_pos (by omega)]
    simp [stC, nextM, signM, digitOf, execM, withTop, pushed, digitV, otherM, binM, upd9, IntKind.wrap_u32, Nat.sub_sub, Int.add_assoc, h17, hd]
    all_goals first | done | omega | rfl | (refine ⟨?_, ?_⟩ <;> omega) | (congr 2; omega) | skip
  have e18 : runM (f - 18) (stC (upd9 mem 4294967295) 10018 [4294967, 4294967295] inp.tail out true (s + 18)) = runM (f - 19) (stC (upd9 mem 4294967295) 10019 [42949672, 4294967295] inp.tail out true (s + 19)) := by
    rw [runM_pos (by omega)]
    simp [stC, nextM, signM, digitOf, execM, withTop, pushed, digitV, otherM, binM, upd9, IntKind.wrap_u32, Nat.sub_sub, Int.add_assoc, h18, hd]
    all_goals first | done | omega | rfl | (refine ⟨?_, ?_⟩ <;> omega) | (congr 2; omega) | skip
  have e19 : runM (f - 19) (stC (upd9 mem 4294967295) 10019 [42949672, 4294967295] inp.tail out true (s + 19)) = runM (f - 20) (stC (upd9 mem 4294967295) 10020 [429496729, 4294967295] inp.tail out true (s + 20)) := by
    rw [runM_pos (by omega)]
    simp [stC, nextM, signM, digitOf, execM, withTop, pushed, digitV, otherM, binM, upd9, IntKind.wrap_u32, Nat.sub_sub, Int.add_assoc, h19, hd]
    all_goals first | done | omega | rfl | (refine ⟨?_, ?_⟩ <;> omega) | (congr 2; omega) | skip
  have e20 : runM (f - 20) (stC (upd9 mem 4294967295) 10020 [429496729, 4294967295] inp.tail out true (s + 20)) = runM (f - 21) (stC (upd9 mem 4294967295) 10021 [4294967295, 4294967295] inp.tail out true (s + 21)) := by
    rw [runM_pos (by omega)]
    simp [stC, nextM, signM, digitOf, execM, withTop, pushed, digitV, otherM, binM, upd9, IntKind.wrap_u32, Nat.sub_sub, Int.add_assoc, h20, hd]
    all_goals first | done | omega | rfl | (refine ⟨?_, ?_⟩ <;> omega) | (congr 2; omega) | skip
  have e21 : runM (f - 21) (stC (upd9 mem 4294967295) 10021 [4294967295, 4294967295] inp.tail out true (s + 21)) = runM (f - 22) (stC (upd9 mem 4294967295) 10022 [0] inp.tail out false (s + 22)) := by
    rw [runM_pos (by omega)]
    simp [stC, nextM, signM, digitOf, execM, withTop, pushed, digitV, otherM, binM, upd9, IntKind.wrap_u32, Nat.sub_sub, Int.add_assoc, h21, hd]
    all_goals first | done | omega | rfl | (refine ⟨?_, ?_⟩ <;> omega) | (congr 2; omega) | skip
  have e22 : runM (f - 22) (stC (upd9 mem 4294967295) 10022 [0] inp.tail out false (s + 22)) = runM (f - 23) (stC (upd9 mem 4294967295) 10023 [1, 0] inp.tail out true (s + 23)) := by
    rw [runM_pos (by omega)]
    simp [stC, nextM, signM, digitOf, execM, withTop, pushed, digitV, otherM, binM, upd9, IntKind.wrap_u32, Nat.sub_sub, Int.add_assoc, h22, hd]
    all_goals first | done | omega | rfl | (refine ⟨?_, ?_⟩ <;> omega) | (congr 2; omega) | skip
  have e23 : runM (f - 23) (stC (upd9 mem 4294967295) 10023 [1, 0] inp.tail out true (s + 23)) = runM (f - 24) (stC (upd9 mem 4294967295) 10024 [10, 0] inp.tail out true (s + 24)) := by
    rw [runM_pos (by omega)]
    simp [stC, nextM, signM, digitOf, execM, withTop, pushed, digitV, otherM, binM, upd9, IntKind.wrap_u32, Nat.sub_sub, Int.add_assoc, h23, hd]
    all_goals first | done | omega | rfl | (refine ⟨?_, ?_⟩ <;> omega) | (congr 2; omega) | skip
  have e24 : runM (f - 24) (stC (upd9 mem 4294967295) 10024 [10, 0] inp.tail out true (s + 24)) = runM (f - 25) (stC (upd9 mem 4294967295) 10025 [100, 0] inp.tail out true (s + 25)) := by
    rw [runM_pos (by omega)]
    simp [stC, nextM, signM, digitOf, execM, withTop, pushed, digitV, otherM, binM, upd9, IntKind.wrap_u32, Nat.sub_sub, Int.add_assoc, h24, hd]
    all_goals first | done | omega | rfl | (refine ⟨?_, ?_⟩ <;> omega) | (congr 2; omega) | skip
  have e25 : runM (f - 25) (stC (upd9 mem 4294967295) 10025 [100, 0] inp.tail out true (s + 25)) = runM (f - 26) (stC (upd9 mem 4294967295) 10026 [1004, 0] inp.tail out true (s + 26)) := by
    rw [runM_pos (by omega)]
    simp [stC, nextM, signM, digitOf, execM, withTop, pushed, digitV, otherM, binM, upd9, IntKind.wrap_u32, Nat.sub_sub, Int.add_assoc, h25, hd]
    all_goals first | done | omega | rfl | (refine ⟨?_, ?_⟩ <;> omega) | (congr 2; omega) | skip
  have e26 : runM (f - 26) (stC (upd9 mem 4294967295) 10026 [1004, 0] inp.tail out true (s + 26)) = runM (f - 27) (stC (upd9 mem 4294967295) 10027 [10042, 0] inp.tail out true (s + 27)) := by
    rw [runM_pos (by omega)]
    simp [stC, nextM, signM, digitOf, execM, withTop, pushed, digitV, otherM, binM, upd9, IntKind.wrap_u32, Nat.sub_sub, Int.add_assoc, h26, hd]
    all_goals first | done | omega | rfl | (refine ⟨?_, ?_⟩ <;> omega) | (congr 2; omega) | skip
  have e27 : runM (f - 27) (stC (upd9 mem 4294967295) 10027 [10042, 0] inp.tail out true (s + 27)) = runM (f - 28) (stC (upd9 mem 4294967295) 10042 [] inp.tail out false (s + 28)) := by
    rw [runM_pos (by omega)]
    simp [stC, nextM, signM, digitOf, execM, withTop, pushed, digitV, otherM, binM, upd9, IntKind.wrap_u32, Nat.sub_sub, Int.add_assoc, h27, hd]
    all_goals first | done | omega | rfl | (refine ⟨?_, ?_⟩ <;> omega) | (congr 2; omega) | skip
  have eE : runM (f - 28) (stC (upd9 mem 4294967295) 10042 [] inp.tail out false (s + 28)) = ⟨out, 0, s + 29⟩ := by
    rw [runM_pos (by omega)]
    simp [stC, nextM, signM, digitOf, execM, withTop, pushed, digitV, otherM, binM, upd9, IntKind.wrap_u32, Nat.sub_sub, Int.add_assoc, h42, hd]
    all_goals first | done | omega
  have e : runM f (stC mem 10000 [] inp out false s) = runM (f - 0) (stC mem 10000 [] inp out false (s + 0)) := by simp
  rw [e, e0, e1, e2, e3, e4, e5, e6, e7, e8, e9, e10, e11, e12, e13, e14, e15, e16, e17, e18, e19, e20, e21, e22, e23, e24, e25, e26, e27, eE]
end Go.Proofs.YtddngfpgeifffaaGreatDoor
