/- A part of the proof: A1. -/
import Derived.Test.YtddngfpgeifffaaGreatDoorVlFacts1
import Derived.Test.YtddngfpgeifffaaGreatDoorVlShow
import Derived.Test.YtddngfpgeifffaaGreatDoorVlRes1
import Derived.Test.YtddngfpgeifffaaGreatDoorVlSimp4
set_option linter.unusedVariables false
set_option linter.unusedSimpArgs false
namespace Go.Proofs.YtddngfpgeifffaaGreatDoor
open Go Go.Proofs Go.Proofs.Vl

def dint (k : IntKind) (n : Int) : DC := (false, [.raw (.int k n)])
def dstr (s : List UInt8) : DC := (false, [.raw (.string ⟨⟨s⟩⟩)])
def dbool (b : Bool) : DC := (false, [.raw (.bool b)])

def crcDouble (p : Int) : Int := if p.fdiv 2147483648 == 1 then bXor .u32 (IntKind.u32.wrap (p * 2)) 79764919 else IntKind.u32.wrap (p * 2)
def crc8 : Nat → Int → Int
  | 0, c => c
  | n + 1, c => crc8 n (crcDouble c)
def crcByte (c : Int) (b : UInt8) : Int := crc8 8 (bXor .u32 c (IntKind.u32.wrap (IntKind.u32.wrap (b.toNat : Int) * 16777216)))
def crcUpdate (c : Int) (l : List UInt8) : Int := l.foldl crcByte c

theorem t_double (p : Int) : PSpec Tryz.prog 100 [dint .u32 p] [dint .u32 (crcDouble p)] := by
  refine PSpec.of_body Tryz.func100 rfl (by kernel_rfl) (Nat.le_of_ble_eq_true rfl) ?_
  simp -implicitDefEqProofs (maxSteps := 10000000) (disch := omega) [dint]
  refine boolK_both (fun h => ?_) (fun h => ?_)
  · simp -implicitDefEqProofs (maxSteps := 10000000) (disch := omega)
    exact Shows.scalar (by simp [crcDouble, h])
  · simp -implicitDefEqProofs (maxSteps := 10000000) (disch := omega)
    exact Shows.scalar (by simp [crcDouble, h])

theorem t_update (p : Int) (l : List UInt8) (hl : l.length < 9000000000000000000) : PSpec Tryz.prog 82 [dint .u32 p, dstr l] [dint .u32 (crcUpdate p l)] := by
  refine PSpec.of_body Tryz.func82 rfl (by kernel_rfl) (Nat.le_of_ble_eq_true rfl) ?_
  simp -implicitDefEqProofs (maxSteps := 10000000) (disch := omega) [dint, dstr]
  refine ALoop.inv [0, 1, 7, 8] 0 (T := Int × Nat) (fun t => ⟨⟨25, [(0, .raw (.int .u32 t.1)), (1, .raw (.string ⟨⟨l⟩⟩)), (7, .raw (.int .i64 l.length)), (8, .raw (.int .i64 t.2))]⟩, [⟨0, []⟩], []⟩)
    (fun t => l.length - t.2) (fun t => t.2 ≤ l.length ∧ crcUpdate t.1 (l.drop t.2) = crcUpdate p l) (p, 0) ?_ ?_ (fun _ => rfl) (by kernel_rfl) ?_
  · simp -implicitDefEqProofs (maxSteps := 10000000) (disch := omega)
  · simp
  · rintro ⟨crc, i⟩ ⟨hi, hu⟩
    simp -implicitDefEqProofs (maxSteps := 10000000) (disch := omega)
    refine boolK_both (fun h => ?_) (fun h => ?_)
    · simp at h hi hu
      simp -implicitDefEqProofs (maxSteps := 10000000) (disch := omega)
      refine ALoop.inv [0, 1, 7, 8, 18] 0 (T := Int × Nat) (fun t => ⟨⟨25, [(0, .raw (.int .u32 t.1)), (1, .raw (.string ⟨⟨l⟩⟩)), (7, .raw (.int .i64 l.length)), (8, .raw (.int .i64 i)), (18, .raw (.int .i64 t.2))]⟩, [⟨0, []⟩], []⟩)
        (fun t => 8 - t.2) (fun t => t.2 ≤ 8 ∧ crc8 (8 - t.2) t.1 = crcByte crc l[i]) (bXor .u32 crc (IntKind.u32.wrap (IntKind.u32.wrap (l[i].toNat : Int) * 16777216)), 0) ?_ ?_ (fun _ => rfl) (by kernel_rfl) ?_
      · simp -implicitDefEqProofs (maxSteps := 10000000) (disch := omega)
      · simp [crcByte]
      · rintro ⟨c, j⟩ ⟨hj, hv⟩
        simp -implicitDefEqProofs (maxSteps := 10000000) (disch := omega)
        refine boolK_both (fun h' => ?_) (fun h' => ?_)
        · simp at h' hj hv
          simp -implicitDefEqProofs (maxSteps := 10000000) (disch := omega)
          refine (t_double c).use rfl ?_
          simp -implicitDefEqProofs (maxSteps := 10000000) (disch := omega) [dint]
          refine ⟨crcDouble c, j + 1, ⟨rfl, rfl⟩, ⟨by omega, ?_⟩, by omega⟩
          rw [← hv, show 8 - j = 8 - (j + 1) + 1 by omega]; rfl
        · simp at h' hj hv
          have : j = 8 := by omega
          subst this
          simp -implicitDefEqProofs (maxSteps := 10000000) (disch := omega)
          refine ⟨c, i + 1, ⟨rfl, rfl⟩, ⟨by omega, ?_⟩, by omega⟩
          rw [← hu, List.drop_eq_getElem_cons h, crcUpdate, crcUpdate, List.foldl_cons, ← hv]; rfl
    · simp at h hi hu
      have : i = l.length := by omega
      subst this
      simp -implicitDefEqProofs (maxSteps := 10000000) (disch := omega)
      exact Shows.scalar (by simp only [← hu, List.drop_length]; rfl)

/-- A slice of strings. -/
def strs (l : List (List UInt8)) : D := .sl l.length 1 fun i _ => .raw (.string ⟨⟨l.getD i []⟩⟩)
def dstrs (l : List (List UInt8)) : DC := (false, [strs l])

def crcSum (l : List (List UInt8)) : Int := l.foldl crcUpdate 4294967295
theorem t_sum (l : List (List UInt8)) (hl : l.length < 9000000000000000000) (hx : ∀ s ∈ l, s.length < 9000000000000000000) : PSpec Tryz.prog 64 [dstrs l] [dint .u32 (crcSum l)] := by
  refine PSpec.of_body Tryz.func64 rfl (by kernel_rfl) (Nat.le_of_ble_eq_true rfl) ?_
  simp -implicitDefEqProofs (maxSteps := 10000000) (disch := omega) [dstrs, strs]
  refine ALoop.inv [3, 6, 7, 8] 0 (T := Int × Nat) (fun t => ⟨⟨17, [(3, .raw (.int .u32 t.1)), (6, .c false [.d (strs l)]), (7, .raw (.int .i64 l.length)), (8, .raw (.int .i64 t.2))]⟩, [⟨0, []⟩], []⟩)
    (fun t => l.length - t.2) (fun t => t.2 ≤ l.length ∧ (l.drop t.2).foldl crcUpdate t.1 = crcSum l) (4294967295, 0) ?_ ?_ (fun _ => rfl) (by kernel_rfl) ?_
  · simp -implicitDefEqProofs (maxSteps := 10000000) (disch := omega) [strs]
  · simp [crcSum]
  · rintro ⟨crc, i⟩ ⟨hi, hu⟩
    simp -implicitDefEqProofs (maxSteps := 10000000) (disch := omega) [strs]
    refine boolK_both (fun h => ?_) (fun h => ?_)
    · simp at h hi hu
      simp -implicitDefEqProofs (maxSteps := 10000000) (disch := omega)
      refine (t_update crc l[i] (hx _ (List.getElem_mem h))).use rfl ?_
      simp -implicitDefEqProofs (maxSteps := 10000000) (disch := omega) [dint]
      refine ⟨crcUpdate crc l[i], i + 1, ⟨rfl, rfl, rfl⟩, ⟨by omega, ?_⟩, by omega⟩
      rw [← hu, List.drop_eq_getElem_cons h]; rfl
    · simp at h hi hu
      have : i = l.length := by omega
      subst this
      simp -implicitDefEqProofs (maxSteps := 10000000) (disch := omega)
      exact Shows.scalar (by simp only [← hu, List.drop_length]; rfl)

theorem t_within (s : List UInt8) (at' : Int) (hl : s.length < 9000000000000000000) (ha : -9000000000000000000 < at') : PSpec Tryz.prog 26 [dstr s, dint .i64 at'] [dbool (decide (0 ≤ at' ∧ at' + 16 ≤ s.length))] := by
  refine PSpec.of_body Tryz.func26 rfl (by kernel_rfl) (Nat.le_of_ble_eq_true rfl) ?_
  simp -implicitDefEqProofs (maxSteps := 10000000) (disch := omega) [dint, dstr, dbool]
  refine boolK_both (fun h => ?_) (fun h => ?_) <;> simp at h <;> simp -implicitDefEqProofs (maxSteps := 10000000) (disch := omega)
  · refine boolK_both (fun h' => ?_) (fun h' => ?_) <;> simp at h' <;> simp -implicitDefEqProofs (maxSteps := 10000000) (disch := omega)
    · exact Shows.dec (by omega)
    · exact Shows.dec_f (by omega)
  · exact Shows.dec_f (by omega)

def plainMark : List UInt8 := [48, 48, 48, 48, 48, 49, 49, 48, 48, 49, 48, 49, 48, 49, 49, 49]
theorem t_isPlain (s : List UInt8) (i : Nat) (hl : s.length < 9000000000000000000) (hi : i < 9000000000000000000) : PSpec Tryz.prog 13 [dstr s, dint .i64 i] [dbool (decide (i + 16 ≤ s.length ∧ (s.take (i + 16)).drop i = plainMark))] := by
  refine PSpec.of_body Tryz.func13 rfl (by kernel_rfl) (Nat.le_of_ble_eq_true rfl) ?_
  simp -implicitDefEqProofs (maxSteps := 10000000) (disch := omega) [dint, dstr, dbool]
  refine (t_within s i hl (by omega)).use rfl ?_
  simp -implicitDefEqProofs (maxSteps := 10000000) (disch := omega) [dbool]
  refine boolK_both (fun h => ?_) (fun h => ?_) <;> simp at h <;> simp -implicitDefEqProofs (maxSteps := 10000000) (disch := omega)
  · refine Shows.scalar (congrArg (fun b => D.raw (.bool b)) ?_)
    have h' : i + 16 ≤ s.length := by omega
    simp [h', plainMark, Bool.beq_eq_decide_eq]
  · exact Shows.dec_f (by omega)
theorem t_plainMark : PSpec Tryz.prog 38 [] [dstr plainMark] := by
  refine PSpec.of_body Tryz.func38 rfl (by kernel_rfl) (Nat.le_of_ble_eq_true rfl) ?_
  simp -implicitDefEqProofs (maxSteps := 10000000) (disch := omega) [dstr]
  exact Shows.str rfl
def symbolOf (b : UInt8) : Int := if b.toNat = 48 then 0 else if b.toNat = 49 then 1 else 2
theorem t_symbol (b : UInt8) : PSpec Tryz.prog 19 [dint .u8 b.toNat] [dint .u32 (symbolOf b)] := by
  refine PSpec.of_body Tryz.func19 rfl (by kernel_rfl) (Nat.le_of_ble_eq_true rfl) ?_
  simp -implicitDefEqProofs (maxSteps := 10000000) (disch := omega) [dint]
  refine boolK_both (fun h => ?_) (fun h => ?_) <;> simp at h <;> simp -implicitDefEqProofs (maxSteps := 10000000) (disch := omega)
  · exact Shows.int (by unfold symbolOf; rw [if_pos (by omega)])
  · refine boolK_both (fun h' => ?_) (fun h' => ?_) <;> simp at h' <;> simp -implicitDefEqProofs (maxSteps := 10000000) (disch := omega)
    · exact Shows.int (by unfold symbolOf; rw [if_neg (by omega), if_pos (by omega)])
    · exact Shows.int (by unfold symbolOf; rw [if_neg (by omega), if_neg (by omega)])
end Go.Proofs.YtddngfpgeifffaaGreatDoor
