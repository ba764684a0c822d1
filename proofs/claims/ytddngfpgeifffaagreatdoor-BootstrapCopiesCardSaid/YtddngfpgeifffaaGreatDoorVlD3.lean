/- A part of the proof: D3. -/
import Derived.Test.YtddngfpgeifffaaGreatDoorVlD2
import Derived.Test.YtddngfpgeifffaaGreatDoorVlB1x
set_option linter.unusedVariables false
set_option linter.unusedSimpArgs false
set_option maxRecDepth 20000
namespace Go.Proofs.YtddngfpgeifffaaGreatDoor
open Go Go.Proofs Go.Proofs.Vl

def dplain (a i t : Int) (x : List UInt8) : DC := (true, [.raw (.int .u32 a), .raw (.int .i64 i), .raw (.int .i64 t), .raw (.string ⟨⟨x⟩⟩)])
def plainErr (i t : Int) (x : List UInt8) : Int := if t < 1 ∨ t > 99999 ∨ i < 0 ∨ i ≥ t then 2 else if x.length ≠ 64 ∨ ¬ x.all printableB = true then 1 else 0
theorem t_plainCheck (a i t : Int) (x : List UInt8) (hx : x.length < 9000000000000000000) : PSpec Tryz.prog 36 [dplain a i t x] [dint .i64 (plainErr i t x)] := by
  refine PSpec.of_body Tryz.func36 rfl (by kernel_rfl) (Nat.le_of_ble_eq_true rfl) ?_
  simp -implicitDefEqProofs (maxSteps := 10000000) (disch := omega) [dplain, dint]
  refine boolK_both (fun h1 => ?_) (fun h1 => ?_) <;> simp at h1 <;> simp -implicitDefEqProofs (maxSteps := 10000000) (disch := omega)
  · exact Shows.int (by unfold plainErr; rw [if_pos (by omega)])
  refine boolK_both (fun h2 => ?_) (fun h2 => ?_) <;> simp at h2 <;> simp -implicitDefEqProofs (maxSteps := 10000000) (disch := omega)
  · exact Shows.int (by unfold plainErr; rw [if_pos (by omega)])
  refine boolK_both (fun h3 => ?_) (fun h3 => ?_) <;> simp at h3 <;> simp -implicitDefEqProofs (maxSteps := 10000000) (disch := omega)
  · exact Shows.int (by unfold plainErr; rw [if_pos (by omega)])
  refine boolK_both (fun h4 => ?_) (fun h4 => ?_) <;> simp at h4 <;> simp -implicitDefEqProofs (maxSteps := 10000000) (disch := omega)
  · exact Shows.int (by unfold plainErr; rw [if_pos (by omega)])
  refine boolK_both (fun h5 => ?_) (fun h5 => ?_) <;> simp at h5 <;> simp -implicitDefEqProofs (maxSteps := 10000000) (disch := omega)
  · exact Shows.int (by unfold plainErr; rw [if_neg (by omega), if_pos (.inl (by omega))])
  refine (t_printable x hx).use rfl ?_
  simp -implicitDefEqProofs (maxSteps := 10000000) (disch := omega) [dbool]
  refine boolK_both (fun h6 => ?_) (fun h6 => ?_) <;> simp -implicitDefEqProofs (maxSteps := 10000000) (disch := omega)
  · exact Shows.int (by unfold plainErr; rw [if_neg (by omega), if_neg (by simp only [h6, not_true, or_false]; omega)])
  · exact Shows.int (by unfold plainErr; rw [if_neg (by omega), if_pos (.inr (by rw [h6]; simp))])

theorem decDigits_le (v : Nat) (hv : v < 18446744073709551616) : (Lib.decDigits v).length ≤ 20 := by
  rw [Lib.decDigits_length]
  rcases Nat.eq_zero_or_pos v with h | h
  · subst h; rw [Lib.nDigits_small (by decide)]; decide
  · have := Lib.numDigits_eq v h hv; split at this <;> omega
theorem length_repeatL (l : List UInt8) (n : Nat) : (Lib.repeatL l n).length = n * l.length := by
  induction n with
  | zero => simp [Lib.repeatL]
  | succ n ih => simp [Lib.repeatL, ih, Nat.succ_mul]; omega
/-- A number's field of n digits. -/
def padNum (n v : Nat) : List UInt8 := Lib.repeatL [48] (n - (Lib.decDigits v).length) ++ Lib.decDigits v
theorem f58_call {s : St} {id : Nat} {n : Nat} {v : Nat} {k x : V → St → Prop} (h : s.heap[id]? = some (.cells 3 [.d (.raw (.int .i64 n))])) (hv : v < 18446744073709551616) (hn : n < 1000)
    (hk : k (.c false [.d (.raw (.string ⟨⟨padNum n v⟩⟩))]) s) : ACall Tryz.prog 58 [(false, [.d (.raw (.int .u64 v))]), (false, [.ref id 0])] s k x := by
  obtain ⟨hl, h'⟩ := List.getElem?_eq_some_iff.1 h
  refine ACall.of_body Tryz.func58 rfl (by kernel_rfl) (Nat.le_of_ble_eq_true rfl) ?_
  simp -implicitDefEqProofs (maxSteps := 10000000) (disch := omega) [h']
  refine (t_formatUint v hv).use rfl ?_
  have hd := decDigits_le v hv
  simp -implicitDefEqProofs (maxSteps := 10000000) (disch := omega) [h', dstr]
  have e : (if (Lib.decDigits v).length < n then (n : Int) - ((Lib.decDigits v).length : Int) else 0) = ((n - (Lib.decDigits v).length : Nat) : Int) := by split <;> omega
  rw [e]
  refine (t_repeat [48] (n - (Lib.decDigits v).length) (by omega) (by simp; omega)).use rfl ?_
  have hl2 : (Lib.repeatL [48] (n - (Lib.decDigits v).length)).length ≤ 1000 := by rw [length_repeatL]; simp; omega
  simp -implicitDefEqProofs (maxSteps := 10000000) (disch := omega) [h', dstr]
  exact hk

/-- A field's number: what the parse function gives. -/
def isDigits (s : List UInt8) : Bool := decide (Lib.trimS s [48, 49, 50, 51, 52, 53, 54, 55, 56, 57] = [])
theorem t_parse (s : List UInt8) (hs : s.length ≤ 10) (u : Nat) (hu : isDigits s = true → Lib.parseUintB 64 s = .ok u) :
    PSpec Tryz.prog 60 [dstr s] [dint .u64 (if isDigits s then u else 0), dbool (isDigits s)] := by
  refine PSpec.of_body Tryz.func60 rfl (by kernel_rfl) (Nat.le_of_ble_eq_true rfl) ?_
  simp -implicitDefEqProofs (maxSteps := 10000000) (disch := omega) [dstr, dint, dbool]
  refine (t_trim s [48, 49, 50, 51, 52, 53, 54, 55, 56, 57] (by omega) (by decide) (by decide)).use rfl ?_
  simp -implicitDefEqProofs (maxSteps := 10000000) (disch := omega) [dstr]
  refine boolK_both (fun h => ?_) (fun h => ?_) <;> simp at h <;> simp -implicitDefEqProofs (maxSteps := 10000000) (disch := omega)
  · have : isDigits s = false := by simp [isDigits, h]
    rw [this]
    exact Shows.data _ [dint .u64 0, dbool false]
  · have hd : isDigits s = true := by simp [isDigits, h]
    refine (t_parseUint s u (by omega) (hu hd)).use rfl ?_
    simp -implicitDefEqProofs (maxSteps := 10000000) (disch := omega) [dint]
    refine ADraw.of_plan (Sched.one 0 (Sched.one 1 (Sched.one 2 (Sched.one 3 (Sched.one 4 Sched.fin))))) (by kernel_rfl) (by kernel_rfl) ?_
    simp -implicitDefEqProofs (maxSteps := 10000000) (disch := omega)
    rw [hd]
    exact Shows.data _ [dint .u64 u, dbool true]

theorem crcDouble_range (p : Int) : 0 ≤ crcDouble p ∧ crcDouble p < 4294967296 := by
  unfold crcDouble
  split
  · exact wrap32_range _
  · exact wrap32_range _
theorem crcByte_range (c : Int) (b : UInt8) : 0 ≤ crcByte c b ∧ crcByte c b < 4294967296 := by
  unfold crcByte
  exact crcDouble_range _
theorem crcUpdate_range : ∀ (l : List UInt8) (c : Int), 0 ≤ c ∧ c < 4294967296 → 0 ≤ crcUpdate c l ∧ crcUpdate c l < 4294967296
  | [], c, h => h
  | b :: l, c, h => crcUpdate_range l (crcByte c b) (crcByte_range c b)
theorem crcFold_range : ∀ (l : List (List UInt8)) (c : Int), 0 ≤ c ∧ c < 4294967296 → 0 ≤ l.foldl crcUpdate c ∧ l.foldl crcUpdate c < 4294967296
  | [], c, h => h
  | b :: l, c, h => crcFold_range l (crcUpdate c b) (crcUpdate_range b c h)
theorem crc_range (l : List (List UInt8)) : 0 ≤ crcSum l ∧ crcSum l < 4294967296 := crcFold_range l _ (by omega)
theorem eqv_strs1 (s : List UInt8) : D.Eqv (.sl 1 1 (litRow [.d (.raw (.string ⟨⟨s⟩⟩))] 1)) (strs [s]) :=
  .sl 1 1 _ _ fun i hi j hj => by
    have h1 : i = 0 := by omega
    have h2 : j = 0 := by omega
    subst h1; subst h2
    exact D.Eqv.of_eq rfl
/-- A text and its checksum. -/
def sealS (s : List UInt8) : List UInt8 := s ++ padNum 10 (crcSum [s]).toNat
theorem t_seal (s : List UInt8) (hs : s.length ≤ 1000) : PSpec Tryz.prog 40 [dstr s] [dstr (sealS s)] := by
  refine PSpec.of_body Tryz.func40 rfl (by kernel_rfl) (Nat.le_of_ble_eq_true rfl) ?_
  simp -implicitDefEqProofs (maxSteps := 10000000) (disch := omega) [dstr]
  refine ACall.of_body Tryz.func37 rfl (by kernel_rfl) (Nat.le_of_ble_eq_true rfl) ?_
  simp -implicitDefEqProofs (maxSteps := 10000000) (disch := omega)
  refine ACall.freeze 2 rfl ?_
  simp -implicitDefEqProofs (maxSteps := 10000000) (disch := omega)
  refine (t_sum [s] (by simp) (by simp; omega)).useE ⟨⟨rfl, ⟨_, rfl, eqv_strs1 s⟩, trivial⟩, trivial⟩ ?_
  obtain ⟨h1, h2⟩ := crc_range [s]
  have h3 : crcSum [s] = ((crcSum [s]).toNat : Int) := by omega
  rw [h3]
  generalize hn : (crcSum [s]).toNat = n at h3
  simp -implicitDefEqProofs (maxSteps := 10000000) (disch := omega) [dint]
  refine f58_call (id := 0) (n := 10) rfl (by omega) (by decide) ?_
  have hl : (padNum 10 n).length ≤ 1000 := by unfold padNum; rw [List.length_append, length_repeatL]; have := decDigits_le n (by omega); simp; omega
  simp -implicitDefEqProofs (maxSteps := 10000000) (disch := omega)
  exact Shows.str (by rw [sealS, hn])
end Go.Proofs.YtddngfpgeifffaaGreatDoor
