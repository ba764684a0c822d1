/- A part of the proof: D2. -/
import Derived.Test.YtddngfpgeifffaaGreatDoorVlD1
set_option linter.unusedVariables false
set_option linter.unusedSimpArgs false
set_option maxRecDepth 20000
namespace Go.Proofs.YtddngfpgeifffaaGreatDoor
open Go Go.Proofs Go.Proofs.Vl

/-- The byte of eight cells. -/
def bit1 (b c : UInt8) : UInt8 := if c = 49 then (b <<< 1) ||| 1 else b <<< 1
def byte8 (l : List UInt8) : UInt8 := l.foldl bit1 0
def part8 (s : List UInt8) (i : Nat) : List UInt8 := (s.drop (8 * i)).take 8
def bytes8 (s : List UInt8) : List UInt8 := (List.range (s.length / 8)).map fun i => byte8 (part8 s i)
theorem shl_or (b : UInt8) : bOr .u8 (IntKind.u8.wrap ((b.toNat : Int) * 2)) 1 = ((bit1 b 49).toNat : Int) := by
  have key : ∀ n : Fin 256, bOr .u8 (IntKind.u8.wrap ((n.val : Int) * 2)) 1 = ((bit1 (UInt8.ofNat n.val) 49).toNat : Int) := by decide +kernel
  have := key ⟨b.toNat, b.toNat_lt⟩
  simpa using this
theorem shl_one (b : UInt8) : IntKind.u8.wrap ((b.toNat : Int) * 2) = ((b <<< 1).toNat : Int) := by
  have key : ∀ n : Fin 256, IntKind.u8.wrap ((n.val : Int) * 2) = (((UInt8.ofNat n.val) <<< 1).toNat : Int) := by decide +kernel
  have := key ⟨b.toNat, b.toNat_lt⟩
  simpa using this
theorem byte8_succ (l : List UInt8) (k : Nat) (hk : k < l.length) : byte8 (l.take (k + 1)) = bit1 (byte8 (l.take k)) l[k] := by
  rw [List.take_succ_eq_append_getElem hk, byte8, List.foldl_append]; rfl
theorem indexByte_notin : ∀ {l : List UInt8} {c : UInt8}, c ∉ l → Lib.indexByte l c = -1
  | [], c, _ => rfl
  | x :: l, c, h => by
    simp only [List.mem_cons, not_or] at h
    unfold Lib.indexByte
    have : ¬ x = c := fun e => h.1 e.symm
    simp [this, indexByte_notin h.2]
theorem t_toBytes (s : List UInt8) (hs : s.length ≤ 8000000) (h8 : s.length % 8 = 0) (hc : Lib.trimS s [48, 49, 63] = []) (hq : (63 : UInt8) ∉ s) :
    PSpec Tryz.prog 57 [dstr s] [dstr (bytes8 s), (false, [.raw (.slice none 0 0)]), dint .i64 0] := by
  refine PSpec.of_body Tryz.func57 rfl (by kernel_rfl) (Nat.le_of_ble_eq_true rfl) ?_
  simp -implicitDefEqProofs (maxSteps := 10000000) (disch := omega) [dstr, dint]
  refine (t_cellsCheck s (by omega)).use rfl ?_
  simp -implicitDefEqProofs (maxSteps := 10000000) (disch := omega) [dint, hc, h8]
  refine AWP.adoptB 0 (e5 := 5) rfl ?_
  simp -implicitDefEqProofs (maxSteps := 10000000) (disch := omega)
  refine ALoop.inv [0, 6, 7, 23, 24] 2 (T := Nat × (Nat → Nat → D)) (fun t => ⟨⟨57, [(0, .raw (.string ⟨⟨s⟩⟩)), (6, .a (.ref 0 0)), (7, .raw (.slice none 0 0)), (23, .raw (.int .i64 (s.length / 8 : Nat))), (24, .raw (.int .i64 t.1))]⟩, [⟨0, []⟩], [.cells 64 [.mref 0 0, .row 1 t.1], .row 5 1 t.1 t.2 0]⟩)
    (fun t => s.length / 8 - t.1) (fun t => t.1 ≤ s.length / 8 ∧ BytesG t.2 ((List.range t.1).map fun i => byte8 (part8 s i))) (0, nilD) ?_ ?_ (fun _ => rfl) (by kernel_rfl) ?_
  · simp -implicitDefEqProofs (maxSteps := 10000000) (disch := omega)
  · simp [BytesG.nil]
  · rintro ⟨i, get⟩ ⟨hi, hu⟩
    simp only at hi hu
    simp -implicitDefEqProofs (maxSteps := 10000000) (disch := omega)
    refine boolK_both (fun h => ?_) (fun h => ?_) <;> simp at h
    · have hlen : (part8 s i).length = 8 := by simp [part8]; omega
      have hpart : (s.take (8 * (i + 1))).drop (8 * i) = part8 s i := by rw [List.drop_take]; simp [part8]; congr 1; omega
      simp -implicitDefEqProofs (maxSteps := 10000000) (disch := omega)
      refine ALoop.inv [0, 6, 7, 8, 9, 10, 23, 24, 34] 2 (T := Nat × UInt8) (fun t => ⟨⟨57, [(0, .raw (.string ⟨⟨s⟩⟩)), (6, .a (.ref 0 0)), (7, .raw (.slice none 0 0)), (8, .raw (.int .i64 i)), (9, .raw (.string ⟨⟨part8 s i⟩⟩)), (10, .raw (.int .u8 t.2.toNat)), (23, .raw (.int .i64 (s.length / 8 : Nat))), (24, .raw (.int .i64 i)), (34, .raw (.int .i64 t.1))]⟩, [⟨0, []⟩], [.cells 64 [.mref 0 0, .row 1 i], .row 5 1 i get 0]⟩)
        (fun t => 8 - t.1) (fun t => t.1 ≤ 8 ∧ t.2 = byte8 ((part8 s i).take t.1)) (0, 0) ?_ ?_ (fun _ => rfl) (by kernel_rfl) ?_
      · simp -implicitDefEqProofs (maxSteps := 10000000) (disch := omega)
        rw [← hpart, show (((i : Int) + 1) * 8).toNat = 8 * (i + 1) by omega, Nat.mul_comm i 8]
      · simp [byte8]
      · rintro ⟨k, b⟩ ⟨hk, hv⟩
        simp only at hk hv
        simp -implicitDefEqProofs (maxSteps := 10000000) (disch := omega)
        refine boolK_both (fun h2 => ?_) (fun h2 => ?_) <;> simp at h2
        · have hk8 : k < (part8 s i).length := by omega
          simp -implicitDefEqProofs (maxSteps := 10000000) (disch := omega)
          refine boolK_both (fun h3 => ?_) (fun h3 => ?_) <;> simp at h3 <;> simp -implicitDefEqProofs (maxSteps := 10000000) (disch := omega)
          · have h4 : (part8 s i)[k] = 49 := UInt8.toNat_inj.1 (by rw [show (49 : UInt8).toNat = 49 from rfl]; omega)
            refine ⟨k + 1, bit1 b (part8 s i)[k], ⟨?_, by omega⟩, ⟨by omega, ?_⟩, by omega⟩
            · rw [h4]; exact shl_or b
            · rw [byte8_succ _ _ hk8, ← hv]
          · have h4 : ¬ (part8 s i)[k] = 49 := fun e => h3 (by rw [e]; rfl)
            refine ⟨k + 1, bit1 b (part8 s i)[k], ⟨?_, by omega⟩, ⟨by omega, ?_⟩, by omega⟩
            · rw [show bit1 b (part8 s i)[k] = b <<< 1 by simp [bit1, h4]]; exact shl_one b
            · rw [byte8_succ _ _ hk8, ← hv]
        · have : k = 8 := by omega
          subst this
          have hb : b = byte8 (part8 s i) := by rw [hv, List.take_of_length_le (by omega)]
          subst hb
          simp -implicitDefEqProofs (maxSteps := 10000000) (disch := omega)
          refine b_writeByte (id := 0) (rid := 1) rfl rfl (by decide) (by omega) ?_
          simp -implicitDefEqProofs (maxSteps := 10000000) (disch := omega)
          have hnq : (63 : UInt8) ∉ part8 s i := fun hm => hq (List.mem_of_mem_drop (List.mem_of_mem_take hm))
          refine (t_contains (part8 s i) 63).use rfl ?_
          rw [indexByte_notin hnq]
          simp -implicitDefEqProofs (maxSteps := 10000000) (disch := omega) [dbool]
          have hb := hu.byte (byte8 (part8 s i))
          rw [List.length_map, List.length_range] at hb
          refine ⟨i + 1, _, ⟨by omega, by omega, rfl⟩, ⟨by omega, ?_⟩, by omega⟩
          rw [List.range_succ, List.map_append]
          exact hb
    · have : i = s.length / 8 := by omega
      subst this
      simp -implicitDefEqProofs (maxSteps := 10000000) (disch := omega)
      have hlb : (bytes8 s).length = s.length / 8 := by simp [bytes8]
      refine b_string (id := 0) (rid := 1) (l := bytes8 s) (by rw [hlb]; rfl) (by rw [hlb]; rfl) (by decide) (by omega) hu ?_
      simp -implicitDefEqProofs (maxSteps := 10000000) (disch := omega)
      exact Shows.data _ [dstr (bytes8 s), (false, [.raw (.slice none 0 0)]), dint .i64 0]
end Go.Proofs.YtddngfpgeifffaaGreatDoor
