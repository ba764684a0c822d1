/- A part of the proof: N1. -/
import Derived.Test.YtddngfpgeifffaaGreatDoorVlD3
set_option linter.unusedVariables false
set_option linter.unusedSimpArgs false
set_option maxRecDepth 20000
namespace Go.Proofs.YtddngfpgeifffaaGreatDoor
open Go Go.Proofs Go.Proofs.Vl

/-! Plain laws: numbers' fields, cells and bytes. -/
theorem nDigits_le {n : Nat} : ∀ {u : Nat}, 1 ≤ n → u < 10 ^ n → Lib.nDigits u ≤ n := by
  induction n with
  | zero => intro u h; omega
  | succ n ih =>
    intro u _ h
    by_cases h10 : u < 10
    · rw [Lib.nDigits_small h10]; omega
    · rw [Lib.nDigits_big h10]
      rw [Nat.pow_succ] at h
      have hn : 1 ≤ n := by
        rcases Nat.eq_zero_or_pos n with e | e
        · subst e; simp at h; omega
        · exact e
      have := ih (u := u / 10) hn (by omega)
      omega
theorem padNum_len {n v : Nat} (hn : 1 ≤ n) (hv : v < 10 ^ n) : (padNum n v).length = n := by
  have := nDigits_le hn hv
  unfold padNum
  rw [List.length_append, length_repeatL, Lib.decDigits_length]
  simp; omega
def digitB (b : UInt8) : Prop := 48 ≤ b.toNat ∧ b.toNat ≤ 57
theorem digit_ofNat {d : Nat} (h : d < 10) : digitB (UInt8.ofNat (48 + d)) := by
  unfold digitB
  rw [UInt8.toNat_ofNat']
  omega
theorem decDigits_digits (v : Nat) : ∀ b ∈ Lib.decDigits v, digitB b := by
  induction v using Nat.strongRecOn with
  | _ v ih =>
    intro b hb
    rw [Lib.decDigits] at hb
    split at hb
    · rename_i h
      rw [List.mem_singleton] at hb
      subst hb
      exact digit_ofNat h
    · rename_i h
      rcases List.mem_append.1 hb with hb | hb
      · exact ih (v / 10) (by omega) b hb
      · rw [List.mem_singleton] at hb
        subst hb
        exact digit_ofNat (Nat.mod_lt _ (by decide))
theorem mem_repeatL {l : List UInt8} {n : Nat} {b : UInt8} (h : b ∈ Lib.repeatL l n) : b ∈ l := by
  induction n with
  | zero => simp [Lib.repeatL] at h
  | succ n ih =>
    simp only [Lib.repeatL, List.mem_append] at h
    rcases h with h | h
    · first | exact ih h | exact h
    · first | exact h | exact ih h
theorem padNum_digits (n v : Nat) : ∀ b ∈ padNum n v, digitB b := by
  intro b hb
  rcases List.mem_append.1 hb with hb | hb
  · have := mem_repeatL hb
    rw [List.mem_singleton] at this
    subst this
    exact ⟨by decide, by decide⟩
  · exact decDigits_digits v b hb
theorem parseM_append (M : Nat) : ∀ (l r : List UInt8) (acc a : Nat), Lib.parseUintM M acc l = .ok a → Lib.parseUintM M acc (l ++ r) = Lib.parseUintM M a r
  | [], r, acc, a, h => by
    simp only [Lib.parseUintM] at h
    cases h; rfl
  | c :: l, r, acc, a, h => by
    simp only [Lib.parseUintM, List.cons_append] at h ⊢
    split at h
    · rename_i h1
      split at h
      · cases h
      · rename_i h2
        split at h
        · cases h
        · rename_i h3
          rw [if_pos h1, if_neg h2, if_neg h3]
          exact parseM_append M l r _ a h
    · cases h
theorem parseM_zeros (M n : Nat) : Lib.parseUintM M 0 (Lib.repeatL [48] n) = .ok 0 := by
  induction n with
  | zero => rfl
  | succ n ih =>
    have e : Lib.repeatL [48] (n + 1) = [48] ++ Lib.repeatL [48] n := by
      first | rfl | (simp [Lib.repeatL])
    rw [e, parseM_append M [48] _ 0 0 (by simp [Lib.parseUintM])]
    exact ih
theorem parseM_digits (M : Nat) (hM : 18446744073709551615 ≤ M) (v : Nat) (hv : v < 10000000000000) : Lib.parseUintM M 0 (Lib.decDigits v) = .ok v := by
  induction v using Nat.strongRecOn with
  | _ v ih =>
    have key : ∀ (acc d : Nat), d < 10 → acc < 10000000000000 → Lib.parseUintM M acc [UInt8.ofNat (48 + d)] = .ok (acc * 10 + d) := by
      intro acc d hd ha
      have e : (UInt8.ofNat (48 + d)).toNat = 48 + d := by rw [UInt8.toNat_ofNat']; omega
      simp only [Lib.parseUintM, e]
      rw [if_pos (by omega), if_neg (by omega), if_neg (by omega)]
      congr 1; omega
    rw [Lib.decDigits]
    split
    · rename_i h
      rw [key 0 v h (by omega)]; simp
    · rename_i h
      rw [parseM_append M _ _ 0 (v / 10) (ih (v / 10) (by omega) (by omega)), key (v / 10) (v % 10) (Nat.mod_lt _ (by decide)) (by omega)]
      congr 1; omega
theorem parse_padNum (n v : Nat) (hv : v < 10000000000000) : Lib.parseUintB 64 (padNum n v) = .ok v := by
  have hne : padNum n v ≠ [] := by
    intro h
    have h1 := congrArg List.length h
    unfold padNum at h1
    rw [List.length_append, Lib.decDigits_length] at h1
    have := Lib.nDigits_pos v
    simp at h1
    omega
  unfold Lib.parseUintB
  rw [if_neg hne, padNum, parseM_append _ _ _ 0 0 (parseM_zeros _ _)]
  exact parseM_digits _ (by decide) v hv
theorem dropWhile_all {p : UInt8 → Bool} : ∀ {l : List UInt8}, (∀ b ∈ l, p b = true) → l.dropWhile p = []
  | [], _ => rfl
  | b :: l, h => by
    rw [List.dropWhile_cons_of_pos (h b (by simp))]
    exact dropWhile_all fun c hc => h c (by simp [hc])
theorem trimS_all {l cs : List UInt8} (h : ∀ b ∈ l, cs.contains b = true) : Lib.trimS l cs = [] := by
  have e : l.reverse.dropWhile (cs.contains ·) = [] := dropWhile_all fun b hb => h b (List.mem_reverse.1 hb)
  unfold Lib.trimS Lib.trimLeftS Lib.trimRightS
  rw [e]
  rfl
theorem isDigits_of {l : List UInt8} (h : ∀ b ∈ l, digitB b) : isDigits l = true := by
  unfold isDigits
  rw [decide_eq_true_eq]
  refine trimS_all fun b hb => ?_
  obtain ⟨h1, h2⟩ := h b hb
  have key : ∀ n : Fin 256, 48 ≤ n.val → n.val ≤ 57 → ([48, 49, 50, 51, 52, 53, 54, 55, 56, 57] : List UInt8).contains (UInt8.ofNat n.val) = true := by decide +kernel
  have := key ⟨b.toNat, b.toNat_lt⟩ h1 h2
  simpa using this

theorem bitc_01 (b : UInt8) (k : Nat) : bitc b k = 48 ∨ bitc b k = 49 := by
  have key : ∀ x : Fin 256, (48 : UInt8) + (UInt8.ofNat x.val &&& 1) = 48 ∨ (48 : UInt8) + (UInt8.ofNat x.val &&& 1) = 49 := by decide +kernel
  unfold bitc
  generalize b >>> (UInt8.ofNat (7 - k)) = y
  have := key ⟨y.toNat, UInt8.toNat_lt _⟩
  rw [show UInt8.ofNat y.toNat = y by simp] at this
  exact this
theorem cellsOf_01 (s : List UInt8) : ∀ b ∈ cellsOf s, b = 48 ∨ b = 49 := by
  intro b hb
  unfold cellsOf at hb
  obtain ⟨x, _, hx⟩ := List.mem_flatMap.1 hb
  unfold cells8 at hx
  obtain ⟨k, _, rfl⟩ := List.mem_map.1 hx
  exact bitc_01 x k
theorem cells_ok (s : List UInt8) : Lib.trimS (cellsOf s) [48, 49, 63] = [] := by
  refine trimS_all fun b hb => ?_
  rcases cellsOf_01 s b hb with h | h <;> subst h <;> decide
theorem cells_read (s : List UInt8) : (63 : UInt8) ∉ cellsOf s := by
  intro h
  rcases cellsOf_01 s _ h with h | h <;> cases h
theorem byte8_cells8 (b : UInt8) : byte8 (cells8 b) = b := by
  have key : ∀ n : Fin 256, byte8 (cells8 (UInt8.ofNat n.val)) = UInt8.ofNat n.val := by decide +kernel
  have := key ⟨b.toNat, b.toNat_lt⟩
  simpa using this
theorem part8_cellsOf : ∀ (s : List UInt8) (i : Nat) (h : i < s.length), part8 (cellsOf s) i = cells8 s[i]
  | [], i, h => absurd h (by simp)
  | b :: s, 0, h => by
    unfold part8
    rw [cellsOf, List.flatMap_cons, Nat.mul_zero, List.drop_zero, List.take_append_of_le_length (by rw [length_cells8]; omega), List.take_of_length_le (by rw [length_cells8]; omega)]
    rfl
  | b :: s, i + 1, h => by
    have ih := part8_cellsOf s i (by simpa using h)
    unfold part8 at ih ⊢
    have e : (cellsOf (b :: s)).drop (8 * (i + 1)) = (cellsOf s).drop (8 * i) := by
      rw [cellsOf, List.flatMap_cons, show 8 * (i + 1) = (cells8 b).length + 8 * i by rw [length_cells8]; omega, ← List.drop_drop, List.drop_left]
      rfl
    rw [e, ih]
    simp
theorem bytes8_cellsOf (s : List UInt8) : bytes8 (cellsOf s) = s := by
  unfold bytes8
  refine List.ext_getElem ?_ fun i h1 h2 => ?_
  · simp [length_cellsOf]
  · rw [List.getElem_map, List.getElem_range, part8_cellsOf s i h2, byte8_cells8]
theorem count_read (s : List UInt8) : Lib.countByte (cellsOf s) 63 = 0 := by
  unfold Lib.countByte
  exact List.count_eq_zero.2 (cells_read s)
end Go.Proofs.YtddngfpgeifffaaGreatDoor
