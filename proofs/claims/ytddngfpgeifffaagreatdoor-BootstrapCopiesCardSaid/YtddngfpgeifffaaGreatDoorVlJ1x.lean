/- A part of the proof: J1, P2. -/
import Derived.Test.YtddngfpgeifffaaGreatDoorVlH6
import Derived.Test.YtddngfpgeifffaaGreatDoorVlG2x
set_option linter.unusedVariables false
set_option linter.unusedSimpArgs false
section
set_option maxRecDepth 20000
namespace Go.Proofs.YtddngfpgeifffaaGreatDoor
open Go Go.Proofs Go.Proofs.Vl

theorem symbolOf_range (b : UInt8) : U32 (symbolOf b) := by
  unfold symbolOf U32
  split
  · omega
  · split <;> omega
theorem inputOf_range {a : Int} {L : List (List UInt8)} (ha : U32 a) : ∀ v ∈ inputOf a L, U32 v := by
  intro v hv
  unfold inputOf at hv
  rcases List.mem_cons.1 hv with rfl | hv
  · exact ha
  · obtain ⟨p, _, hp⟩ := List.mem_flatMap.1 hv
    unfold pieceIn at hp
    split at hp
    · cases hp
    · rcases List.mem_append.1 hp with hp | hp
      · obtain ⟨b, _, rfl⟩ := List.mem_map.1 hp; exact symbolOf_range b
      · rw [List.mem_singleton] at hp; subst hp; exact ⟨by decide, by decide⟩
theorem inputOf_len {a : Int} {L : List (List UInt8)} (hL : L.length ≤ 900) (hl : ∀ p ∈ L, p.length ≤ 1000000) : (inputOf a L).length ≤ 1000000000 := by
  have := ins_len (L := L) hl (j := L.length)
  rw [List.take_length] at this
  unfold inputOf
  rw [List.length_cons]
  have : 1000001 * L.length ≤ 1000001 * 900 := Nat.mul_le_mul_left _ hL
  omega

set_option maxHeartbeats 6400000 in
theorem t_start (text : List UInt8) (L : List (List UInt8)) (a : Nat) (steps : Nat) (ha : a < 4294967296) (ht : text.length ≤ 200000) (hL : L.length ≤ 900) (hl : ∀ p ∈ L, p.length ≤ 1000000) (hs : 1 ≤ steps) (hs2 : steps ≤ 100000000) :
    PSpec Tryz.prog 25 [dstr text, dstrs L, dint .u32 a, dint .i64 steps] [outC (runOut text (inputOf a L) steps)] := by
  refine PSpec.of_body Tryz.func25 rfl (by kernel_rfl) (Nat.le_of_ble_eq_true rfl) ?_
  obtain ⟨LD, hLD⟩ : ∃ g : D, strs L = g := ⟨_, rfl⟩
  simp -implicitDefEqProofs (maxSteps := 10000000) (disch := omega) [dstr, dint, dstrs, hLD]
  refine (t_input L a (by omega) hl).use (by simp [ups, up, dstrs, dint, hLD]) ?_
  obtain ⟨ID, hID⟩ : ∃ g : D, u32s (inputOf a L) = g := ⟨_, rfl⟩
  simp -implicitDefEqProofs (maxSteps := 10000000) (disch := omega) [hID]
  refine ACall.freeze 1 rfl ?_
  simp -implicitDefEqProofs (maxSteps := 10000000) (disch := omega)
  refine (t_machineRun text (inputOf a L) steps ht (inputOf_range ⟨by omega, by omega⟩) (inputOf_len hL hl) hs hs2).useE ?_ ?_
  · refine ⟨⟨rfl, ⟨_, rfl, .sl _ _ _ _ fun i hi j hj => .of_eq ?_⟩, trivial⟩, ⟨rfl, ⟨_, rfl, .refl _⟩, trivial⟩, ⟨rfl, ⟨_, rfl, .of_eq hID.symm⟩, trivial⟩, ⟨rfl, ⟨_, rfl, .refl _⟩, trivial⟩, trivial⟩
    obtain rfl : i = 0 := by omega
    rcases (by omega : j = 0 ∨ j = 1) with rfl | rfl <;> rfl
  · simp -implicitDefEqProofs (maxSteps := 10000000) (disch := omega) [outC]
    exact Shows.data _ [outC (runOut text (inputOf a L) steps)]

def bootOut (s : List UInt8) (a : Nat) (L : List (List UInt8)) (steps : Nat) : Out :=
  if allKeys a s L = [] then ⟨[], 9, 0⟩ else if missOf (allKeys a s L) (totalOf s) = [] then runOut (padded s) (inputOf a L) steps else ⟨[], 19, 0⟩
set_option maxHeartbeats 6400000 in
theorem t_boot (L : List (List UInt8)) (a : Nat) (s : List UInt8) (steps : Nat) (ha : a < 4294967296) (hs : s.length ≤ 40000) (hp : s.all printableB = true) (hL : L.length ≤ 900) (hl : ∀ p ∈ L, p.length ≤ 1000000) (hg : ∀ p ∈ L, GoodP a s p) (hs1 : 1 ≤ steps) (hs2 : steps ≤ 100000000) :
    PSpec Tryz.prog 10 [dstrs L, dint .u32 a, dint .i64 steps] [outC (bootOut s a L steps)] := by
  refine PSpec.of_body Tryz.func10 rfl (by kernel_rfl) (Nat.le_of_ble_eq_true rfl) ?_
  obtain ⟨LD, hLD⟩ : ∃ g : D, strs L = g := ⟨_, rfl⟩
  have hpl := padded_len s
  have hT : totalOf s ≤ 625 := by unfold totalOf; omega
  simp -implicitDefEqProofs (maxSteps := 10000000) (disch := omega) [dint, dstrs, hLD]
  refine (t_load L a s ha hs hp (by omega) (fun p hp => Nat.le_trans (hl p hp) (by omega)) hg).use (by simp [ups, up, dstrs, dint, hLD]) ?_
  unfold loadRes bootOut
  by_cases h1 : allKeys a s L = []
  · simp only [h1, if_true]
    simp -implicitDefEqProofs (maxSteps := 10000000) (disch := omega) [dstr, dint, outC]
    exact Shows.data _ [outC ⟨[], 9, 0⟩]
  · simp only [h1, if_false]
    by_cases h2 : missOf (allKeys a s L) (totalOf s) = []
    · simp only [h2, if_true]
      simp -implicitDefEqProofs (maxSteps := 10000000) (disch := omega) [dstr, dint]
      refine (t_start (padded s) L a steps ha (by omega) hL hl hs1 hs2).use (by simp [ups, up, dstr, dstrs, dint, hLD]) ?_
      simp -implicitDefEqProofs (maxSteps := 10000000) (disch := omega) [outC]
      exact Shows.data _ [outC (runOut (padded s) (inputOf a L) steps)]
    · simp only [h2, if_false]
      simp -implicitDefEqProofs (maxSteps := 10000000) (disch := omega) [dstr, dint, outC, ints]
      exact Shows.data _ [outC ⟨[], 19, 0⟩]
end Go.Proofs.YtddngfpgeifffaaGreatDoor
end
section
set_option maxRecDepth 20000
namespace Go.Proofs.YtddngfpgeifffaaGreatDoor
open Go Go.Proofs Go.Proofs.Vl

/-! Plain laws: where the frames of a strip lie. -/
theorem drop_blocks {α β : Type} {n : Nat} (f : α → List β) : ∀ (l : List α) (j : Nat), (∀ x ∈ l, (f x).length = n) → (l.flatMap f).drop (n * j) = (l.drop j).flatMap f
  | l, 0, _ => by simp
  | [], j + 1, _ => by simp
  | x :: l, j + 1, h => by
    have hx := h x (by simp)
    rw [List.flatMap_cons, List.drop_succ_cons, show n * (j + 1) = (f x).length + n * j by rw [hx, Nat.mul_succ]; omega, ← List.drop_drop, List.drop_left]
    exact drop_blocks f l j fun y hy => h y (by simp [hy])
theorem frameB_inj {a : Nat} {s : List UInt8} {j k : Nat} (ha : a < 4294967296) (hs : s.length ≤ 40000) (hj : j < totalOf s) (hk : k < totalOf s) (h : frameB a s j = frameB a s k) : j = k := by
  have hT : totalOf s ≤ 625 := by unfold totalOf; omega
  have h1 := congrArg bytes8 h
  unfold frameB at h1
  rw [bytes8_cellsOf, bytes8_cellsOf] at h1
  obtain ⟨_, _, e1, _, _⟩ := seal_parts (a := a) (i := j) (t := totalOf s) (x := chunk s j) ha (by omega) (by omega) (chunk_len hj)
  obtain ⟨_, _, e2, _, _⟩ := seal_parts (a := a) (i := k) (t := totalOf s) (x := chunk s k) ha (by omega) (by omega) (chunk_len hk)
  rw [h1, e2] at e1
  have p1 := parse_padNum 5 j (by omega)
  rw [← e1, parse_padNum 5 k (by omega)] at p1
  cases p1; rfl
theorem frameS_eq (a : Nat) (s : List UInt8) (k : Nat) : frameS a s k = plainMark ++ frameB a s k := rfl
theorem at_frame {p F r : List UInt8} {i : Nat} (h : p.drop i = (plainMark ++ F) ++ r) (hF : F.length = 752) : plainAt p i = true ∧ bodyAt p i = F ∧ i + 768 ≤ p.length := by
  have hl := congrArg List.length h
  simp [hF, plainMark] at hl
  have hlen : i + 768 ≤ p.length := by omega
  refine ⟨?_, ?_, hlen⟩
  · unfold plainAt
    rw [decide_eq_true_eq]
    refine ⟨by omega, ?_⟩
    rw [List.drop_take, Nat.add_sub_cancel_left, h, List.append_assoc, List.take_append_of_le_length (by decide)]
    rfl
  · unfold bodyAt
    rw [List.drop_take, ← List.drop_drop, h]
    have e : i + 768 - (i + 16) = 752 := by omega
    rw [e, List.append_assoc, List.drop_append_of_le_length (by decide), show List.drop 16 plainMark = [] from rfl, List.nil_append, ← hF, List.take_left]
theorem frameB_len {a : Nat} {s : List UInt8} {k : Nat} (ha : a < 4294967296) (hs : s.length ≤ 40000) (hk : k < totalOf s) : (frameB a s k).length = 752 := by
  have h := frameS_len ha hs hk
  rw [frameS_eq, List.length_append] at h
  have : plainMark.length = 16 := rfl
  omega
theorem keyAt_frame {a : Nat} {s p r : List UInt8} {i k : Nat} (ha : a < 4294967296) (hs : s.length ≤ 40000) (hk : k < totalOf s) (h : p.drop i = frameS a s k ++ r) : keyAt a s p i = some k ∧ i + 768 ≤ p.length ∧ plainAt p i = true := by
  obtain ⟨h1, h2, h3⟩ := at_frame (F := frameB a s k) (r := r) h (frameB_len ha hs hk)
  refine ⟨?_, h3, h1⟩
  unfold keyAt
  rw [if_pos h1, List.find?_range_eq_some]
  refine ⟨by simp [h2], List.mem_range.2 hk, fun j hj => ?_⟩
  have : ¬ bodyAt p i = frameB a s j := fun e => by
    have := frameB_inj ha hs hk (by omega) (h2.symm.trans e)
    omega
  simp [this]
/-- No plain mark but at the frames' heads. -/
def CleanP (p : List UInt8) : Prop := ∀ i, i % 768 ≠ 0 → i + 768 ≤ p.length → plainAt p i = false
theorem strip_drop {a : Nat} {s : List UInt8} {g j : Nat} (ha : a < 4294967296) (hs : s.length ≤ 40000) (hj : 4 * g + j < totalOf s) (hj4 : j < 4) : ∃ r, (stripS a s g).drop (768 * j) = frameS a s (4 * g + j) ++ r := by
  have hj2 : j < min 4 (totalOf s - 4 * g) := by omega
  unfold stripS
  rw [drop_blocks _ _ _ (fun x hx => frameS_len ha hs (by rw [List.mem_range] at hx; omega)), List.drop_eq_getElem_cons (by simpa using hj2), List.flatMap_cons]
  simp
theorem strip_keys {a : Nat} {s : List UInt8} {g k : Nat} (ha : a < 4294967296) (hs : s.length ≤ 40000) (hg : 4 * g < totalOf s) (hc : CleanP (stripS a s g)) :
    GoodP a s (stripS a s g) ∧ (k ∈ keysOf a s (stripS a s g) ↔ 4 * g ≤ k ∧ k < 4 * g + 4 ∧ k < totalOf s) ∧ plainAt (stripS a s g) 0 = true := by
  have hl := stripS_len ha hs hg
  have key : ∀ i, i + 768 ≤ (stripS a s g).length → plainAt (stripS a s g) i = true → ∃ j, j < 4 ∧ 4 * g + j < totalOf s ∧ i = 768 * j ∧ keyAt a s (stripS a s g) i = some (4 * g + j) := by
    intro i hi hp
    have hm : i % 768 = 0 := by
      refine Classical.byContradiction fun hn => ?_
      rw [hc i hn hi] at hp; cases hp
    obtain ⟨j, rfl⟩ : ∃ j, i = 768 * j := ⟨i / 768, by omega⟩
    have hj : j < 4 ∧ 4 * g + j < totalOf s := by rw [hl] at hi; omega
    obtain ⟨r, hr⟩ := strip_drop ha hs hj.2 hj.1
    exact ⟨j, hj.1, hj.2, rfl, (keyAt_frame ha hs hj.2 hr).1⟩
  refine ⟨fun i hi hp => ?_, ⟨fun hk => ?_, fun hk => ?_⟩, ?_⟩
  · obtain ⟨j, _, _, _, e⟩ := key i hi hp
    rw [e]; rfl
  · obtain ⟨i, hi, hk⟩ := List.mem_filterMap.1 hk
    rw [List.mem_range] at hi
    obtain ⟨_, _, hp⟩ := keyAt_some hk
    obtain ⟨j, h1, h2, rfl, e⟩ := key i (by omega) hp
    rw [e] at hk
    cases hk
    omega
  · obtain ⟨r, hr⟩ := strip_drop (g := g) (j := k - 4 * g) ha hs (by omega) (by omega)
    rw [show 4 * g + (k - 4 * g) = k by omega] at hr
    obtain ⟨h1, h2, _⟩ := keyAt_frame ha hs hk.2.2 hr
    exact List.mem_filterMap.2 ⟨768 * (k - 4 * g), List.mem_range.2 (by omega), h1⟩
  · obtain ⟨r, hr⟩ := strip_drop (g := g) (j := 0) ha hs (by omega) (by omega)
    exact (keyAt_frame (k := 4 * g) (i := 0) ha hs hg (by simpa using hr)).2.2
def scanM : List UInt8 → Nat → Bool
  | [], _ => true
  | b :: l, i => (i % 768 == 0 || !(plainMark.isPrefixOf (b :: l))) && scanM l (i + 1)
theorem scanM_drop : ∀ (p : List UInt8) (i n : Nat), scanM p n = true → (n + i) % 768 ≠ 0 → i < p.length → plainMark.isPrefixOf (p.drop i) = false
  | [], i, n, _, _, h => by simp at h
  | b :: l, 0, n, h, hm, _ => by
    simp only [scanM, Bool.and_eq_true, Bool.or_eq_true, beq_iff_eq, Bool.not_eq_true'] at h
    simp only [List.drop_zero]
    rcases h.1 with h1 | h1
    · exact absurd h1 hm
    · exact h1
  | b :: l, i + 1, n, h, hm, hl => by
    simp only [scanM, Bool.and_eq_true] at h
    rw [List.drop_succ_cons]
    exact scanM_drop l i (n + 1) h.2 (by rw [show n + 1 + i = n + (i + 1) by omega]; exact hm) (by simpa using hl)
theorem cleanP_of {p : List UInt8} (h : scanM p 0 = true) : CleanP p := by
  intro i hi hl'
  have hl : i < p.length := by omega
  have h1 := scanM_drop p i 0 h (by simpa using hi) hl
  unfold plainAt
  rw [decide_eq_false_iff_not]
  rintro ⟨h2, h3⟩
  rw [List.drop_take, Nat.add_sub_cancel_left] at h3
  have : plainMark <+: p.drop i := by rw [← h3]; exact List.take_prefix _ _
  rw [List.isPrefixOf_iff_prefix.2 this] at h1
  cases h1
theorem short_keys {a : Nat} {s p : List UInt8} (h : p.length < 768) : GoodP a s p ∧ keysOf a s p = [] := by
  refine ⟨fun i hi _ => absurd hi (by omega), ?_⟩
  unfold keysOf keysTo
  rw [show p.length - 767 = 0 by omega]
  rfl
theorem missOf_nil {ks : List Nat} {n : Nat} (h : ∀ k, k < n → k ∈ ks) : missOf ks n = [] := by
  unfold missOf
  rw [List.filter_eq_nil_iff]
  intro k hk
  rw [List.mem_range] at hk
  simp [h k hk]
theorem all_full {a : Nat} {s : List UInt8} {L : List (List UInt8)} (ha : a < 4294967296) (hs : s.length ≤ 40000) (h : ∀ g, 4 * g < totalOf s → stripS a s g ∈ L ∧ CleanP (stripS a s g)) : missOf (allKeys a s L) (totalOf s) = [] := by
  refine missOf_nil fun k hk => ?_
  obtain ⟨h1, h2⟩ := h (k / 4) (by omega)
  exact List.mem_flatMap.2 ⟨_, h1, (strip_keys ha hs (by omega) h2).2.1.2 (by omega)⟩
end Go.Proofs.YtddngfpgeifffaaGreatDoor
end
