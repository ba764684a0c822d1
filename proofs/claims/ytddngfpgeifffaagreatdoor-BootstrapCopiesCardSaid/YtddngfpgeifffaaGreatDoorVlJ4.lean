/- A part of the proof: J4. -/
import Derived.Test.YtddngfpgeifffaaGreatDoorVlJ2x
set_option linter.unusedVariables false
set_option linter.unusedSimpArgs false
set_option maxRecDepth 20000
namespace Go.Proofs.YtddngfpgeifffaaGreatDoor
open Go Go.Proofs Go.Proofs.Vl

/-! The program that copies its input shows it. -/
def wantOf (inp : List Int) : List UInt8 := (inp.takeWhile (fun v => decide (v ≠ 4294967295))).map fun v => UInt8.ofNat v.toNat
theorem copies : ∀ (inp : List Int) (mem : Nat → Int) (out : List UInt8) (s : Int) (f : Nat), CopyMem mem → (∀ v ∈ inp, U32 v) → 42 * inp.length + 43 ≤ f →
    (runM f (stC mem 10000 [] inp out false s)).out = out ++ wantOf inp
  | [], mem, out, s, f, hm, _, hf => by
    rw [copy_end hm (v := 4294967295) rfl rfl (by simp at hf; omega)]
    simp [wantOf]
  | v :: inp, mem, out, s, f, hm, hr, hf => by
    obtain ⟨h1, h2⟩ := hr v (by simp)
    simp only [List.length_cons] at hf
    by_cases hv : v = 4294967295
    · rw [copy_end hm (v := 4294967295) (by simp [hv]) rfl (by omega)]
      simp [wantOf, hv]
    · rw [copy_step hm (v := v) rfl ⟨h1, by omega⟩ (by omega)]
      rw [List.tail_cons, copies inp _ _ _ _ (hm.upd v) (fun u hu => hr u (by simp [hu])) (by omega)]
      simp [wantOf, hv]
theorem copyP_facts : copyP.all printableB = true ∧ copyP.length = 43 ∧ totalOf copyP = 1 := ⟨by kernel_rfl, by kernel_rfl, by kernel_rfl⟩
theorem copy_run {inp : List Int} (hr : ∀ v ∈ inp, U32 v) (hl : inp.length ≤ 20000) : (runOut (padded copyP) inp 1000000).out = wantOf inp := by
  have hm : CopyMem (mem0 (padded copyP) (padded copyP).length) := by
    intro i hi
    have h1 := padded_len copyP
    rw [copyP_facts.2.2] at h1
    unfold mem0
    rw [if_pos (by omega), show 10000 + i - 10000 = i by omega]
    unfold padded
    have : i < copyP.length := by rw [copyP_facts.2.1]; exact hi
    simp [List.getElem?_append_left this]
  have := copies inp _ [] 0 1000000 hm hr (by omega)
  simpa [runOut, start0, stC] using this
theorem copy_strips (a : Nat) : stripsL a copyP = [stripS a copyP 0] := by simp [stripsL, copyP_facts.2.2, List.range_succ]
theorem input_strip {a : Nat} {L : List (List UInt8)} {p : List UInt8} (h : plainAt p 0 = true) : inputOf a (p :: L) = inputOf a L := by simp [inputOf, pieceIn, h]
theorem ins_len2 {n : Nat} : ∀ {L : List (List UInt8)}, (∀ p ∈ L, p.length ≤ n) → (L.flatMap pieceIn).length ≤ (n + 1) * L.length
  | [], _ => by simp
  | p :: L, h => by
    have h1 := ins_len2 (L := L) fun q hq => h q (by simp [hq])
    have h2 := pieceIn_len p
    have h3 := h p (by simp)
    rw [List.flatMap_cons, List.length_append, List.length_cons, Nat.mul_succ]
    omega
def outB (l : List Int) : List UInt8 := l.map fun v => UInt8.ofNat v.toNat
theorem wantOf_take {inp : List Int} {i : Nat} (h : ∀ v ∈ inp.take i, v ≠ 4294967295) (hi : i = inp.length ∨ inp[i]? = some 4294967295) : wantOf inp = outB (inp.take i) := by
  have e : inp.takeWhile (fun v => decide (v ≠ 4294967295)) = inp.take i := by
    have h1 : inp = inp.take i ++ inp.drop i := (List.take_append_drop i inp).symm
    have h2 : (inp.drop i).takeWhile (fun v => decide (v ≠ 4294967295)) = [] := by
      rcases hi with rfl | hi
      · simp
      · obtain ⟨hlt, e⟩ := List.getElem?_eq_some_iff.1 hi
        rw [List.drop_eq_getElem_cons hlt, e]
        simp
    conv => lhs; rw [h1]
    rw [List.takeWhile_append_of_pos (fun v hv => by simpa using h v hv), h2, List.append_nil]
  unfold wantOf outB
  rw [e]
theorem byte_wrap {v : Int} (h : U32 v) : IntKind.u8.wrap v = ((UInt8.ofNat v.toNat).toNat : Int) := by
  rw [IntKind.wrap_u8, UInt8.toNat_ofNat']
  have := h.1
  omega
set_option maxHeartbeats 6400000 in
theorem t_law1 (L : List (List UInt8)) (a : Nat) (ha : a < 4294967296) (hL : L.length ≤ 9223372036854775807) (hl : ∀ p ∈ L, p.length ≤ 9223372036854775807) : PSpec Tryz.prog 3 [dstrs L, dint .u32 a] [dbool true] := by
  refine PSpec.of_body Tryz.func3 rfl (by kernel_rfl) (Nat.le_of_ble_eq_true rfl) ?_
  obtain ⟨LD, hLD, hLD2⟩ : ∃ g : Nat → Nat → D, strs L = .sl L.length 1 g ∧ ∀ i (h : i < L.length), g i 0 = .raw (.string ⟨⟨L[i]⟩⟩) := ⟨_, rfl, fun i h => by simp [h]⟩
  simp -implicitDefEqProofs (maxSteps := 10000000) (disch := omega) [dint, dbool, dstrs, hLD]
  refine t_alive.use rfl ?_
  simp -implicitDefEqProofs (maxSteps := 10000000) (disch := omega) [dbool]
  refine (t_small6 L hL hl).use (by simp [ups, up, dstr, dstrs, dint, hLD]) ?_
  simp -implicitDefEqProofs (maxSteps := 10000000) (disch := omega) [dbool]
  cases hs : small6 L with
  | false =>
    simp -implicitDefEqProofs (maxSteps := 10000000) (disch := omega)
    exact Shows.scalar rfl
  | true =>
    simp only [small6, Bool.and_eq_true, decide_eq_true_eq, List.all_eq_true] at hs
    obtain ⟨hs1, hs2⟩ := hs
    simp -implicitDefEqProofs (maxSteps := 10000000) (disch := omega)
    refine (t_pieces L a (by omega) (fun p hp => by have := hs2 p hp; omega)).use (by simp [ups, up, dstrs, dint, hLD]) ?_
    simp -implicitDefEqProofs (maxSteps := 10000000) (disch := omega)
    refine (t_input L a (by omega) (fun p hp => by have := hs2 p hp; omega)).use (by simp [ups, up, dstrs, dint, hLD]) ?_
    have hr : ∀ v ∈ inputOf a L, U32 v := inputOf_range ⟨by omega, by omega⟩
    have hil : (inputOf a L).length ≤ 20000 := by
      have h1 := ins_len2 hs2
      have h2 : 301 * L.length ≤ 301 * 6 := Nat.mul_le_mul_left _ hs1
      unfold inputOf
      rw [List.length_cons]
      omega
    have hT := copyP_facts.2.2
    have hS : (stripS a copyP 0).length = 768 := by rw [stripS_len ha (by rw [copyP_facts.2.1]; decide) (by omega), hT]; rfl
    have hK := fun k => strip_keys (a := a) (s := copyP) (g := 0) (k := k) ha (by rw [copyP_facts.2.1]; decide) (by omega) (fun i h1 h2 => by rw [hS] at h2; omega)
    have hb1 : ∀ p ∈ stripS a copyP 0 :: L, p.length ≤ 1000000 := by
      intro p hp
      rcases List.mem_cons.1 hp with rfl | hp
      · omega
      · have := hs2 p hp; omega
    have hb2 : ∀ p ∈ stripS a copyP 0 :: L, GoodP a copyP p := by
      intro p hp
      rcases List.mem_cons.1 hp with rfl | hp
      · exact (hK 0).1
      · exact (short_keys (by have := hs2 p hp; omega)).1
    have hst : strs (stripS a copyP 0 :: L) = .sl (1 + L.length) 1 fun i _ => .raw (.string ⟨⟨(stripS a copyP 0 :: L).getD i []⟩⟩) := by rw [strs, List.length_cons, Nat.add_comm]
    have hbo : bootOut copyP a (stripS a copyP 0 :: L) 1000000 = runOut (padded copyP) (inputOf a L) 1000000 := by
      have hm : 0 ∈ allKeys a copyP (stripS a copyP 0 :: L) := List.mem_flatMap.2 ⟨_, by simp, (hK 0).2.1.2 (by omega)⟩
      unfold bootOut
      rw [if_neg (List.ne_nil_of_mem hm), hT, if_pos (missOf_nil fun k hk => by rw [show k = 0 by omega]; exact hm), input_strip (hK 0).2.2]
    have hrun := copy_run hr hil
    obtain ⟨inp, hinp⟩ : ∃ inp, inp = inputOf a L := ⟨_, rfl⟩
    rw [← hinp] at hr hil hrun hbo ⊢
    obtain ⟨ID, hID, hID2⟩ : ∃ g : Nat → Nat → D, u32s inp = .sl inp.length 1 g ∧ ∀ i (h : i < inp.length), g i 0 = .raw (.int .u32 inp[i]) := ⟨_, rfl, fun i h => by simp [h, du32]⟩
    simp -implicitDefEqProofs (maxSteps := 10000000) (disch := omega) [hID]
    refine ALoop.inv [0, 1, 5, 6, 7, 8] 0 (T := Nat) (fun t => ⟨⟨66, [(0, .c false [.d (.sl L.length 1 LD)]), (1, .raw (.int .u32 a)), (5, .raw (.string ⟨⟨copyP⟩⟩)), (6, .raw (.string ⟨⟨outB (inp.take t)⟩⟩)), (7, .c false [.d (.sl inp.length 1 ID)]), (8, .raw (.int .i64 t))]⟩, [⟨0, []⟩], []⟩)
      (fun t => inp.length - t) (fun t => t ≤ inp.length ∧ ∀ v ∈ inp.take t, v ≠ 4294967295) 0 ?_ ?_ (fun _ => rfl) (by kernel_rfl) ?_
    · simp -implicitDefEqProofs (maxSteps := 10000000) (disch := omega) [outB]
      rfl
    · simp
    · rintro i ⟨hi, hu⟩
      simp -implicitDefEqProofs (maxSteps := 10000000) (disch := omega)
      refine boolK_both (fun h => ?_) (fun h => ?_) <;> simp at h
      · have hv : inp[i]? = some inp[i] := List.getElem?_eq_getElem h
        have hdu := hID2 i h
        have hnb : Nat.beq 0 1 = false := rfl
        simp -implicitDefEqProofs (maxSteps := 10000000) (disch := omega) [hdu]
        refine boolK_both (fun h2 => ?_) (fun h2 => ?_) <;> simp at h2
        · have hw := wantOf_take hu (.inr (by rw [hv, h2]))
          rw [← hw]
          simp -implicitDefEqProofs (maxSteps := 10000000) (disch := omega) [hnb]
          refine (t_strips copyP a ha (by rw [copyP_facts.2.1]; decide)).use rfl ?_
          rw [if_pos copyP_facts.1]
          obtain ⟨SD, hSD, hSD2⟩ : ∃ g : Nat → Nat → D, strs (stripsL a copyP) = .sl 1 1 g ∧ g 0 0 = .raw (.string ⟨⟨stripS a copyP 0⟩⟩) := ⟨_, by rw [copy_strips]; rfl, rfl⟩
          simp -implicitDefEqProofs (maxSteps := 10000000) (disch := omega) [dstrs, dint, hSD]
          refine ACall.freeze 0 rfl ?_
          simp -implicitDefEqProofs (maxSteps := 10000000) (disch := omega)
          refine (t_boot (stripS a copyP 0 :: L) a copyP 1000000 ha (by rw [copyP_facts.2.1]; decide) copyP_facts.1 (by simp; omega) hb1 hb2 (by decide) (by decide)).useE ⟨⟨rfl, ⟨_, rfl, ?_⟩, trivial⟩, ⟨rfl, ⟨_, rfl, .refl _⟩, trivial⟩, ⟨rfl, ⟨_, rfl, .refl _⟩, trivial⟩, trivial⟩ ?_
          · rw [hst]
            refine .sl _ _ _ _ fun i hi j hj => .of_eq ?_
            obtain rfl : j = 0 := by omega
            rcases i with _ | i
            · exact hSD2
            · have h7 : i < L.length := by omega
              simp [catRow, hLD2 i h7, h7]
          rw [hbo]
          simp -implicitDefEqProofs (maxSteps := 10000000) (disch := omega) [outC, hrun]
          exact Shows.scalar rfl
        · have hlen : (outB (inp.take i)).length ≤ 20000 := by unfold outB; rw [List.length_map, List.length_take]; omega
          have hb : litRow [At.d (D.raw (Value.int IntKind.u8 (IntKind.u8.wrap inp[i])))] 1 0 0 = .raw (.int .u8 (IntKind.u8.wrap inp[i])) := rfl
          have hb2 : Vl.byteOf (.raw (.int .u8 (IntKind.u8.wrap inp[i]))) = UInt8.ofNat inp[i].toNat := by
            have h0 := (hr _ (List.getElem_mem h)).1
            show UInt8.ofNat (IntKind.u8.wrap inp[i]).toNat = _
            rw [IntKind.wrap_u8]
            exact UInt8.toNat_inj.1 (by rw [UInt8.toNat_ofNat', UInt8.toNat_ofNat']; omega)
          simp -implicitDefEqProofs (maxSteps := 10000000) (disch := omega) [hdu, hb, hb2]
          refine ⟨⟨_, rfl⟩, i + 1, ⟨?_, rfl⟩, ⟨by omega, fun v hv2 => ?_⟩, by omega⟩
          · rw [outB, outB, List.take_succ_eq_append_getElem h, List.map_append]; rfl
          · rw [List.take_succ_eq_append_getElem h] at hv2
            rcases List.mem_append.1 hv2 with hv2 | hv2
            · exact hu v hv2
            · rw [List.mem_singleton] at hv2; rw [hv2]; exact h2
      · have : i = inp.length := by omega
        subst this
        have hw := wantOf_take hu (.inl rfl)
        rw [← hw]
        simp -implicitDefEqProofs (maxSteps := 10000000) (disch := omega)
        refine (t_strips copyP a ha (by rw [copyP_facts.2.1]; decide)).use rfl ?_
        rw [if_pos copyP_facts.1]
        obtain ⟨SD, hSD, hSD2⟩ : ∃ g : Nat → Nat → D, strs (stripsL a copyP) = .sl 1 1 g ∧ g 0 0 = .raw (.string ⟨⟨stripS a copyP 0⟩⟩) := ⟨_, by rw [copy_strips]; rfl, rfl⟩
        simp -implicitDefEqProofs (maxSteps := 10000000) (disch := omega) [dstrs, dint, hSD]
        refine ACall.freeze 0 rfl ?_
        simp -implicitDefEqProofs (maxSteps := 10000000) (disch := omega)
        refine (t_boot (stripS a copyP 0 :: L) a copyP 1000000 ha (by rw [copyP_facts.2.1]; decide) copyP_facts.1 (by simp; omega) hb1 hb2 (by decide) (by decide)).useE ⟨⟨rfl, ⟨_, rfl, ?_⟩, trivial⟩, ⟨rfl, ⟨_, rfl, .refl _⟩, trivial⟩, ⟨rfl, ⟨_, rfl, .refl _⟩, trivial⟩, trivial⟩ ?_
        · rw [hst]
          refine .sl _ _ _ _ fun i hi j hj => .of_eq ?_
          obtain rfl : j = 0 := by omega
          rcases i with _ | i
          · exact hSD2
          · have h7 : i < L.length := by omega
            simp [catRow, hLD2 i h7, h7]
        rw [hbo]
        simp -implicitDefEqProofs (maxSteps := 10000000) (disch := omega) [outC, hrun]
        exact Shows.scalar rfl
end Go.Proofs.YtddngfpgeifffaaGreatDoor
