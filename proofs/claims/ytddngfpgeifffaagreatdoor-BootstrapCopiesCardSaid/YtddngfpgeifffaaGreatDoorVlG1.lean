/- A part of the proof: G1. -/
import Derived.Test.YtddngfpgeifffaaGreatDoorVlG0
import Derived.Test.YtddngfpgeifffaaGreatDoorVlPure
set_option linter.unusedVariables false
set_option linter.unusedSimpArgs false
set_option maxRecDepth 20000
namespace Go.Proofs.YtddngfpgeifffaaGreatDoor
open Go Go.Proofs Go.Proofs.Vl

/-- A heap with two objects replaced, the one behind the other. -/
def hp2 (H : List Ob) (i7 i8 : Nat) (n7 : Nat) (x7 : Ob) (n8 : Nat) (x8 : Ob) (f : Nat → Bool) : List Ob :=
  if f i8 = true then (H.set n7 x7).set n8 x8 else if f i7 = true then H.set n7 x7 else H
set_option maxHeartbeats 6400000 in
theorem t_load (L : List (List UInt8)) (a : Nat) (s : List UInt8) (ha : a < 4294967296) (hs : s.length ≤ 40000) (hp : s.all printableB = true) (hL : L.length ≤ 1000000000) (hl : ∀ p ∈ L, p.length ≤ 1000000000) (hg : ∀ p ∈ L, GoodP a s p) :
    PSpec Tryz.prog 14 [dstrs L, dint .u32 a] (loadRes s (allKeys a s L)) := by
  have hT : totalOf s ≤ 625 := by unfold totalOf; omega
  refine PSpec.of_body Tryz.func14 rfl (by kernel_rfl) (Nat.le_of_ble_eq_true rfl) ?_
  obtain ⟨LD, hLD, hLD2⟩ : ∃ g : Nat → Nat → D, strs L = .sl L.length 1 g ∧ ∀ i (h : i < L.length), g i 0 = .raw (.string ⟨⟨L[i]⟩⟩) := ⟨_, rfl, fun i h => by simp [h]⟩
  simp -implicitDefEqProofs (maxSteps := 10000000) (disch := omega) [dstr, dint, dstrs, hLD]
  refine ACall.of_body Tryz.func18 rfl (by kernel_rfl) (Nat.le_of_ble_eq_true rfl) ?_
  simp -implicitDefEqProofs (maxSteps := 10000000) (disch := omega)
  refine AWP.trim [4, 5, 6, 7, 8, 20] 9 ?_
  simp -implicitDefEqProofs (maxSteps := 10000000) (disch := omega)
  refine ARange.introE rfl rfl (by kernel_rfl) fun l cA cB hA hB => ?_
  simp -implicitDefEqProofs (maxSteps := 10000000) (disch := omega)
  refine ACall.of_body Tryz.func33 rfl (by kernel_rfl) (Nat.le_of_ble_eq_true rfl) ?_
  simp -implicitDefEqProofs (maxSteps := 10000000) (disch := omega)
  obtain ⟨TL, hTL⟩ : ∃ TL : List (Nat × V), TL = [(4, V.c false [At.ref 0 0]), (5, V.c false [At.ref 1 0]), (6, V.c false [At.ref 2 0]), (7, V.c false [At.ref 4 0]), (8, V.c false [At.ref 5 0]), (20, V.c false [At.clo 8])] := ⟨_, rfl⟩
  obtain ⟨HH, hHH⟩ : ∃ HH : Nat → List (MK × D) → List Ob, HH = fun (tot : Nat) m => [Ob.cells 9 [At.d (D.raw (Value.string { data := { toList := [] } }))], Ob.cells 39 [At.d (D.raw (Value.slice none 0 0))], Ob.cells 31 [At.d (D.raw (Value.int .i64 0))], Ob.mp 74 (some .i64) m, Ob.cells 3 [At.d (D.raw (Value.int .i64 tot))], Ob.cells 74 [At.mp 3], Ob.cells 22 [At.d (D.sl L.length 1 LD)], Ob.cells 23 [At.d (D.raw (Value.int .u32 ↑a))], Ob.clo (Fn.func 33) [] [(false, [At.ref 6 0]), (false, [At.ref 7 0])], Ob.lp l 79 [(4, V.c false [At.ref 0 0]), (5, V.c false [At.ref 1 0]), (6, V.c false [At.ref 2 0]), (7, V.c false [At.ref 4 0]), (8, V.c false [At.ref 5 0]), (20, V.c false [At.clo 8])] [21] cA cB false none] := ⟨_, rfl⟩
  refine ALoop.inv [0, 1, 2, 9, 10, 11] 10 (T := Nat × Nat × List (MK × D)) (fun t => ⟨⟨51, [(0, V.c false [At.yld 9]), (1, V.c false [At.ref 6 0]), (2, V.c false [At.ref 7 0]), (9, V.c false [At.d (D.sl L.length 1 LD)]), (10, .raw (.int .i64 L.length)), (11, .raw (.int .i64 t.1))]⟩, [⟨79, TL⟩, ⟨0, []⟩], HH t.2.1 t.2.2⟩)
    (fun t => L.length - t.1) (fun t => t.1 ≤ L.length ∧ KInv s ((L.take t.1).flatMap (keysOf a s)) t.2.1 t.2.2) (0, 0, []) ?_ ?_ (fun _ => rfl) (by kernel_rfl) ?_
  · simp -implicitDefEqProofs (maxSteps := 10000000) (disch := omega) [hTL, hHH]
  · simp [KInv.nil]
  · rintro ⟨j, tot0, m0⟩ ⟨hj, hk0⟩
    simp only at hj hk0
    simp -implicitDefEqProofs (maxSteps := 10000000) (disch := omega)
    refine boolK_both (fun h => ?_) (fun h => ?_) <;> simp at h
    · have hmem : L[j] ∈ L := List.getElem_mem h
      have hlen := hl _ hmem
      have hgood := hg _ hmem
      have hld := hLD2 j h
      simp -implicitDefEqProofs (maxSteps := 10000000) (disch := omega) [hHH, hld]
      generalize hpp : L[j] = p at *
      refine ALoop.inv [0, 1, 2, 5, 6, 9, 10, 11] 10 (T := Nat × Nat × List (MK × D)) (fun t => ⟨⟨51, [(0, V.c false [At.yld 9]), (1, V.c false [At.ref 6 0]), (2, V.c false [At.ref 7 0]), (5, .raw (.string ⟨⟨p⟩⟩)), (6, .raw (.int .i64 t.1)), (9, V.c false [At.d (D.sl L.length 1 LD)]), (10, .raw (.int .i64 L.length)), (11, .raw (.int .i64 j))]⟩, [⟨79, TL⟩, ⟨0, []⟩], HH t.2.1 t.2.2⟩)
        (fun t => p.length - t.1) (fun t => (t.1 = 0 ∨ t.1 ≤ p.length - 767) ∧ KInv s ((L.take j).flatMap (keysOf a s) ++ keysTo a s p t.1) t.2.1 t.2.2) (0, tot0, m0) ?_ ?_ (fun _ => rfl) (by kernel_rfl) ?_
      · simp -implicitDefEqProofs (maxSteps := 10000000) (disch := omega) [hTL, hHH]
      · exact ⟨.inl rfl, by simpa [keysTo] using hk0⟩
      · rintro ⟨i, tot, m⟩ ⟨hi, hk⟩
        simp only at hi hk
        simp -implicitDefEqProofs (maxSteps := 10000000) (disch := omega)
        refine boolK_both (fun h2 => ?_) (fun h2 => ?_) <;> simp at h2
        · simp -implicitDefEqProofs (maxSteps := 10000000) (disch := omega) [hHH, hTL]
          refine (t_isPlain p i (by omega) (by omega)).use rfl ?_
          rw [show decide (i + 16 ≤ p.length ∧ List.drop i (List.take (i + 16) p) = plainMark) = plainAt p i from rfl]
          simp -implicitDefEqProofs (maxSteps := 10000000) (disch := omega) [dbool]
          refine boolK_both (fun h3 => ?_) (fun h3 => ?_)
          · obtain ⟨k, hkey⟩ := Option.isSome_iff_exists.1 (hgood i (by omega) h3)
            obtain ⟨hkT, hbody, _⟩ := keyAt_some hkey
            simp -implicitDefEqProofs (maxSteps := 10000000) (disch := omega)
            rw [show List.drop (i + 16) (List.take (i + 768) p) = frameB a s k from hbody]
            refine (t_decode a k (totalOf s) (chunk s k) ha (chunk_err hs hkT hp)).use rfl ?_
            simp -implicitDefEqProofs (maxSteps := 10000000) (disch := omega) [dplain, dint]
            refine AYield.of_body (id := 9) rfl rfl (by rw [hA, hB]; kernel_rfl) ?_
            have eA := congrArg (awp Tryz.prog) hA
            have eB := congrArg (awp Tryz.prog) hB
            generalize hks : (L.take j).flatMap (keysOf a s) ++ keysTo a s p i = ks at hk
            obtain ⟨hk1, hk2⟩ := hk
            have hkk := hk2 k
            have hT1 : 1 ≤ totalOf s := by omega
            rw [eA]
            by_cases hc1 : ks = []
            · rw [if_pos hc1] at hk1
              subst hk1
              rw [hc1, if_neg (by simp)] at hkk
              simp -implicitDefEqProofs (maxSteps := 10000000) (disch := omega)
              rw [eB]
              simp -implicitDefEqProofs (maxSteps := 10000000) (disch := omega) [hkk]
              refine ADraw.eff [.a (.mp 3), .a (.ref 11 1), .raw (.int .i64 k), .a (.ref 11 2), .raw (.int .i64 (totalOf s)), .a (.ref 11 3), .raw (.string ⟨⟨chunk s k⟩⟩), .unk, .unk]
                (hp2 _ 7 8 4 (.cells 3 [.d (.raw (.int .i64 (totalOf s)))]) 3 (.mp 74 (some .i64) (mset m (.i k) (.raw (.string ⟨⟨chunk s k⟩⟩))))) rfl (fun f hf => by simp only [hp2, hf 8 (by decide), if_true]) (by kernel_rfl) (by kernel_rfl) ?_ ?_
              · simp only [effSteps_cons, effSteps_nil, and_true]
                refine ⟨?_, ?_, ?_, ?_, ?_, ?_, ?_, ?_, ?_⟩
                rotate_left 8
                · intro tl f hi0 hdep hcl h
                  simp [opTmps, operTmps, Op.operands, Call.operands, expect] at h
                  have h7 := hdep ⟨7, .chain⟩ (by simp) rfl
                  simp only at h7
                  simp -implicitDefEqProofs (maxSteps := 10000000) (disch := omega) [h, hp2, h7, hi0, updB]
                all_goals
                  intro tl f hi0 hdep hcl h
                  simp [opTmps, operTmps, Op.operands, Call.operands, expect] at h
                  have h87 : f 8 = true → f 7 = true := fun h8 => hcl 8 _ h8 rfl ⟨7, .chain⟩ (by simp) rfl
                  clear hcl
                  rcases Bool.eq_false_or_eq_true (f 7) with h7 | h7 <;> rcases Bool.eq_false_or_eq_true (f 8) with h8 | h8 <;> simp [h7, h8] at h87 hi0 <;> simp -implicitDefEqProofs (maxSteps := 10000000) (disch := omega) [h, hp2, h7, h8, updB]
              · intro tl h
                clear h
                simp -implicitDefEqProofs (maxSteps := 10000000) (disch := omega) [hp2]
                refine ⟨i + 1, totalOf s, _, by simp [hHH, hTL]; rfl, ⟨by omega, ?_⟩, by omega⟩
                have hk3 := KInv.add hk2 k
                rw [keysTo, List.range_succ, List.filterMap_append, ← List.append_assoc, show List.filterMap (keyAt a s p) (List.range i) = keysTo a s p i from rfl, hks]
                simpa [hkey] using hk3
            · rw [if_neg hc1] at hk1
              subst hk1
              by_cases hc2 : k ∈ ks
              · rw [if_pos hc2] at hkk
                simp -implicitDefEqProofs (maxSteps := 10000000) (disch := omega)
                rw [eB]
                simp -implicitDefEqProofs (maxSteps := 10000000) (disch := omega) [hkk]
                refine ADraw.eff [.a (.mp 3), .a (.ref 11 1), .raw (.int .i64 k), .a (.ref 11 2), .raw (.int .i64 (totalOf s)), .a (.ref 11 3), .raw (.string ⟨⟨chunk s k⟩⟩), .unk, .unk]
                  (hp2 _ 7 8 4 (.cells 3 [.d (.raw (.int .i64 (totalOf s)))]) 3 (.mp 74 (some .i64) (mset m (.i k) (.raw (.string ⟨⟨chunk s k⟩⟩))))) rfl (fun f hf => by simp only [hp2, hf 8 (by decide), if_true]) (by kernel_rfl) (by kernel_rfl) ?_ ?_
                · simp only [effSteps_cons, effSteps_nil, and_true]
                  refine ⟨?_, ?_, ?_, ?_, ?_, ?_, ?_, ?_, ?_⟩
                  rotate_left 8
                  · intro tl f hi0 hdep hcl h
                    simp [opTmps, operTmps, Op.operands, Call.operands, expect] at h
                    have h7 := hdep ⟨7, .chain⟩ (by simp) rfl
                    simp only at h7
                    simp -implicitDefEqProofs (maxSteps := 10000000) (disch := omega) [h, hp2, h7, hi0, updB]
                  all_goals
                    intro tl f hi0 hdep hcl h
                    simp [opTmps, operTmps, Op.operands, Call.operands, expect] at h
                    have h87 : f 8 = true → f 7 = true := fun h8 => hcl 8 _ h8 rfl ⟨7, .chain⟩ (by simp) rfl
                    clear hcl
                    rcases Bool.eq_false_or_eq_true (f 7) with h7 | h7 <;> rcases Bool.eq_false_or_eq_true (f 8) with h8 | h8 <;> simp [h7, h8] at h87 hi0 <;> simp -implicitDefEqProofs (maxSteps := 10000000) (disch := omega) [h, hp2, h7, h8, updB]
                · intro tl h
                  clear h
                  simp -implicitDefEqProofs (maxSteps := 10000000) (disch := omega) [hp2]
                  refine ⟨i + 1, totalOf s, _, by simp [hHH, hTL]; rfl, ⟨by omega, ?_⟩, by omega⟩
                  have hk3 := KInv.add hk2 k
                  rw [keysTo, List.range_succ, List.filterMap_append, ← List.append_assoc, show List.filterMap (keyAt a s p) (List.range i) = keysTo a s p i from rfl, hks]
                  simpa [hkey] using hk3
              · rw [if_neg hc2] at hkk
                simp -implicitDefEqProofs (maxSteps := 10000000) (disch := omega)
                rw [eB]
                simp -implicitDefEqProofs (maxSteps := 10000000) (disch := omega) [hkk]
                refine ADraw.eff [.a (.mp 3), .a (.ref 11 1), .raw (.int .i64 k), .a (.ref 11 2), .raw (.int .i64 (totalOf s)), .a (.ref 11 3), .raw (.string ⟨⟨chunk s k⟩⟩), .unk, .unk]
                  (hp2 _ 7 8 4 (.cells 3 [.d (.raw (.int .i64 (totalOf s)))]) 3 (.mp 74 (some .i64) (mset m (.i k) (.raw (.string ⟨⟨chunk s k⟩⟩))))) rfl (fun f hf => by simp only [hp2, hf 8 (by decide), if_true]) (by kernel_rfl) (by kernel_rfl) ?_ ?_
                · simp only [effSteps_cons, effSteps_nil, and_true]
                  refine ⟨?_, ?_, ?_, ?_, ?_, ?_, ?_, ?_, ?_⟩
                  rotate_left 8
                  · intro tl f hi0 hdep hcl h
                    simp [opTmps, operTmps, Op.operands, Call.operands, expect] at h
                    have h7 := hdep ⟨7, .chain⟩ (by simp) rfl
                    simp only at h7
                    simp -implicitDefEqProofs (maxSteps := 10000000) (disch := omega) [h, hp2, h7, hi0, updB]
                  all_goals
                    intro tl f hi0 hdep hcl h
                    simp [opTmps, operTmps, Op.operands, Call.operands, expect] at h
                    have h87 : f 8 = true → f 7 = true := fun h8 => hcl 8 _ h8 rfl ⟨7, .chain⟩ (by simp) rfl
                    clear hcl
                    rcases Bool.eq_false_or_eq_true (f 7) with h7 | h7 <;> rcases Bool.eq_false_or_eq_true (f 8) with h8 | h8 <;> simp [h7, h8] at h87 hi0 <;> simp -implicitDefEqProofs (maxSteps := 10000000) (disch := omega) [h, hp2, h7, h8, updB]
                · intro tl h
                  clear h
                  simp -implicitDefEqProofs (maxSteps := 10000000) (disch := omega) [hp2]
                  refine ⟨i + 1, totalOf s, _, by simp [hHH, hTL]; rfl, ⟨by omega, ?_⟩, by omega⟩
                  have hk3 := KInv.add hk2 k
                  rw [keysTo, List.range_succ, List.filterMap_append, ← List.append_assoc, show List.filterMap (keyAt a s p) (List.range i) = keysTo a s p i from rfl, hks]
                  simpa [hkey] using hk3
          · simp -implicitDefEqProofs (maxSteps := 10000000) (disch := omega)
            refine ⟨i + 1, tot, m, by simp [hHH, hTL], ⟨by omega, ?_⟩, by omega⟩
            have : keyAt a s p i = none := by unfold keyAt; rw [h3]; rfl
            rw [keysTo, List.range_succ, List.filterMap_append]
            simpa [this, keysTo] using hk
        · simp -implicitDefEqProofs (maxSteps := 10000000) (disch := omega) [hHH, hTL]
          have hi2 : i = p.length - 767 := by omega
          refine ⟨j + 1, tot, m, by simp [hHH, hTL], ⟨by omega, ?_⟩, by omega⟩
          rw [List.take_succ_eq_append_getElem h, List.flatMap_append, hpp]
          simpa [keysOf, ← hi2] using hk
    · have : j = L.length := by omega
      subst this
      simp -implicitDefEqProofs (maxSteps := 10000000) (disch := omega) [hHH, hTL]
      obtain ⟨hk1, hk2⟩ := hk0
      rw [List.take_length] at hk1 hk2
      rw [show L.flatMap (keysOf a s) = allKeys a s L from rfl] at hk1 hk2
      have hkT : ∀ k ∈ allKeys a s L, k < totalOf s := fun k hk => mem_allKeys hk
      generalize allKeys a s L = ks at *
      unfold loadRes
      by_cases hc : ks = []
      · rw [if_pos hc] at hk1 ⊢
        subst hk1
        simp -implicitDefEqProofs (maxSteps := 10000000) (disch := omega)
        exact Shows.data _ [dstr [], (false, [.raw (.slice none 0 0)]), dint .i64 9]
      · rw [if_neg hc] at hk1 ⊢
        subst hk1
        generalize hT2 : totalOf s = T at *
        refine boolK_both (fun h0 => ?_) (fun h0 => ?_) <;> simp at h0
        · exfalso
          obtain ⟨k, ks', rfl⟩ := List.exists_cons_of_ne_nil hc
          have := hkT k (by simp)
          omega
        simp -implicitDefEqProofs (maxSteps := 10000000) (disch := omega)
        refine AWP.adoptB 10 (e5 := 5) rfl ?_
        simp -implicitDefEqProofs (maxSteps := 10000000) (disch := omega)
        refine AWP.adopt 13 3 1 nilD (Nat.le_of_ble_eq_true rfl) rfl ?_
        simp -implicitDefEqProofs (maxSteps := 10000000) (disch := omega)
        refine ALoop.inv [4, 5, 6, 7, 8, 12, 13, 55, 56] 13 (T := Nat × Nat × (Nat → Nat → D) × Nat × (Nat → Nat → D)) (fun t => ⟨⟨79, [(4, V.c false [At.ref 0 0]), (5, V.c false [At.ref 1 0]), (6, V.c false [At.ref 2 0]), (7, V.c false [At.ref 4 0]), (8, V.c false [At.ref 5 0]), (12, V.c false [At.ref 10 0]), (13, V.a (.row 12 t.2.2.2.1)), (55, .raw (.int .i64 T)), (56, .raw (.int .i64 t.1))]⟩, [⟨0, []⟩],
            [Ob.cells 9 [At.d (D.raw (Value.string { data := { toList := [] } }))], Ob.cells 39 [At.d (D.raw (Value.slice none 0 0))], Ob.cells 31 [At.d (D.raw (Value.int .i64 0))], Ob.mp 74 (some .i64) m0, Ob.cells 3 [At.d (D.raw (Value.int .i64 T))], Ob.cells 74 [At.mp 3], Ob.cells 22 [At.d (D.sl L.length 1 LD)], Ob.cells 23 [At.d (D.raw (Value.int .u32 ↑a))], Ob.clo (Fn.func 33) [] [(false, [At.ref 6 0]), (false, [At.ref 7 0])], Ob.gone,
              .cells 64 [.mref 10 0, .row 11 t.2.1], .row 5 1 t.2.1 t.2.2.1 0, .row 3 1 t.2.2.2.1 t.2.2.2.2 0]⟩)
          (fun t => T - t.1) (fun t => t.1 ≤ T ∧ (t.2.1 = ((List.range t.1).flatMap (textOf s ks)).length ∧ BytesG t.2.2.1 ((List.range t.1).flatMap (textOf s ks))) ∧ t.2.2.2.1 = (missOf ks t.1).length ∧ ∀ k, k < t.2.2.2.1 → t.2.2.2.2 k 0 = .raw (.int .i64 ((missOf ks t.1).getD k 0 : Nat))) (0, 0, nilD, 0, nilD) ?_ ?_ (fun _ => rfl) (by kernel_rfl) ?_
        · simp -implicitDefEqProofs (maxSteps := 10000000) (disch := omega)
        · simp [BytesG.nil, missOf]
        · rintro ⟨i, n, get, q, mg⟩ ⟨hi, ⟨hn, hu⟩, hq, hm⟩
          simp only at hi hn hu hq hm
          have hmget := hk2 i
          have hnn := texts_len (ks := ks) (by omega : i ≤ totalOf s)
          have hqq := missOf_len ks i
          simp -implicitDefEqProofs (maxSteps := 10000000) (disch := omega)
          refine boolK_both (fun h2 => ?_) (fun h2 => ?_) <;> simp at h2
          · have htl := textOf_len (ks := ks) (by omega : i < totalOf s)
            have hu2 := hu.str (textOf s ks i)
            rw [← hn] at hu2
            by_cases hc2 : i ∈ ks
            · rw [if_pos hc2] at hmget
              simp -implicitDefEqProofs (maxSteps := 10000000) (disch := omega) [hmget]
              rw [textOf, if_pos hc2] at htl hu2
              refine b_writeString (id := 10) (rid := 11) rfl rfl (by decide) (by omega) ?_
              simp -implicitDefEqProofs (maxSteps := 10000000) (disch := omega)
              refine ⟨i + 1, _, _, q, mg, ⟨⟨rfl, by simp⟩, rfl, ⟨rfl, rfl⟩, rfl, rfl⟩, ⟨by omega, ⟨?_, ?_⟩, ?_, ?_⟩, by omega⟩
              · rw [hn, List.length_flatMap, List.range_succ, List.map_append, List.sum_append]; simp [textOf, hc2]
              · rw [List.range_succ, List.flatMap_append]; simpa [textOf, hc2] using hu2
              · rw [missOf_succ, if_pos hc2, List.append_nil]; exact hq
              · rw [missOf_succ, if_pos hc2, List.append_nil]; simpa using hm
            · rw [if_neg hc2] at hmget
              simp -implicitDefEqProofs (maxSteps := 10000000) (disch := omega) [hmget]
              rw [textOf, if_neg hc2] at htl hu2
              refine b_writeString (id := 10) (rid := 11) rfl rfl (by decide) (by simp; omega) ?_
              simp -implicitDefEqProofs (maxSteps := 10000000) (disch := omega)
              refine ⟨i + 1, _, _, q + 1, _, ⟨⟨rfl, by simp⟩, rfl, ⟨rfl, rfl⟩, rfl, rfl⟩, ⟨by omega, ⟨?_, ?_⟩, ?_, ?_⟩, by omega⟩
              · rw [hn, List.length_flatMap, List.range_succ, List.map_append, List.sum_append]; simp [textOf, hc2]
              · rw [List.range_succ, List.flatMap_append]; simpa [textOf, hc2] using hu2
              · rw [missOf_succ, if_neg hc2, hq]; simp
              · intro k hk
                rw [missOf_succ, if_neg hc2]
                unfold catRow
                split
                · rename_i hkq
                  rw [hm k hkq, List.getElem?_append_left (by omega)]; simp
                · have : k = q := by omega
                  subst this
                  rw [hq, List.getElem?_append_right (by omega)]
                  simp [litRow, At.toD]
          · have : i = T := by omega
            subst this
            simp -implicitDefEqProofs (maxSteps := 10000000) (disch := omega)
            refine boolK_both (fun h3 => ?_) (fun h3 => ?_) <;> simp at h3
            · simp -implicitDefEqProofs (maxSteps := 10000000) (disch := omega)
              have hne : ¬ missOf ks i = [] := by intro e; rw [e] at hq; simp at hq; omega
              rw [if_neg hne]
              have hl2 : ints (missOf ks i) = .sl q 1 fun j _ => .raw (.int .i64 ((missOf ks i).getD j 0 : Nat)) := by rw [ints, hq]
              rw [hl2]
              refine Shows.tup ⟨⟨rfl, AtShow.data (.refl _), trivial⟩, ⟨rfl, AtShow.row rfl fun k hk j hj => .of_eq ?_, trivial⟩, ⟨rfl, AtShow.data (.refl _), trivial⟩, trivial⟩ (by simp)
              obtain rfl : j = 0 := by omega
              exact hm k hk
            · simp -implicitDefEqProofs (maxSteps := 10000000) (disch := omega)
              have he : missOf ks i = [] := by
                rw [← List.length_eq_zero_iff]; omega
              rw [if_pos he]
              have htx := texts_padded (by rw [hT2]; exact he : missOf ks (totalOf s) = [])
              rw [hT2] at htx
              rw [htx] at hn hu
              subst hn
              have hpl := padded_len s
              refine b_string (id := 10) (rid := 11) (l := padded s) rfl rfl (by decide) (by omega) hu ?_
              simp -implicitDefEqProofs (maxSteps := 10000000) (disch := omega)
              exact Shows.data _ [dstr (padded s), (false, [.raw (.slice none 0 0)]), dint .i64 0]
end Go.Proofs.YtddngfpgeifffaaGreatDoor
