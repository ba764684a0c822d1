/- A part of the proof: Ops5. -/
import Derived.Test.YtddngfpgeifffaaGreatDoorVlOpsM
set_option linter.unusedVariables false
set_option linter.unusedSimpArgs false
/- A small logic of abstract values: each operation's soundness (5): a row of bytes that becomes a string. -/
namespace Go.Proofs.Vl
open Go Go.RowKit

section
variable {P : Program} {B : Nat} {I0 : Nat → Nat → Prop} {w0 w : World} {c : Cx} {s : St} {a : Act} {as : List Act}

theorem Kd.below {w w' : World} (hb : Below w.heap.size w w') : Kd w w' := fun r h => by
  rw [← h]; exact hb.block r (Array.getElem?_eq_some_iff.1 h).1
/-- Behind what leaves alone all that was there. -/
theorem Rel.beyond (r : Rel B I0 w0 c s a as w) {w' : World} (hb : Below w.heap.size w w') : Rel B I0 w0 c s a as w' := by
  have hi : ∀ b o, imm B I0 c s.heap w b o → imm B I0 c s.heap w' b o := by
    rintro b o (h | ⟨h1, h2, h3⟩)
    · exact .inl h
    · exact .inr ⟨h1, Nat.lt_of_lt_of_le h2 hb.size, h3⟩
  have hlt : ∀ b o, imm B I0 c s.heap w b o → b < w.heap.size := fun b o h => by
    rcases h with h | h
    · have := r.size; omega
    · exact h.2.1
  have hs : Step (fun _ => True) (imm B I0 c s.heap w) w s.heap c (imm B I0 c s.heap w') w' s.heap c :=
    ⟨fun b o h => ⟨hi b o h, hb.cell (p := ⟨b, o, none⟩) (hlt b o h)⟩, fun id h _ => ⟨h, Nat.le_refl _, rfl, rfl, rfl⟩⟩
  exact r.step hs (r.below.trans (hb.mono r.size)) (Nat.le_trans r.size hb.size) (Kd.below hb) (fun id ob h => ObRep.mono hs (List.getElem?_eq_some_iff.1 h).1 trivial (Ob.fits_all _) (fun hblk => hb.block _ (r.ρ_lt h hblk)) (r.obs id ob h)) r.inj

/-- An object that nobody names is given up, its block's cells stay. -/
theorem Rel.giveUp (r : Rel B I0 w0 c s a as w) {id : Nat} (ob : Ob) {w' : World} (h : s.heap[id]? = some ob) (hblk : ob.blk (c.κ id) = true)
    (hf : s.cur.fits (fun i => i ≠ id)) (hf2 : ∀ f ∈ s.rest, f.fits (fun i => i ≠ id)) (hf3 : ∀ o ∈ s.heap, o.fits (fun i => i ≠ id))
    (hB : Below B w0 w') (hkd : Kd w w') (hsz : w'.heap.size = w.heap.size) (hcell : ∀ b o, w'.cell? ⟨b, o, none⟩ = w.cell? ⟨b, o, none⟩)
    (hheap : ∀ k, k ≠ c.ρ id → w'.heap[k]? = w.heap[k]?) : Rel B I0 w0 c { s with heap := s.heap.set id .gone } a as w' := by
  have hd : ∀ b o, imm B I0 c s.heap w b o → imm B I0 c (s.heap.set id .gone) w' b o := by
    rintro b o (h1 | ⟨h1, h2, h3⟩)
    · exact .inl h1
    · refine .inr ⟨h1, by omega, fun i oi hi hb hρ => ?_⟩
      rw [List.getElem?_set] at hi
      split at hi
      · split at hi
        · simp at hi; subst hi; cases hb
        · cases hi
      · exact h3 i oi hi hb hρ
  have hs : Step (fun i => i ≠ id) (imm B I0 c s.heap w) w s.heap c (imm B I0 c (s.heap.set id .gone) w') w' (s.heap.set id .gone) c :=
    ⟨fun b o h => ⟨hd b o h, hcell b o⟩, fun i hi hne => ⟨by simpa using hi, by
      unfold obLen
      rw [List.getElem?_set_ne (by omega)]
      exact Nat.le_refl _, rfl, rfl, rfl⟩⟩
  refine ⟨hB, by rw [hsz]; exact r.size, fun i o hi => ?_, fun i j oi oj hi hj bi bj e => ?_, FRep.mono hs hf r.cur, r.rest.imp_left fun f hfm a' h => FRep.mono hs (hf2 f hfm) h, r.marks.mono hkd⟩
  · rw [List.getElem?_set] at hi
    split at hi
    · split at hi
      · simp at hi; subst hi; trivial
      · cases hi
    · rename_i hne
      have hlt := (List.getElem?_eq_some_iff.1 hi).1
      refine ObRep.mono hs hlt (fun e => hne e.symm) (hf3 o (List.mem_of_getElem? hi)) (fun hb => hheap _ fun e => ?_) (r.obs i o hi)
      exact hne (r.inj i id o ob hi h hb hblk e).symm
  · rw [List.getElem?_set] at hi hj
    split at hi
    · split at hi
      · simp at hi; subst hi; cases bi
      · cases hi
    · split at hj
      · split at hj
        · simp at hj; subst hj; cases bj
        · cases hj
      · exact r.inj i j oi oj hi hj bi bj e

theorem good_evOp3 {o : Oper} {k x : V → St → Prop} (r : Rel B I0 w0 c s a as w) (h : evOp3 P o s k x) : Good P o B I0 w0 a as w k x := by
  unfold evOp3 at h
  split at h
  · rename_i y ts ho
    have hy' := r.eval y
    have run : ∀ u w', (Builtin.unsafeSliceData_ ts o.type #[a.eval y]).run P w = .ok u w' → (execOp a.eval o).run P w = .ok (.value u) w' := fun u w' hr => by
      simp only [execOp, ho, resolve, invoke, builtin, Sem.run_bind, Sem.run_pure, Result.andThen_ok, List.map_toArray, List.map_cons, List.map_nil, hr]
    split at h
    · rename_i hy
      rw [hy] at hy'
      obtain ⟨ey, _⟩ := hy'
      exact Good.value (v := .raw (.pointer none)) (u := .pointer none) (run _ _ (by rw [ey]; rfl)) r ⟨rfl, rfl⟩ h
    · rename_i id n hy
      rw [hy] at hy'
      obtain ⟨hid, hn, ey⟩ := hy'
      split at h
      · rename_i e sz n0 get fz hob
        obtain ⟨hlen, hmx, hr0⟩ := r.obs id _ hob
        have hn0 : n ≤ n0 := by simpa [obLen, hob, Ob.len] using hn
        obtain ⟨hp, h⟩ := h
        cases hk0 : c.κ id with
        | none =>
          rw [cap_none hk0] at hlen
          have h0 : n = 0 := by omega
          subst h0
          rw [ad_none hk0, cap_none hk0] at ey
          exact Good.value (v := .a (.sd id 0)) (u := .pointer none) (run _ _ (by rw [ey]; rfl)) r ⟨hid, _, rfl, fun h => absurd h (by omega)⟩ h
        | some ck =>
          obtain ⟨hB, cur, hcur, hsz, _⟩ := hr0 ck hk0
          rw [ad_some hk0, cap_some hk0] at ey
          rw [cap_some hk0] at hlen
          by_cases hk : ck = 0
          · have h0 : n = 0 := by omega
            subst h0
            obtain ⟨e', j, h1, h2⟩ := isPtr_some hp
            have hr := Lib.run_unsafeSliceData_zero (P := P) w ts o.type e' h1 ⟨c.ρ id, 0, none⟩ 0 (e, cur.size) (by simp [World.shape?, hcur])
            exact Good.value (v := .a (.sd id 0)) (run _ _ (by rw [ey, hk]; exact hr)) (r.beyond (Below.alloc (Below.refl _ _) (Nat.le_refl _) _)) ⟨hid, _, rfl, fun h => absurd h (by omega)⟩ h
          · have hr := Lib.run_unsafeSliceData_row (P := P) w ts o.type ⟨c.ρ id, 0, none⟩ n ck hk
            exact Good.value (v := .a (.sd id n)) (run _ _ (by rw [ey]; exact hr)) r ⟨hid, _, rfl, fun _ => rfl⟩ h
      · exact h.elim
    · exact h.elim
  · rename_i y z pt it ho
    have hy' := r.eval y
    have hz' := r.eval z
    have run : ∀ u w', (Builtin.unsafeString_ #[pt, it] o.type #[a.eval y, a.eval z]).run P w = .ok u w' → (execOp a.eval o).run P w = .ok (.value u) w' := fun u w' hr => by
      simp only [execOp, ho, resolve, invoke, builtin, Sem.run_bind, Sem.run_pure, Result.andThen_ok, List.map_toArray, List.map_cons, List.map_nil, hr]
    split at h
    · rename_i n hy hz
      rw [hy] at hy'; rw [hz] at hz'
      split at h
      · rename_i h0; subst h0
        exact Good.value (v := .raw (.string ⟨⟨[]⟩⟩)) (run _ _ (by rw [hy'.1, hz'.1]; exact Lib.run_unsafeString_none (P := P) w pt it o.type none)) r ⟨rfl, rfl⟩ h
      · exact h.elim
    · rename_i id n' n hy hz
      rw [hy] at hy'; rw [hz] at hz'
      obtain ⟨hid, p, ey, hpp⟩ := hy'
      split at h
      · rename_i e sz m get fz hob
        split at h
        · rename_i hc
          obtain ⟨rfl, hnn', hnm, h63, hbr⟩ := hc
          subst hnn'
          obtain ⟨hb8, hk⟩ := h
          have rs := r.scrub id
          obtain ⟨f1, f2, f3⟩ := Fr.fits_of_scrub (s := s) id
          have hobs : (s.scrub id).heap[id]? = some (.row e 1 m get fz) := by simp [St.scrub, hob, Ob.scrub]
          by_cases hn0 : n' = 0
          · subst hn0
            have hd : ∀ b o, imm B I0 c (s.scrub id).heap w b o → imm B I0 c ((s.scrub id).heap.set id .gone) w b o ∧ w.cell? ⟨b, o, none⟩ = w.cell? ⟨b, o, none⟩ := by
              rintro b o (h1 | ⟨h1, h2, h3⟩)
              · exact ⟨.inl h1, rfl⟩
              · refine ⟨.inr ⟨h1, h2, fun i oi hi hb hρ => ?_⟩, rfl⟩
                by_cases hne : i = id
                · subst hne
                  rw [List.getElem?_set_self (by simpa [St.scrub] using hid)] at hi
                  simp at hi; subst hi; cases hb
                · rw [List.getElem?_set_ne (by omega)] at hi
                  exact h3 i oi hi hb hρ
            have r2 := rs.replace (id := id) (.row e 1 m get fz) .gone (w' := w) (c' := c) hobs f1 f2 f3 r.below (fun _ h => h) (Nat.le_refl _) (fun i _ => ⟨rfl, rfl⟩) rfl hd (fun k _ _ => rfl) (fun h => by cases h) (fun _ => trivial)
            exact Good.value (v := .raw (.string ⟨⟨[]⟩⟩)) (run _ _ (by rw [ey, hz'.1]; exact Lib.run_unsafeString_none (P := P) w pt it o.type p)) r2 ⟨rfl, rfl⟩ hk
          rw [hpp (by omega)] at ey
          obtain ⟨hlen, hmx, hr0⟩ := r.obs id _ hob
          obtain ⟨ck, hk0, _⟩ := cap_lt (c := c) (id := id) (i := 0) (by omega)
          rw [cap_some hk0] at hlen hmx
          obtain ⟨hB, cur, hcur, hsz, hg⟩ := hr0 ck hk0
          unfold byteRows at hbr
          split at hbr
          · rename_i e' hp
            simp only [Bool.and_eq_true, decide_eq_true_eq] at hbr
            obtain ⟨rfl, hc1⟩ := hbr
            have hll : (rowBytes get n').length = n' := by simp [rowBytes]
            have hnn : ((rowBytes get n').length : Int) = (n' : Int) := by rw [hll]
            have hrun := Lib.run_unsafeString_row (P := P) w pt it o.type e' hp hc1 (c.ρ id) cur.size (by simp [World.shape?, hcur]) (rowBytes get n') (fun h0 => by rw [h0] at hll; simp at hll; omega)
              (by rw [hll, hsz]; omega) (by rw [hll]; omega) (fun j x hj => by
                have hj' : j < n' := by have := (List.getElem?_eq_some_iff.1 hj).1; rw [hll] at this; exact this
                obtain ⟨v, hv, hr⟩ := hg j (by omega) 0 (by omega)
                have hd := hb8 j hj'
                rw [hd] at hr
                obtain ⟨rfl, _⟩ := hr
                have hx : x = byteOf (get j 0) := by
                  simp [rowBytes, hj'] at hj
                  exact hj.symm
                rw [Addr.add_lit, Nat.zero_add]
                rw [Nat.mul_one, Nat.add_zero] at hv
                simp [World.cell?, hcur, hv, hx])
            rw [hnn] at hrun
            have hw' : ∀ k, (w.freeze ⟨c.ρ id, 0, none⟩ (rowBytes get n').length).heap[k]? = if k = c.ρ id then some (.cells cur e' (0, (rowBytes get n').length)) else w.heap[k]? := by
              intro k
              have hne : ¬ (rowBytes get n').length = 0 := by omega
              simp only [World.freeze, hne, if_false]
              rw [Array.getElem?_modify]
              split
              · rename_i e; subst e; simp [hcur]
              · rename_i hne; rw [if_neg (fun e => hne e.symm)]
            have r2 := rs.giveUp (id := id) _ (w' := w.freeze ⟨c.ρ id, 0, none⟩ (rowBytes get n').length) hobs (row_blk hk0) f1 f2 f3
              (r.below.trans ⟨by unfold World.freeze; split <;> rfl, by unfold World.freeze; split <;> rfl, by unfold World.freeze; split <;> rfl, by unfold World.freeze; split <;> simp, fun k hk => by rw [hw', if_neg (by omega)]⟩)
              (fun r hr => by rw [hw', if_neg (fun e => by subst e; rw [hcur] at hr; cases hr)]; exact hr)
              (by unfold World.freeze; split <;> simp)
              (fun b o => by
                unfold World.cell?
                simp only [hw']
                by_cases hb : b = c.ρ id
                · subst hb; simp [hcur]
                · simp [hb])
              (fun k hk => by rw [hw', if_neg hk])
            exact Good.value (v := .raw (.string ⟨⟨rowBytes get n'⟩⟩)) (u := .string ⟨(rowBytes get n').toArray⟩) (run _ _ (by rw [ey, hz'.1]; exact hrun)) r2 ⟨rfl, rfl⟩ hk
          · cases hbr
        · exact h.elim
      · exact h.elim
    · exact h.elim
  · exact good_evOp4 r h
end
end Go.Proofs.Vl
