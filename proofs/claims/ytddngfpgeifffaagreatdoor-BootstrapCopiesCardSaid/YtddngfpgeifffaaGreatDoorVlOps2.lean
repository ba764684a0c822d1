/- A part of the proof: Ops2. -/
import Derived.Test.YtddngfpgeifffaaGreatDoorVlOps
set_option linter.unusedVariables false
set_option linter.unusedSimpArgs false
/- A small logic of abstract values: each operation's soundness (2). -/
namespace Go.Proofs.Vl
open Go Go.RowKit

section
variable {P : Program} {B : Nat} {I0 : Nat → Nat → Prop} {w0 w : World} {c : Cx} {s : St} {a : Act} {as : List Act}

theorem fieldOff_some {t : TypeId} {f off : Nat} (h : fieldOff P t f = some off) : ∃ fields fd i, P.underlying t = some (.struct fields) ∧ fields[f]? = some fd ∧ P.info? fd.type = some i ∧ i.size ≠ 0 ∧ fd.offset = off := by
  unfold fieldOff at h
  split at h
  · rename_i fields h1
    split at h
    · rename_i fd h2
      split at h
      · rename_i i h3
        split at h
        · cases h
        · rename_i h4; simp at h; exact ⟨fields, fd, i, h1, h2, h3, h4, h⟩
      · cases h
    · cases h
  · cases h
theorem run_fieldAt {t : TypeId} {f off : Nat} (h : fieldOff P t f = some off) (ad : Addr) (w : World) : (Instr.fieldAt t (.pointer (some ad)) f).run P w = .ok (.pointer (some (ad.add off))) w := by
  obtain ⟨fields, fd, i, h1, h2, h3, h4, h5⟩ := fieldOff_some h
  unfold Instr.fieldAt
  simp only [Sem.run_bind, run_underlying h1, Result.andThen_ok, h2, Instr.sureAddr, Sem.run_pure, fieldPlace, sizeOf, typeInfo, run_program, h3, h4, if_false, h5]

theorem good_fieldAddr {o : Oper} {t : TypeId} {y : Operand} {f : Nat} {k x : V → St → Prop} (ho : o.op = .fieldAddr t y f) (r : Rel B I0 w0 c s a as w)
    (h : evFieldAddr P t f (s.eval y) s fun v => k v s) : Good P o B I0 w0 a as w k x := by
  have hy' := r.eval y
  unfold evFieldAddr at h
  split at h
  · rename_i off id q hf hy
    rw [hy] at hy'
    obtain ⟨hid, e⟩ := hy'
    refine Good.value (v := .a (.ref id (q + off))) (u := .pointer (some ⟨c.ρ id, q + off, none⟩)) ?_ r ⟨hid, rfl⟩ h
    simp [execOp, ho, e, run_fieldAt hf, Addr.add_lit]
  · rename_i off id sz i j hf hy
    rw [hy] at hy'
    obtain ⟨hid, e⟩ := hy'
    refine Good.value (v := .a (.el id sz i (j + off))) (u := .pointer (some ⟨c.ρ id, i * sz + (j + off), none⟩)) ?_ r ⟨hid, rfl⟩ h
    simp [execOp, ho, e, run_fieldAt hf, Addr.add_lit, Nat.add_assoc]
  · rename_i off m get hf hy
    rw [hy] at hy'
    obtain ⟨b, q, e, hc⟩ := hy'
    refine Good.value (v := .a (.fel (m - off) fun j => get (off + j))) (u := .pointer (some ⟨b, q + off, none⟩)) ?_ r ⟨b, q + off, rfl, fun j hj => ?_⟩ h
    · simp [execOp, ho, e, run_fieldAt hf, Addr.add_lit]
    · rw [Nat.add_assoc]; exact hc (off + j) (by omega)
  · exact h.elim

theorem fieldPart_some {t : TypeId} {f : Nat} {g : Bool} {n off : Nat} (h : fieldPart P t f = some (g, n, off)) : ∃ fields fd, P.underlying t = some (.struct fields) ∧ fields[f]? = some fd ∧ ty P fd.type = some (g, n) ∧ fd.offset = off := by
  unfold fieldPart at h
  split at h
  · rename_i fields h1
    split at h
    · rename_i fd h2
      split at h
      · rename_i g' n' h3
        simp at h
        obtain ⟨rfl, rfl, rfl⟩ := h
        exact ⟨fields, fd, h1, h2, h3, rfl⟩
      · cases h
    · cases h
  · cases h
theorem good_field {o : Oper} {t : TypeId} {y : Operand} {f : Nat} {k x : V → St → Prop} (ho : o.op = .field t y f) (r : Rel B I0 w0 c s a as w)
    (h : evField P t f (s.eval y) fun v => k v s) : Good P o B I0 w0 a as w k x := by
  have hy' := r.eval y
  unfold evField at h
  split at h
  · rename_i g n off xs hf hy
    rw [hy] at hy'
    obtain ⟨cs, e, hx⟩ := hy'
    obtain ⟨fields, fd, h1, h2, h3, h4⟩ := fieldPart_some hf
    have hlen := hx.length
    split at h
    · rename_i hb
      split at h
      · rename_i hg
        subst hg
        refine Good.value (v := .c true ((xs.drop off).take n)) (u := .agg (cs.extract off (off + n))) ?_ r ⟨_, rfl, ?_⟩ h
        · simp [execOp, ho, e, Instr.field, run_underlying h1, h2, part, run_isAgg h3, run_sizeOf h3, h4, asAgg]
        · have := (hx.drop off).take n
          have e2 : (cs.extract off (off + n)).toList = (cs.toList.drop off).take n := by
            simp [Array.toList_extract, List.take_drop]
          rw [e2]; exact this
      · rename_i hg
        split at h
        · rename_i x0 hx0
          obtain ⟨v, hv, hr⟩ := hx.get hx0
          simp only [Bool.not_eq_true] at hg
          subst hg
          refine Good.value (v := .c false [x0]) (u := v) ?_ r hr h
          have hv' : cs[off]? = some v := by simpa using hv
          simp [execOp, ho, e, Instr.field, run_underlying h1, h2, part, run_isAgg h3, h4, asAgg, hv']
        · exact h.elim
    · exact h.elim
  · exact h.elim

theorem run_bounds (k : IntKind) (i : Int) (n : Nat) (code : BoundsCode) (w : World) : ∃ u w', ((boundsPanic k i n code : Sem Value).run P w = .halt (.panic u) w') ∧ (w' = w ∨ w' = w.drew) := by
  have key : ∀ signed w1, ((runtimePanic (.bounds (IntKind.i64.wrap i) n signed code) : Sem Value).run P w1) =
      .halt (.panic (.iface P.rt.boundsError (.agg #[.int .i64 (IntKind.i64.wrap i), .int .i64 n, .bool signed, .int .u8 code.toNat]))) w1 := fun _ _ => rfl
  unfold boundsPanic
  by_cases hq : (k != .u64 && decide (0 ≤ i) && decide (i ≤ 31)) = true
  · simp only [hq, if_true, Sem.run_bind, Sem.run_map, run_choose, Question.forced, show ¬ ((2 : Nat) = 1) by omega, decide_false, Bool.false_eq_true, if_false, Result.andThen_ok, key]
    exact ⟨_, _, rfl, .inr rfl⟩
  · simp only [hq, if_false, Bool.false_eq_true, Sem.run_bind, Sem.run_pure, Result.andThen_ok, key]
    exact ⟨_, _, rfl, .inl rfl⟩
theorem good_bounds {o : Oper} {kk : IntKind} {i : Int} {n : Nat} {code : BoundsCode} {k x : V → St → Prop} (r : Rel B I0 w0 c s a as w)
    (hr : (execOp a.eval o).run P w = ((boundsPanic kk i n code : Sem Value).run P w).andThen fun v w' => .ok (.value v) w') (h : x .unk s) : Good P o B I0 w0 a as w k x := by
  obtain ⟨u, w', hu, hw⟩ := run_bounds (P := P) kk i n code w
  rw [hu] at hr
  rcases hw with rfl | rfl
  · exact Good.panic (v := .unk) hr r trivial h
  · exact Good.panic (v := .unk) hr r.drew trivial h

theorem rowInfo_some {t e sz by' : Nat} {l : List Value} (h : rowInfo P t = some (e, sz, by', l)) :
    P.underlying t = some (.slice e) ∧ ∃ i v, P.info? e = some i ∧ i.size = sz ∧ i.bytes = by' ∧ i.zero = some v ∧ v.cells.toList = l ∧ l.length = sz ∧ 0 < sz ∧ ∀ x ∈ l, x.oneCell' = true := by
  unfold rowInfo at h
  split at h
  · rename_i e' h1
    split at h
    · rename_i i l' h2 h3
      split at h
      · rename_i h4
        simp at h
        obtain ⟨rfl, rfl, rfl, rfl⟩ := h
        refine ⟨h1, i, ?_⟩
        unfold zc at h3
        split at h3
        · rename_i v hv
          split at h3
          · rename_i ha
            simp only [Option.some.injEq] at h3
            rw [h2] at hv
            exact ⟨v, h2, rfl, rfl, hv, h3, h4.1, h4.2, by subst h3; exact List.all_eq_true.1 ha⟩
          · cases h3
        · cases h3
      · cases h
    · cases h
  · cases h

theorem run_size {e : TypeId} {i : TypeInfo} (h : P.info? e = some i) (w : World) : (sizeOf e).run P w = .ok i.size w := by
  unfold sizeOf typeInfo
  simp [Sem.run_bind, h, Result.andThen_ok]

theorem Rel.row_cap (r : Rel B I0 w0 c s a as w) {id n : Nat} (hid : id < s.heap.length) (hn : n ≤ obLen s.heap id) : n ≤ c.cap id := by
  have hob := r.obs id _ (List.getElem?_eq_getElem hid)
  cases hq : s.heap[id] with
  | row e sz n0 get fz =>
    rw [hq] at hob
    have hn' : n ≤ n0 := by simpa [obLen, List.getElem?_eq_getElem hid, hq, Ob.len] using hn
    exact Nat.le_trans hn' hob.1
  | _ => simp [obLen, List.getElem?_eq_getElem hid, hq, Ob.len] at hn; omega
theorem good_indexAddr {o : Oper} {t : TypeId} {y z : Operand} {k x : V → St → Prop} (ho : o.op = .indexAddr t y z) (r : Rel B I0 w0 c s a as w)
    (h : evIndexAddr P t (s.eval y) (s.eval z) s (fun v => k v s) (fun v => x v s)) : Good P o B I0 w0 a as w k x := by
  have hy' := r.eval y
  have hz' := r.eval z
  unfold evIndexAddr at h
  split at h
  · rename_i n sz get ik q hy hz
    rw [hy] at hy'; rw [hz] at hz'
    obtain ⟨ez, _⟩ := hz'
    obtain ⟨ba, cp, ey, hcap, hmx, hc⟩ := hy'
    split at h
    · rename_i e sz' by' l hi
      obtain ⟨hu, i, v, h1, h2, h3, h4, h5, h6, h7, h8⟩ := rowInfo_some hi
      split at h
      · rename_i hsz
        subst hsz
        split at h
        · rename_i hq
          obtain ⟨b, off, ea, hcell⟩ := hc (by omega)
          subst ea
          refine Good.value (v := .a (.fel sz' (get q.toNat))) (u := .pointer (some ⟨b, off + q.toNat * sz', none⟩)) ?_ r ⟨b, _, rfl, fun j hj => ?_⟩ h
          · simp [execOp, ho, ey, ez, Instr.indexAt, asIntOf, run_underlying hu, hq.1, hq.2, run_size h1, h2, Addr.add_lit]
          · have := hcell q.toNat (by omega) j hj
            rw [Nat.add_assoc]; exact this
        · rename_i hq
          cases ba with
          | none =>
            refine good_bounds (kk := ik) (i := q) (n := 0) (code := .index) r ?_ h
            simp [execOp, ho, ey, ez, Instr.indexAt, asIntOf, run_underlying hu]
          | some ad =>
            refine good_bounds (kk := ik) (i := q) (n := n) (code := .index) r ?_ h
            have hq' : ¬ (0 ≤ q ∧ q < (n : Int)) := hq
            simp [execOp, ho, ey, ez, Instr.indexAt, asIntOf, run_underlying hu, hq']
      · exact h.elim
    · exact h.elim
  · rename_i id n ik q hy hz
    rw [hy] at hy'; rw [hz] at hz'
    obtain ⟨ez, _⟩ := hz'
    obtain ⟨hid, hn, ey⟩ := hy'
    split at h
    · rename_i e sz' by' l hi
      obtain ⟨hu, i, v, h1, h2, h3, h4, h5, h6, h7, h8⟩ := rowInfo_some hi
      have hnk := r.row_cap hid hn
      split at h
      · rename_i hq
        obtain ⟨ck, hk0, _⟩ := cap_lt (c := c) (id := id) (i := q.toNat) (by omega)
        rw [ad_some hk0] at ey
        refine Good.value (v := .a (.el id sz' q.toNat 0)) (u := .pointer (some ⟨c.ρ id, q.toNat * sz', none⟩)) ?_ r ⟨hid, by simp⟩ h
        simp [execOp, ho, ey, ez, Instr.indexAt, asIntOf, run_underlying hu, hq.1, hq.2, run_size h1, h2, Addr.add_lit]
      · rename_i hq
        have hq' : ¬ (0 ≤ q ∧ q < (n : Int)) := hq
        cases hk0 : c.κ id with
        | none =>
          refine good_bounds (kk := ik) (i := q) (n := 0) (code := .index) r ?_ h
          rw [cap_none hk0] at hnk
          have hn0 : n = 0 := by omega
          subst hn0
          rw [ad_none hk0] at ey
          simp [execOp, ho, ey, ez, Instr.indexAt, asIntOf, run_underlying hu]
        | some ck =>
          rw [ad_some hk0] at ey
          refine good_bounds (kk := ik) (i := q) (n := n) (code := .index) r ?_ h
          simp [execOp, ho, ey, ez, Instr.indexAt, asIntOf, run_underlying hu, hq']
    · exact h.elim
  · rename_i ik q hy hz
    rw [hy] at hy'; rw [hz] at hz'
    obtain ⟨ez, _⟩ := hz'
    obtain ⟨ey, _⟩ := hy'
    split at h
    · rename_i p hi
      obtain ⟨e, sz', by', l⟩ := p
      obtain ⟨hu, i, v, h1, h2, h3, h4, h5, h6, h7, h8⟩ := rowInfo_some hi
      refine good_bounds (kk := ik) (i := q) (n := 0) (code := .index) r ?_ h
      simp [execOp, ho, ey, ez, Instr.indexAt, asIntOf, run_underlying hu]
    · exact h.elim
  · rename_i id off ik q hy hz
    rw [hy] at hy'; rw [hz] at hz'
    obtain ⟨ez, _⟩ := hz'
    obtain ⟨hid, ey⟩ := hy'
    split at h
    · rename_i n sz hi
      unfold arrInfo at hi
      split at hi
      · rename_i n' e hu
        split at hi
        · rename_i g m ht
          simp at hi
          obtain ⟨rfl, rfl⟩ := hi
          split at h
          · rename_i hq
            refine Good.value (v := .a (.ref id (off + q.toNat * m))) (u := .pointer (some ⟨c.ρ id, off + q.toNat * m, none⟩)) ?_ r ⟨hid, rfl⟩ h
            simp [execOp, ho, ey, ez, Instr.indexAt, asIntOf, run_underlying hu, hq.1, hq.2, run_sizeOf ht, Addr.add_lit, Instr.sureAddr]
          · rename_i hq
            split at h
            · rename_i h1n
              refine good_bounds (kk := ik) (i := q) (n := n') (code := .index) r ?_ h
              have hq' : ¬ (0 ≤ q ∧ q < (n' : Int)) := hq
              have h1' : ¬ n' ≤ 1 := by omega
              simp [execOp, ho, ey, ez, Instr.indexAt, asIntOf, run_underlying hu, hq', Instr.sureAddr, h1']
            · exact h.elim
        · cases hi
      · cases hi
    · exact h.elim
  · exact h.elim
end
end Go.Proofs.Vl
