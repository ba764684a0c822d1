/- A part of the proof: Build. -/
import Derived.Test.YtddngfpgeifffaaGreatDoorVlOps5
set_option linter.unusedVariables false
set_option linter.unusedSimpArgs false
/- A small logic of abstract values: struct and slice literals; all operations together. -/
namespace Go.Proofs.Vl
open Go Go.RowKit

section
variable {P : Program} {B : Nat} {I0 : Nat → Nat → Prop} {w0 w : World} {c : Cx} {s : St} {a : Act} {as : List Act}

theorem foldl_put (off : Nat) : ∀ (vs : List Value) (j : Nat) (cells : Array Value), off + j + vs.length ≤ cells.size →
    ((vs.zipIdx j).foldl (fun cs p => cs.setIfInBounds (off + p.2) p.1) cells).toList = cells.toList.take (off + j) ++ vs ++ cells.toList.drop (off + j + vs.length)
  | [], j, cells, _ => by simp
  | v :: vs, j, cells, h => by
    simp only [List.length_cons] at h
    have hlt : off + j < cells.size := by omega
    rw [List.zipIdx_cons, List.foldl_cons, foldl_put off vs (j + 1) (cells.setIfInBounds (off + j) v) (by simp; omega)]
    have e : (cells.setIfInBounds (off + j) v).toList = cells.toList.set (off + j) v := by simp
    have hl : off + j < cells.toList.length := by simpa using hlt
    rw [e, List.set_eq_take_append_cons_drop, if_pos hl]
    have hlt2 : (cells.toList.take (off + j)).length = off + j := by simp; omega
    rw [show off + (j + 1) = off + j + 1 by omega, List.take_append_of_le_length' hlt2, List.drop_append_of_le_length' hlt2, List.drop_drop]
    rw [show off + j + 1 + vs.length = off + j + (v :: vs).length by simp; omega]
    simp [List.append_assoc]
where
  List.take_append_of_le_length' {α : Type} {l m : List α} {n : Nat} {x : α} (h : l.length = n) : (l ++ x :: m).take (n + 1) = l ++ [x] := by
    subst h; simp [List.take_append, List.take_of_length_le]
  List.drop_append_of_le_length' {α : Type} {l m : List α} {n k : Nat} {x : α} (h : l.length = n) : (l ++ x :: m).drop (n + 1 + k) = m.drop k := by
    subst h
    rw [List.drop_append]
    simp [Nat.add_assoc, Nat.add_comm 1 k]

theorem fill_step (off : Nat) (vs cells : Array Value) (h : off + vs.size ≤ cells.size) :
    (vs.zipIdx.foldl (fun cs (c, j) => cs.setIfInBounds (off + j) c) cells).toList = cells.toList.take off ++ vs.toList ++ cells.toList.drop (off + vs.size) := by
  have := foldl_put off vs.toList 0 cells (by simpa using h)
  simp only [Nat.add_zero, Array.length_toList] at this
  rw [← this]
  congr 1
  rw [← Array.foldl_toList, Array.toList_zipIdx]

theorem fill_rep {I : Nat → Nat → Prop} {H : List Ob} {pl : Nat → Option (Nat × Nat)} : ∀ {l : List (Nat × List At)} {ps : List (Nat × Value)} {xs xs' : List At} {cells : Array Value},
    All2 (fun p q => p.1 = q.1 ∧ All2 (AtRep I w H c) p.2 q.2.cells.toList ∧ ∀ v ∈ q.2.cells.toList, v.oneCell' = true) l ps → All2 (AtRep I w H c) xs cells.toList → (∀ v ∈ cells.toList, v.oneCell' = true) → fillA pl xs l = some xs' →
    ∃ cells', Instr.fill pl cells ps = some cells' ∧ All2 (AtRep I w H c) xs' cells'.toList ∧ (∀ v ∈ cells'.toList, v.oneCell' = true)
  | [], [], xs, xs', cells, _, hx, h1, h => by simp [fillA] at h; subst h; exact ⟨cells, rfl, hx, h1⟩
  | (i, ys) :: l, (i', v) :: ps, xs, xs', cells, ⟨⟨e, hy, hy1⟩, hl⟩, hx, h1, h => by
    simp only at e
    subst e
    unfold fillA at h
    split at h
    · rename_i off n hp
      split at h
      · rename_i hb
        have hlen := hx.length
        have hly := hy.length
        simp at hlen hly
        have hin : off + v.cells.size ≤ cells.size := by omega
        have hst := fill_step off v.cells cells hin
        have hx' : All2 (AtRep I w H c) (putList xs off ys) (v.cells.zipIdx.foldl (fun cs (c, j) => cs.setIfInBounds (off + j) c) cells).toList := by
          rw [hst, putList, show off + ys.length = off + v.cells.size by omega]
          exact ((hx.take off).append hy).append (hx.drop _)
        have h1' : ∀ u ∈ (v.cells.zipIdx.foldl (fun cs (c, j) => cs.setIfInBounds (off + j) c) cells).toList, u.oneCell' = true := by
          rw [hst]
          intro u hu
          simp only [List.mem_append] at hu
          rcases hu with (hu | hu) | hu
          · exact h1 u (List.mem_of_mem_take hu)
          · exact hy1 u hu
          · exact h1 u (List.mem_of_mem_drop hu)
        obtain ⟨cells', g1, g2, g3⟩ := fill_rep hl hx' h1' h
        refine ⟨cells', ?_, g2, g3⟩
        unfold Instr.fill
        simp only [hp]
        rw [if_neg (by simp; omega)]
        exact g1
      · cases h
    · cases h

theorem fparts_rep (r : Rel B I0 w0 c s a as w) : ∀ {l : List (Nat × Operand)} {ps : List (Nat × List At)}, fparts s l = some ps →
    All2 (fun p q => p.1 = q.1 ∧ All2 (AtRep (imm B I0 c s.heap w) w s.heap c) p.2 q.2.cells.toList ∧ ∀ v ∈ q.2.cells.toList, v.oneCell' = true) ps (l.map fun q => (q.1, a.eval q.2))
  | [], ps, h => by simp [fparts] at h; subst h; trivial
  | (i, y) :: l, ps, h => by
    have hy' := r.eval y
    unfold fparts at h
    split at h
    · rename_i g xs q hy hp
      rw [hy] at hy'
      split at h
      · rename_i hk
        simp at h
        subst h
        exact ⟨⟨rfl, cells_rep hk hy'⟩, fparts_rep r hp⟩
      · cases h
    · cases h

theorem places_run {t : TypeId} {pl : List (Nat × Nat)} (h : places P t = some pl) : ∃ fields, P.underlying t = some (.struct fields) ∧
    ∀ w, (fields.mapM fun f => do pure (f.offset, ← sizeOf f.type) : Sem (Array (Nat × Nat))).run P w = .ok pl.toArray w := by
  unfold places at h
  split at h
  · rename_i fields hu
    refine ⟨fields, hu, fun w => ?_⟩
    rw [Array.mapM_eq_mapM_toList]
    have key : ∀ (l : List Field) (pl : List (Nat × Nat)), (l.mapM fun f => (P.info? f.type).map fun i => (f.offset, i.size)) = some pl →
        (l.mapM fun f => (do pure (f.offset, ← sizeOf f.type) : Sem (Nat × Nat))).run P w = .ok pl w := by
      intro l
      induction l with
      | nil => intro pl h; simp at h; subst h; rfl
      | cons f l ih =>
        intro pl h
        rw [List.mapM_cons] at h ⊢
        simp only [Option.bind_eq_bind, Option.bind_eq_some_iff] at h
        obtain ⟨p, hp, ps, hps, h⟩ := h
        obtain ⟨i, hi, rfl⟩ := Option.map_eq_some_iff.1 hp
        simp at h
        subst h
        simp only [Sem.run_bind, run_size hi, Result.andThen_ok, Sem.run_pure, ih ps hps]
    simp only [Sem.run_map, key _ _ h, Result.andThen_ok]
  · cases h

theorem All2.raws {I : Nat → Nat → Prop} {H : List Ob} : ∀ {l : List Value}, (∀ v ∈ l, v.oneCell' = true) → All2 (AtRep I w H c) (l.map At.raw) l
  | [], _ => trivial
  | v :: l, h => ⟨⟨rfl, h v (by simp)⟩, All2.raws fun v hv => h v (by simp [hv])⟩

theorem good_build {o : Oper} {t : TypeId} {ps : List (Nat × Operand)} {k x : V → St → Prop} (ho : o.op = .build t ⟨ps⟩) (r : Rel B I0 w0 c s a as w)
    (h : evBuild P t ps s fun v => k v s) : Good P o B I0 w0 a as w k x := by
  unfold evBuild at h
  split at h
  · rename_i pl z l hp hz hl
    split at h
    · rename_i xs hf
      obtain ⟨fields, hu, hpl⟩ := places_run hp
      obtain ⟨v, hv, hvc, h1⟩ := run_zero hz w
      obtain ⟨cells', g1, g2, g3⟩ := fill_rep (fparts_rep r hl) (cells := v.cells) (by rw [hvc]; exact All2.raws h1) (by rw [hvc]; exact h1) hf
      refine Good.value (v := .c true xs) (u := .agg cells') ?_ r ⟨_, rfl, g2⟩ h
      have g1' : Instr.fill (fun i : Nat => pl.toArray[i]?) v.cells (ps.map fun q => (q.1, a.eval q.2)) = some cells' := by
        have e : (fun i : Nat => pl.toArray[i]?) = fun i : Nat => pl[i]? := by funext i; simp
        rw [e]; exact g1
      simp only [execOp, ho, Instr.build, Sem.run_bind, hv, Result.andThen_ok, run_underlying hu, hpl w, List.map_toArray, g1']
      rfl
    · exact h.elim
  · exact h.elim

theorem reps_length (z : List Value) (n : Nat) : (reps z n).length = n * z.length := by
  induction n with
  | zero => simp [reps]
  | succ n ih => simp [reps, ih, Nat.add_mul, Nat.add_comm]
theorem reps_get (z : List Value) : ∀ (n q : Nat), q < n * z.length → (reps z n)[q]? = z[q % z.length]?
  | 0, q, h => by simp at h
  | n + 1, q, h => by
    simp only [reps]
    by_cases hq : q < z.length
    · rw [List.getElem?_append_left hq, Nat.mod_eq_of_lt hq]
    · have hz : 0 < z.length := by
        rcases Nat.eq_zero_or_pos z.length with h0 | h0
        · rw [h0] at h; simp at h
        · exact h0
      rw [List.getElem?_append_right (by omega), reps_get z n (q - z.length) (by rw [Nat.add_mul] at h; omega)]
      rw [← Nat.mod_eq_sub_mod (by omega)]

theorem good_buildSlice {o : Oper} {t len : Nat} {ps : List (Nat × Operand)} {k x : V → St → Prop} (ho : o.op = .buildSlice t len ⟨ps⟩) (r : Rel B I0 w0 c s a as w)
    (h : evBuildSlice P t len ps s k) : Good P o B I0 w0 a as w k x := by
  unfold evBuildSlice at h
  split at h
  · rename_i e sz by' z l hi' hl
    obtain ⟨hu, i, v, h1, h2, h3, h4, h5, h6, h7, h8⟩ := rowInfo_some hi'
    split at h
    · rename_i hb
      split at h
      · rename_i xs hf
        split at h
        · rename_i hd
          have hz0 : (zeroValue e).run P w = .ok v w := by unfold zeroValue typeInfo; simp [Sem.run_bind, h1, h4, Result.andThen_ok]
          have hsz : v.cells.size = sz := by rw [← h6, ← h5]; simp
          let zero : Array Value := if len * sz = 0 then #[] else v.cells
          let base : Array Value := (Array.range (len * sz)).map (fun j => zero[j % zero.size]!)
          have hbase : base.toList = reps z len := by
            apply List.ext_getElem?
            intro q
            by_cases hq : q < len * sz
            · rw [reps_get z len q (by rw [h6]; exact hq)]
              have hne : len * sz ≠ 0 := by omega
              have hm : q % sz < v.cells.size := by rw [hsz]; exact Nat.mod_lt _ h7
              have hm2 : q % sz < z.length := by rw [h6]; exact Nat.mod_lt _ h7
              simp only [base, zero, if_neg hne, Array.getElem?_toList, Array.getElem?_map, Array.getElem?_range, hq, if_true, Option.map_some, hsz, h6]
              rw [List.getElem?_eq_getElem hm2, getElem!_pos v.cells _ hm]
              congr 1
              subst h5
              simp
            · rw [List.getElem?_eq_none (by simp [base]; omega), List.getElem?_eq_none (by rw [reps_length, h6]; omega)]
          have h1r : ∀ u ∈ reps z len, u.oneCell' = true := by
            intro u hu
            obtain ⟨q, hq, rfl⟩ := List.getElem_of_mem hu
            have hq' := hq
            rw [reps_length] at hq'
            have := reps_get z len q hq'
            rw [List.getElem?_eq_getElem hq] at this
            exact h8 _ (List.mem_of_getElem? this.symm)
          obtain ⟨cells', g1, g2, g3⟩ := fill_rep (fparts_rep r hl) (cells := base) (by rw [hbase]; exact All2.raws h1r) (by rw [hbase]; exact h1r) hf
          have hxs : xs.length = len * sz := by
            have key : ∀ (l : List (Nat × List At)) (ys ys' : List At), fillA (fun i => some (i * sz, sz)) ys l = some ys' → ys'.length = ys.length := by
              intro l
              induction l with
              | nil => intro ys ys' h; simp [fillA] at h; subst h; rfl
              | cons p l ih =>
                intro ys ys' h
                obtain ⟨i, q⟩ := p
                simp only [fillA] at h
                split at h
                · rename_i hb
                  rw [ih _ _ h]
                  simp [putList]
                  omega
                · cases h
            rw [key _ _ _ hf, List.length_map, reps_length, h6]
          have hlc : cells'.size = len * sz := by have := g2.length; simp at this; omega
          have r2 := r.alloc_row cells' e sz len len (litRow xs sz) hlc (Nat.le_refl _) (by
            unfold maxLen
            have := Nat.le_mul_of_pos_right len h7
            omega) (fun q hq j hj => by
            have hlt := row_lt hq hj
            have hx : xs[q * sz + j]? = some xs[q * sz + j] := List.getElem?_eq_getElem (by omega)
            obtain ⟨u, hu, hr⟩ := g2.get hx
            refine ⟨u, by simpa using hu, ?_⟩
            simp only [litRow]
            have hgd : xs.getD (q * sz + j) (.d (.raw .nilIface)) = xs[q * sz + j] := by simp [List.getD, hx]
            rw [hgd]
            have hdd := List.all_eq_true.1 hd xs[q * sz + j] (List.getElem_mem (by omega))
            generalize xs[q * sz + j] = xx at *
            cases xx with
            | d x => exact hr
            | _ => simp [At.isD] at hdd)
          refine Good.value (v := .a (.row s.heap.length len)) (u := .slice (some ⟨w.heap.size, 0, none⟩) len len) ?_ r2 ⟨by simp, by simp [obLen, Ob.len], by simp [Cx.new, Cx.ad, Cx.cap]⟩ h
          have hbig : ¬ (len * sz > 2 ^ 24) := by omega
          simp only [execOp, ho, Instr.buildSlice, Sem.run_bind, run_underlying hu, Result.andThen_ok, run_size h1, h2, hbig, if_false, Sem.run_pure]
          by_cases hz : len * sz = 0
          · have hb0 : base = (Array.range (len * sz)).map (fun j => (#[] : Array Value)[j % (#[] : Array Value).size]!) := by simp only [base, zero, if_pos hz]
            rw [hb0] at g1
            simp only [if_pos hz, Sem.run_pure, Result.andThen_ok, List.map_toArray, g1, newRow, Sem.run_bind, run_newObj]
            rfl
          · have hb0 : base = (Array.range (len * sz)).map (fun j => v.cells[j % v.cells.size]!) := by simp only [base, zero, if_neg hz]
            rw [hb0] at g1
            simp only [if_neg hz, Sem.run_bind, hz0, Sem.run_pure, Result.andThen_ok, List.map_toArray, g1, newRow, run_newObj]
            rfl
        · exact h.elim
      · exact h.elim
    · exact h.elim
  · exact h.elim

theorem good_evOp2 {o : Oper} {k x : V → St → Prop} (r : Rel B I0 w0 c s a as w) (h : evOp2 P o s k x) : Good P o B I0 w0 a as w k x := by
  unfold evOp2 at h
  split at h
  · exact good_convert ‹_› r h
  · exact good_build ‹_› r h
  · exact good_buildSlice ‹_› r h
  · exact good_makeSlice ‹_› r h
  · split at h
    · exact good_makeFunc ‹_› r ‹_› ‹_› h
    · exact h.elim
  · rename_i t y ho
    have hy' := r.eval y
    split at h
    · rename_i hc
      split at h
      · rename_i v hy
        rw [hy] at hy'
        exact good_makeInterface (x0 := .unk) ho r hc hy'.1 h
      · rename_i hy
        rw [hy] at hy'
        obtain ⟨cs, e, hcs⟩ := hy'
        have : cs = #[] := by
          cases cs with
          | mk l => cases l with
            | nil => rfl
            | cons x l => exact hcs.elim
        subst this
        exact good_makeInterface (x0 := .unk) ho r hc e h
      · exact h.elim
    · exact h.elim
  · split at h
    · exact good_panic ‹_› r ‹_› h
    · exact h.elim
  · split at h
    · exact good_neg ‹_› r ‹_› h
    · exact h.elim
  · rename_i y z t t' ho
    split at h
    · rename_i hta
      have hy' := r.eval y
      have hz' := r.eval z
      unfold evAppend at h
      split at h
      · rename_i e sz by' zz v y0 hi hy hz
        rw [hy] at hy'; rw [hz] at hz'
        split at h
        · rename_i m getx hs
          split at h
          · rename_i id n
            split at h
            · rename_i e' sz' n0 get fz hob
              split at h
              · rename_i hb
                obtain ⟨rfl, rfl, hb1, hb2, hb3⟩ := hb
                exact good_append_row ho hta r hi hy' hz' hs hob hb1 hb2 hb3 h
              · exact h.elim
            · exact h.elim
          · obtain ⟨ey, _⟩ := hy'
            split at h
            · rename_i hm
              subst hm
              obtain ⟨hu, i, v, h1, h2, _⟩ := rowInfo_some hi
              obtain ⟨vs, hl, _, hsrc⟩ := srcA_vals (P := P) r hs hz'
              obtain ⟨d, hu', hd'⟩ := appArg_some hta hu
              refine Good.value (v := .raw _) (u := .slice none 0 0) ?_ r ⟨rfl, rfl⟩ h
              have := run_append_same (P := P) (w := w) t t' o.type e i d hu hu' hd' h1 none (a.eval z) vs (by rw [h2]; exact hl) (by rw [h2]; exact hsrc)
              simp only [execOp, ho, resolve, invoke, builtin, Sem.run_bind, Sem.run_pure, Result.andThen_ok, List.map_toArray, List.map_cons, List.map_nil, ey, this]
            · rename_i hm
              split at h
              · rename_i hb
                exact good_append_new ho hta r hi ey hz' hs (by omega) hb.1 hb.2 h
              · exact h.elim
          · obtain ⟨a0, ey⟩ := hy'
            split at h
            · rename_i hm
              subst hm
              obtain ⟨hu, i, v, h1, h2, _⟩ := rowInfo_some hi
              obtain ⟨vs, hl, _, hsrc⟩ := srcA_vals (P := P) r hs hz'
              obtain ⟨d, hu', hd'⟩ := appArg_some hta hu
              refine Good.value (v := .a .emp) (u := .slice a0 0 0) ?_ r ⟨_, rfl⟩ h
              have := run_append_same (P := P) (w := w) t t' o.type e i d hu hu' hd' h1 a0 (a.eval z) vs (by rw [h2]; exact hl) (by rw [h2]; exact hsrc)
              simp only [execOp, ho, resolve, invoke, builtin, Sem.run_bind, Sem.run_pure, Result.andThen_ok, List.map_toArray, List.map_cons, List.map_nil, ey, this]
            · rename_i hm
              split at h
              · rename_i hb
                exact good_append_new ho hta r hi ey hz' hs (by omega) hb.1 hb.2 h
              · exact h.elim
          · exact h.elim
        · exact h.elim
      · exact h.elim
    · exact h.elim
  · split at h
    · exact good_minmax ‹_› (.inl ⟨rfl, rfl⟩) r ‹_› ‹_› h
    · exact h.elim
  · split at h
    · exact good_minmax ‹_› (.inr ⟨rfl, rfl⟩) r ‹_› ‹_› h
    · exact h.elim
  · exact good_evOp3 r h
end
end Go.Proofs.Vl
