/- A part of the proof: Ops4. -/
import Derived.Test.YtddngfpgeifffaaGreatDoorVlOps3
set_option linter.unusedVariables false
set_option linter.unusedSimpArgs false
/- A small logic of abstract values: each operation's soundness (4). -/
namespace Go.Proofs.Vl
open Go Go.RowKit

section
variable {P : Program} {B : Nat} {I0 : Nat → Nat → Prop} {w0 w : World} {c : Cx} {s : St} {a : Act} {as : List Act}

theorem convI_some {t : TypeId} {k : IntKind} (h : convI P t = some k) : P.underlying t = some (.int k) := by
  unfold convI at h
  split at h
  · simp at h; subst h; assumption
  · cases h
theorem isBytes_some {t : TypeId} (h : isBytes P t = true) : ∃ e, P.underlying t = some (.slice e) ∧ P.underlying e = some (.int .u8) := by
  unfold isBytes at h
  split at h
  · rename_i e he
    split at h
    · exact ⟨e, he, by assumption⟩
    · cases h
  · cases h

/-- The values of a slice that is read. -/
theorem src_vals (r : Rel B I0 w0 c s a as w) {sz m : Nat} {y : At} {get : Nat → Nat → D} {u : Value} (h : src s.heap sz y = some (m, get)) (hu : AtRep (imm B I0 c s.heap w) w s.heap c y u) :
    ∃ (ad : Option Addr) (cp : Nat) (vs : List Value), u = .slice ad m cp ∧ m ≤ cp ∧ vs.length = m * sz ∧ (∀ i, i < m → ∀ j, j < sz → ∃ v, vs[i * sz + j]? = some v ∧ (get i j).Rep (imm B I0 c s.heap w) w v) ∧ (ad = none → m = 0) ∧
      (0 < m → ∃ b o, ad = some ⟨b, o, none⟩ ∧ ∀ j v, vs[j]? = some v → w.cell? ⟨b, o + j, none⟩ = some v) := by
  have build : ∀ (b o : Nat), (∀ i, i < m → ∀ j, j < sz → ∃ x, w.cell? ⟨b, o + (i * sz + j), none⟩ = some x ∧ (get i j).Rep (imm B I0 c s.heap w) w x) →
      ∃ vs : List Value, vs.length = m * sz ∧ (∀ i, i < m → ∀ j, j < sz → ∃ v, vs[i * sz + j]? = some v ∧ (get i j).Rep (imm B I0 c s.heap w) w v) ∧ ∀ j v, vs[j]? = some v → w.cell? ⟨b, o + j, none⟩ = some v := by
    intro b o hc
    have hin : ∀ q, q < m * sz → q / sz < m ∧ q % sz < sz ∧ q / sz * sz + q % sz = q := fun q hq => by
      have hs : 0 < sz := by
        rcases Nat.eq_zero_or_pos sz with h | h
        · subst h; simp at hq
        · exact h
      exact ⟨(Nat.div_lt_iff_lt_mul hs).2 hq, Nat.mod_lt _ hs, Nat.div_add_mod' q sz⟩
    have hcell : ∀ q, q < m * sz → ∃ x, w.cell? ⟨b, o + q, none⟩ = some x := fun q hq => by
      obtain ⟨h1, h2, h3⟩ := hin q hq
      obtain ⟨x, hx, _⟩ := hc _ h1 _ h2
      rw [h3] at hx
      exact ⟨x, hx⟩
    refine ⟨(List.range (m * sz)).map fun q => (w.cell? ⟨b, o + q, none⟩).getD undef, by simp, fun i hi j hj => ?_, fun j v hv => ?_⟩
    · obtain ⟨x, hx, hr⟩ := hc i hi j hj
      have hq : i * sz + j < m * sz := by
        have := Nat.mul_le_mul_right sz (show i + 1 ≤ m by omega)
        rw [Nat.add_mul] at this
        omega
      exact ⟨x, by simp [hq, hx], hr⟩
    · rw [List.getElem?_map, Option.map_eq_some_iff] at hv
      obtain ⟨q, hq, rfl⟩ := hv
      have hq' := List.getElem?_eq_some_iff.1 hq
      obtain ⟨h1, h2⟩ := hq'
      simp at h1 h2
      subst h2
      obtain ⟨x, hx⟩ := hcell j h1
      simp [hx]
  unfold src at h
  split at h
  · rename_i m1 sz1 get1
    split at h
    · rename_i e
      subst e
      simp only [Option.some.injEq, Prod.mk.injEq] at h
      obtain ⟨rfl, rfl⟩ := h
      obtain ⟨ba, cp, e, hcap, hmx, hc⟩ := hu
      rcases Nat.eq_zero_or_pos m1 with h0 | h0
      · subst h0
        exact ⟨ba, cp, [], e, hcap, by simp, fun i hi => absurd hi (by omega), fun _ => rfl, fun h => absurd h (by omega)⟩
      · obtain ⟨b, o, ea, hcell⟩ := hc h0
        obtain ⟨vs, h1, h2, h3⟩ := build b o fun i hi j hj => (hcell i hi j hj).2
        exact ⟨ba, cp, vs, e, hcap, h1, h2, (fun h => by rw [ea] at h; cases h), fun _ => ⟨b, o, ea, h3⟩⟩
    · cases h
  · rename_i id m'
    split at h
    · rename_i e sz' n0 get' fz hob
      split at h
      · rename_i e'
        subst e'
        simp only [Option.some.injEq, Prod.mk.injEq] at h
        obtain ⟨rfl, rfl⟩ := h
        obtain ⟨hid, hn, ey⟩ := hu
        obtain ⟨hlen, hmx, hr0⟩ := r.obs id _ hob
        have hn0 : m' ≤ n0 := by simpa [obLen, hob, Ob.len] using hn
        cases hk0 : c.κ id with
        | none =>
          rw [cap_none hk0] at hlen
          have h0 : m' = 0 := by omega
          subst h0
          exact ⟨_, _, [], ey, by omega, by simp, fun i hi => absurd hi (by omega), fun _ => rfl, fun h => absurd h (by omega)⟩
        | some ck =>
        obtain ⟨hB, cur, hc, hsz, hg⟩ := hr0 ck hk0
        rw [ad_some hk0, cap_some hk0] at ey
        rw [cap_some hk0] at hlen
        obtain ⟨vs, h1, h2, h3⟩ := build (c.ρ id) 0 fun i hi j hj => by
          obtain ⟨x, hx, hr⟩ := hg i (by omega) j hj
          exact ⟨x, by simp [World.cell?, hc, hx], hr⟩
        exact ⟨_, _, vs, ey, by omega, h1, h2, (fun h => by cases h), fun _ => ⟨_, _, rfl, h3⟩⟩
      · cases h
    · cases h
  · simp only [Option.some.injEq, Prod.mk.injEq] at h
    obtain ⟨rfl, rfl⟩ := h
    exact ⟨none, 0, [], hu.1, Nat.le_refl _, by simp, fun i hi => absurd hi (by omega), fun _ => rfl, fun h => absurd h (by omega)⟩
  · simp only [Option.some.injEq, Prod.mk.injEq] at h
    obtain ⟨rfl, rfl⟩ := h
    obtain ⟨ad, e⟩ := hu
    exact ⟨ad, 0, [], e, Nat.le_refl _, by simp, fun i hi => absurd hi (by omega), fun _ => rfl, fun h => absurd h (by omega)⟩
  · cases h

theorem run_firstCells_vals {sz m cp : Nat} {ad : Option Addr} {vs : List Value} (hl : vs.length = m * sz) (h0 : ad = none → m = 0)
    (hc : 0 < m → ∃ b o, ad = some ⟨b, o, none⟩ ∧ ∀ j v, vs[j]? = some v → w.cell? ⟨b, o + j, none⟩ = some v) : (Builtin.firstCells sz m (.slice ad m cp)).run P w = .ok vs.toArray w := by
  rcases Nat.eq_zero_or_pos m with h | h
  · subst h
    have : vs = [] := List.eq_nil_of_length_eq_zero (by simpa using hl)
    subst this
    cases ad <;> simp [Builtin.firstCells, loadCells, loadCellsFrom]
  · obtain ⟨b, o, rfl, hcell⟩ := hc h
    exact run_firstCells_some w sz m _ m cp vs hl fun j v hv => by rw [Addr.add_lit]; exact hcell j v hv

theorem good_convert {o : Oper} {t t' : TypeId} {y : Operand} {k x : V → St → Prop} (ho : o.op = .convert t t' y) (r : Rel B I0 w0 c s a as w)
    (h : evConvert P t t' (s.eval y) s fun v => k v s) : Good P o B I0 w0 a as w k x := by
  have hy' := r.eval y
  have ex : ∀ u w', (convert t t' (a.eval y)).run P w = .ok u w' → (execOp a.eval o).run P w = .ok (.value u) w' := fun u w' hr => by
    simp only [execOp, ho, Sem.run_bind, hr, Result.andThen_ok, Sem.run_pure]
  unfold evConvert at h
  split at h
  · rename_i id off hy
    rw [hy] at hy'
    obtain ⟨hid, ey⟩ := hy'
    split at h
    · rename_i e xs hob
      split at h
      · rename_i hc
        obtain ⟨hlt, hc⟩ := hc
        obtain ⟨hB, cur, hcur, ha, _⟩ := r.obs id _ hob
        have hlen := ha.length
        have hsh : w.shape? (c.ρ id) = some (e, cur.size) := by simp [World.shape?, hcur]
        have hoff : off < cur.size := by simp at hlen; omega
        refine Good.value (v := .a (.ref id off)) (ex (.pointer (some ⟨c.ρ id, off, none⟩)) w ?_) r ⟨hid, rfl⟩ h
        rw [ey]
        simp only [Bool.or_eq_true] at hc
        rcases hc with hc | hc
        · unfold toUnsafe at hc
          split at hc
          · rename_i u hs hd
            split at hc
            · rename_i j hj
              exact Lib.run_to_unsafe w ⟨c.ρ id, off, none⟩ hs hd hj (of_decide_eq_true hc) hsh hoff
            · cases hc
          · cases hc
        · unfold fromUnsafe at hc
          split at hc
          · rename_i u hs hd
            simp only [Bool.and_eq_true] at hc
            obtain ⟨j, hj⟩ := Option.isSome_iff_exists.1 hc.1
            have hls : xs.length = cur.size := by simpa using hlen
            rw [hls] at hc
            exact Lib.run_from_unsafe w ⟨c.ρ id, off, none⟩ hs hd hj hsh hc.2
          · cases hc
      · exact h.elim
    · exact h.elim
  · rename_i kk n hy
    rw [hy] at hy'
    obtain ⟨ey, _⟩ := hy'
    split at h
    · rename_i p kd ht hk
      obtain ⟨g, n0⟩ := p
      obtain ⟨d, i, hu, _⟩ := ty_some ht
      refine Good.value (v := .raw _) (ex (.int kd (kd.wrap n)) w ?_) r ⟨rfl, rfl⟩ h
      rw [ey]
      unfold convert
      simp only [Sem.run_bind, run_underlying hu, run_underlying (convI_some hk), Result.andThen_ok]
      cases d <;> rfl
    · exact h.elim
  · rename_i b hy
    rw [hy] at hy'
    obtain ⟨ey, _⟩ := hy'
    split at h
    · rename_i p ht
      obtain ⟨g, n0⟩ := p
      obtain ⟨d, i, hu, _⟩ := ty_some ht
      split at h
      · rename_i hk
        refine Good.value (v := .raw _) (ex (.string b) w ?_) r ⟨rfl, rfl⟩ h
        rw [ey]
        unfold convert
        simp only [Sem.run_bind, run_underlying hu, run_underlying (isStr_some hk), Result.andThen_ok]
        cases d <;> rfl
      · exact h.elim
    · exact h.elim
  · rename_i y0 _ _ hy
    rw [hy] at hy'
    split at h
    · rename_i hk
      simp only [Bool.and_eq_true] at hk
      obtain ⟨e, hu1, hu2⟩ := isBytes_some hk.2
      split at h
      · rename_i m get hs
        obtain ⟨hb, hk'⟩ := h
        obtain ⟨ad, cp, vs, eu, hcp, hl, hv, hn, hc⟩ := src_vals r hs hy'
        simp only [Nat.mul_one] at hl
        refine Good.value (v := .raw _) (ex (.string ⟨⟨(List.range m).map fun i => byteOf (get i 0)⟩⟩) w ?_) r ⟨rfl, rfl⟩ hk'
        rw [eu]
        rcases Nat.eq_zero_or_pos m with h0 | h0
        · subst h0
          rw [run_convert_bytes_string w t t' e _ 0 cp hu1 hu2 (isStr_some hk.1)]
          cases ad with
          | none => simp [Conv.bytesToString]; rfl
          | some ad => rw [run_bytesToString w ad 0 cp [] (by simp [loadCells, loadCellsFrom])]; rfl
        · obtain ⟨b, off, rfl, hcell⟩ := hc h0
          have hbv : ∀ i, i < m → w.cell? ⟨b, off + i, none⟩ = some (.int .u8 (((List.range m).map fun i => match get i 0 with | .raw (.int _ n) => n | _ => 0).getD i 0)) := by
            intro i hi
            obtain ⟨v, hv1, hv2⟩ := hv i hi 0 (by omega)
            obtain ⟨n, hn⟩ := hb i hi
            rw [hn] at hv2
            obtain ⟨rfl, _⟩ := hv2
            simp only [Nat.mul_one, Nat.add_zero] at hv1
            rw [hcell i _ hv1]
            simp [List.getD, hi, hn]
          rw [run_convert_bytes_arg w t e hu1 hu2 b off m cp _ (by simp) hbv t' (isStr_some hk.1)]
          congr 2
          simp only [strOfNums, List.map_map]
          congr 2
          apply List.map_congr_left
          intro i hi
          obtain ⟨n, hn⟩ := hb i (by simpa using hi)
          simp [hn, byteOf]
      · exact h.elim
    · exact h.elim
  · exact h.elim

theorem isConcrete_some {t : TypeId} (h : isConcrete P t = true) : ∃ d, P.underlying t = some d ∧ ∀ ms, d ≠ .interface ms := by
  unfold isConcrete at h
  split at h
  · cases h
  · rename_i d hd hn; exact ⟨_, hn, fun ms e => hd ms e⟩
  · cases h

theorem good_makeInterface {o : Oper} {t : TypeId} {y : Operand} {x0 : V} {u : Value} {k x : V → St → Prop} (ho : o.op = .makeInterface t y) (r : Rel B I0 w0 c s a as w) (hc : isConcrete P t = true)
    (hu : a.eval y = u) (h : k (.raw (.iface t u)) s) : Good P o B I0 w0 a as w k x := by
  obtain ⟨d, hd, hn⟩ := isConcrete_some hc
  refine Good.value (v := .raw _) (u := .iface t u) ?_ r ⟨rfl, rfl⟩ h
  simp only [execOp, ho, Instr.makeInterface, run_underlying hd, Sem.run_bind, Result.andThen_ok, hu]
  cases d <;> first | exact absurd rfl (hn _) | rfl

theorem good_panic {o : Oper} {t : TypeId} {y : Operand} {v : Value} {k x : V → St → Prop} (ho : o.op = .panic y) (r : Rel B I0 w0 c s a as w) (hy : s.eval y = .c false [.d (.raw (.iface t v))])
    (h : x (.raw (.iface t v)) s) : Good P o B I0 w0 a as w k x := by
  have hy' := r.eval y
  rw [hy] at hy'
  obtain ⟨ey, _⟩ := hy'
  refine Good.panic (v := .raw (.iface t v)) (u := .iface t v) (w' := w) ?_ r ⟨rfl, rfl⟩ h
  simp [execOp, ho, ey, Instr.panic]

theorem good_neg {o : Oper} {t : TypeId} {y : Operand} {kk : IntKind} {n : Int} {k x : V → St → Prop} (ho : o.op = .unOp .neg t y) (r : Rel B I0 w0 c s a as w) (hy : s.eval y = .c false [.d (.raw (.int kk n))])
    (h : k (.raw (.int kk (kk.wrap (0 - n)))) s) : Good P o B I0 w0 a as w k x := by
  have hy' := r.eval y
  rw [hy] at hy'
  obtain ⟨ey, _⟩ := hy'
  refine Good.value (v := .raw _) (u := .int kk (kk.wrap (0 - n))) ?_ r ⟨rfl, rfl⟩ h
  simp [execOp, ho, ey, Op.unary, Op.intArith]

theorem good_minmax {o : Oper} {b : Builtin} {y z : Operand} {ts : Array TypeId} {kk k' : IntKind} {n m q : Int} {k x : V → St → Prop} (ho : o.op = .call { callee := .builtin b, args := #[y, z], argTypes := ts })
    (hb : (b = .min ∧ q = if m < n then m else n) ∨ (b = .max ∧ q = if n < m then m else n)) (r : Rel B I0 w0 c s a as w)
    (hy : s.eval y = .c false [.d (.raw (.int kk n))]) (hz : s.eval z = .c false [.d (.raw (.int k' m))])
    (h : k (.raw (.int kk q)) s) : Good P o B I0 w0 a as w k x := by
  have hy' := r.eval y
  have hz' := r.eval z
  rw [hy] at hy'; rw [hz] at hz'
  obtain ⟨ey, _⟩ := hy'
  obtain ⟨ez, _⟩ := hz'
  refine Good.value (v := .raw _) (u := .int kk q) ?_ r ⟨rfl, rfl⟩ h
  rcases hb with ⟨rfl, rfl⟩ | ⟨rfl, rfl⟩
  · simp [execOp, ho, ey, ez, resolve, invoke, builtin, Builtin.min_, Builtin.min2]
  · simp [execOp, ho, ey, ez, resolve, invoke, builtin, Builtin.max_, Builtin.max2]

/-- A new closure. -/
theorem Rel.newClo (r : Rel B I0 w0 c s a as w) (fn : Fn) (f cp : List (Bool × List At)) (fs cs : Array Value) (hf : All2 (PRep (imm B I0 c s.heap w) w s.heap c) f fs.toList) (hc : All2 (PRep (imm B I0 c s.heap w) w s.heap c) cp cs.toList) :
    Rel B I0 w0 (c.newClo s.heap.length (.func fn fs cs)) { s with heap := s.heap ++ [.clo fn f cp] } a as w := by
  have hi : ∀ b o, imm B I0 c s.heap w b o → imm B I0 (c.newClo s.heap.length (.func fn fs cs)) (s.heap ++ [.clo fn f cp]) w b o := by
    intro b o h
    rcases h with h | ⟨h1, h2, h3⟩
    · exact .inl h
    · refine .inr ⟨h1, h2, fun id ob hob hb hρ => ?_⟩
      rcases getElem?_snoc hob with ⟨_, hx⟩ | ⟨_, rfl⟩
      · exact h3 id ob hx hb hρ
      · simp [Ob.blk] at hb
  have hs : Step (fun _ => True) (imm B I0 c s.heap w) w s.heap c (imm B I0 (c.newClo s.heap.length (.func fn fs cs)) (s.heap ++ [.clo fn f cp]) w) w (s.heap ++ [.clo fn f cp]) (c.newClo s.heap.length (.func fn fs cs)) :=
    ⟨fun b o h => ⟨hi b o h, rfl⟩, fun id hid _ => ⟨by simp; omega, by rw [obLen_snoc _ _ _ hid]; exact Nat.le_refl _, rfl, rfl, by simp only [Cx.newClo]; rw [if_neg (by omega)]⟩⟩
  refine r.step hs r.below r.size (fun _ h => h) (fun id ob h => ?_) (fun i j oi oj hi hj bi bj e => ?_)
  · rcases getElem?_snoc h with ⟨hid, hx⟩ | ⟨rfl, rfl⟩
    · exact ObRep.mono hs hid trivial (Ob.fits_all _) (fun _ => rfl) (r.obs id ob hx)
    · exact ⟨fs, cs, by simp [Cx.newClo], hf.imp fun p v h => CRep.mono hs (fun x _ => At.fits_all x) h, hc.imp fun p v h => CRep.mono hs (fun x _ => At.fits_all x) h⟩
  · rcases getElem?_snoc hi with ⟨_, hi2⟩ | ⟨_, rfl⟩
    · rcases getElem?_snoc hj with ⟨_, hj2⟩ | ⟨_, rfl⟩
      · exact r.inj i j oi oj hi2 hj2 bi bj e
      · simp [Ob.blk] at bj
    · simp [Ob.blk] at bi

theorem good_makeFunc {o : Oper} {fn : Fn} {first cap : List Operand} {f cp : List (Bool × List At)} {k x : V → St → Prop} (ho : o.op = .makeFunc fn ⟨first⟩ ⟨cap⟩) (r : Rel B I0 w0 c s a as w)
    (hf : parts s first = some f) (hc : parts s cap = some cp) (h : k (.a (.clo s.heap.length)) { s with heap := s.heap ++ [.clo fn f cp] }) : Good P o B I0 w0 a as w k x := by
  have r2 := r.newClo fn f cp (first.map a.eval).toArray (cap.map a.eval).toArray (by simpa using parts_rep r hf) (by simpa using parts_rep r hc)
  refine Good.value (v := .a (.clo s.heap.length)) (u := .func fn (first.map a.eval).toArray (cap.map a.eval).toArray) ?_ r2 ⟨by simp, by simp [Cx.newClo], rfl⟩ h
  simp [execOp, ho, Instr.makeFunc]

theorem good_makeSlice {o : Oper} {t : TypeId} {y z : Operand} {k x : V → St → Prop} (ho : o.op = .makeSlice t y z) (r : Rel B I0 w0 c s a as w)
    (h : evMakeSlice P t (s.eval y) (s.eval z) s k) : Good P o B I0 w0 a as w k x := by
  have hy' := r.eval y
  have hz' := r.eval z
  unfold evMakeSlice at h
  split at h
  · rename_i e sz by' z0 kn n km m hi hy hz
    rw [hy] at hy'; rw [hz] at hz'
    obtain ⟨ey, _⟩ := hy'
    obtain ⟨ez, _⟩ := hz'
    obtain ⟨hu, i, v, h1, h2, h3, h4, h5, h6, h7, h8⟩ := rowInfo_some hi
    split at h
    · rename_i hb
      obtain ⟨hb1, hb2, hb3, hb4⟩ := hb
      have hsz : v.cells.size = sz := by rw [← h6, ← h5]; simp
      have hrun : (execOp a.eval o).run P w = .ok (.value (.slice (some ⟨w.heap.size, 0, none⟩) n.toNat m.toNat)) (w.alloc (.cells (madeCells v.cells (m.toNat * sz)) e)) := by
        have := run_make (P := P) w t e i v hu h1 h4 kn km n m hb1 hb2 (by rw [h3]; omega) hb4
        rw [h2] at this
        simp only [execOp, ho, ey, ez, Sem.run_bind, this, Result.andThen_ok, Sem.run_pure]
      have hcell : ∀ q j, j < sz → q * sz + j < m.toNat * sz → (madeCells v.cells (m.toNat * sz))[q * sz + j]? = some (z0.getD j .nilIface) := by
        intro q j hj hq
        have h9 : (q * sz + j) % sz = j := by rw [Nat.add_comm, Nat.add_mul_mod_self_right, Nat.mod_eq_of_lt hj]
        have h10 : j < v.cells.size := by omega
        simp only [madeCells, Array.getElem?_map, Array.getElem?_range, hq, if_true, Option.map_some, hsz, h9]
        rw [← h5]
        simp [List.getD, h10]
      have r2 := r.alloc_row (madeCells v.cells (m.toNat * sz)) e sz n.toNat m.toNat (fun _ j => .raw (z0.getD j .nilIface)) (by simp [madeCells]) (by omega) (by unfold maxLen; omega) (fun q hq j hj => by
        refine ⟨_, hcell q j hj ?_, rfl, ?_⟩
        · have := Nat.mul_le_mul_right sz (show q + 1 ≤ m.toNat by omega)
          rw [Nat.add_mul] at this
          omega
        · refine h8 _ ?_
          have : j < z0.length := by omega
          simp [List.getD, this])
      exact Good.value (v := .a (.row s.heap.length n.toNat)) hrun r2 ⟨by simp, by simp [obLen, Ob.len], by simp [Cx.new, Cx.ad, Cx.cap]⟩ h
    · exact h.elim
  · exact h.elim
end
end Go.Proofs.Vl
