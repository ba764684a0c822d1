/- A part of the proof: OpsM. -/
import Derived.Carry
import Derived.MapKept
import Derived.RangeFuncRecord
import Derived.Test.YtddngfpgeifffaaGreatDoorVlAppend
set_option linter.unusedVariables false
set_option linter.unusedSimpArgs false
/- A small logic of abstract values: each operation's soundness (M): maps. -/
namespace Go.Proofs.Vl
open Go Go.RowKit

section
variable {P : Program} {B : Nat} {I0 : Nat → Nat → Prop} {w0 w : World} {c : Cx} {s : St} {a : Act} {as : List Act}

theorem mapInfo_some {t : TypeId} {kk : Option IntKind} {z : Value} (h : mapInfo P t = some (kk, z)) :
    ∃ k e, P.underlying t = some (.map k e) ∧ (P.info? e).bind (·.zero) = some z ∧ z.oneCell' = true ∧ ((∃ κ, kk = some κ ∧ P.underlying k = some (.int κ)) ∨ (kk = none ∧ P.underlying k = some .string)) := by
  unfold mapInfo at h
  split at h
  · rename_i k e hu
    split at h
    · rename_i z0 hz
      split at h
      · rename_i h1
        split at h
        · rename_i κ hk; simp at h; obtain ⟨rfl, rfl⟩ := h; exact ⟨k, e, hu, hz, h1, .inl ⟨κ, rfl, hk⟩⟩
        · rename_i hk; simp at h; obtain ⟨rfl, rfl⟩ := h; exact ⟨k, e, hu, hz, h1, .inr ⟨rfl, hk⟩⟩
        · cases h
      · cases h
    · cases h
  · cases h
theorem run_zeroV {e : TypeId} {z : Value} (h : (P.info? e).bind (·.zero) = some z) (w : World) : (zeroValue e).run P w = .ok z w := by
  obtain ⟨i, hi, hz⟩ := Option.bind_eq_some_iff.1 h
  unfold zeroValue typeInfo
  simp [Sem.run_bind, hi, hz, Result.andThen_ok]

/-- The key's description and value. -/
def KeyAt (kk : Option IntKind) (d : TypeDesc) (key : Value) (q : MK) : Prop :=
  (∃ κ n, kk = some κ ∧ d = .int κ ∧ key = .int κ n ∧ q = .i n) ∨ (∃ b : ByteArray, kk = none ∧ d = .string ∧ key = .string b ∧ q = .s b.data.toList)
theorem mkey_some {kk : Option IntKind} {key : Value} {q : MK} {k : TypeId} (h : mkey kk key = some q) (hk : (∃ κ, kk = some κ ∧ P.underlying k = some (.int κ)) ∨ (kk = none ∧ P.underlying k = some .string)) :
    ∃ d, P.underlying k = some d ∧ KeyAt kk d key q := by
  unfold mkey at h
  split at h
  · rename_i κ κ' n
    split at h
    · rename_i e; subst e; simp at h; subst h
      rcases hk with ⟨κ2, e, hu⟩ | ⟨e, _⟩
      · simp at e; subst e; exact ⟨_, hu, .inl ⟨_, n, rfl, rfl, rfl, rfl⟩⟩
      · cases e
    · cases h
  · rename_i b
    simp at h; subst h
    rcases hk with ⟨κ2, e, hu⟩ | ⟨_, hu⟩
    · cases e
    · exact ⟨_, hu, .inr ⟨b, rfl, rfl, rfl, rfl⟩⟩
  · cases h
theorem run_checkKey {k : TypeId} {d : TypeDesc} {kk : Option IntKind} {key : Value} {q : MK} (hu : P.underlying k = some d) (hk : KeyAt kk d key q) (b : Bool) (w : World) : (Instr.checkKey b 10000 k key).run P w = .ok () w := by
  refine Go.MapKept.run_checkKey hu ?_ b 9999
  rcases hk with ⟨κ, n, _, rfl, rfl, _⟩ | ⟨b', _, rfl, rfl, _⟩ <;> simp [Go.MapKept.IsKey]
theorem sameNow_rep {kk : Option IntKind} {d : TypeDesc} {key : Value} {q k' : MK} {v : Value} (hk : KeyAt kk d key q) (hv : k'.Rep kk v) : Instr.sameNow d key v = some (decide (k' = q)) := by
  rcases hk with ⟨κ, n, rfl, rfl, rfl, rfl⟩ | ⟨b, rfl, rfl, rfl, rfl⟩
  · cases k' with
    | i m => obtain ⟨κ2, e, rfl⟩ := hv; simp at e; subst e; simp [Instr.sameNow]; exact decide_eq_decide.2 ⟨fun h => h.symm, fun h => h.symm⟩
    | s b => obtain ⟨e, _⟩ := hv; cases e
  · cases k' with
    | i m => obtain ⟨κ2, e, _⟩ := hv; cases e
    | s b' =>
      obtain ⟨_, rfl⟩ := hv
      simp only [Instr.sameNow]
      by_cases h : b' = b.data.toList
      · subst h
        have e : (⟨⟨b.data.toList⟩⟩ : ByteArray) = b := rfl
        rw [e, (Go.MapKept.bytes_beq b b).2 rfl]; simp
      · have h1 : ¬ (b = ⟨⟨b'⟩⟩) := fun e => h (by rw [e])
        have h2 : ¬ (MK.s b' = MK.s b.data.toList) := fun e => h (by injection e)
        have h3 : (b == (⟨⟨b'⟩⟩ : ByteArray)) = false := by
          cases hh : (b == (⟨⟨b'⟩⟩ : ByteArray)) with
          | false => rfl
          | true => exact absurd ((Go.MapKept.bytes_beq _ _).1 hh) h1
        simp [h3, h2]

/-- Where a key stands. -/
def mpos : List (MK × D) → MK → Option Nat
  | [], _ => none
  | (k, _) :: l, q => if k = q then some 0 else (mpos l q).map (· + 1)
theorem findNow_rep {I : Nat → Nat → Prop} {kk : Option IntKind} {d : TypeDesc} {key : Value} {q : MK} (hk : KeyAt kk d key q) : ∀ {l : List (MK × D)} {es : List MapEntry} (i : Nat),
    All2 (fun p e => p.1.Rep kk e.key ∧ p.2.Rep I w e.val) l es →
    (mpos l q = none ∧ mget l q = none ∧ Instr.findNow d key es i = some none) ∨
    (∃ j dv v, mpos l q = some j ∧ mget l q = some dv ∧ dv.Rep I w v ∧ j < es.length ∧ Instr.findNow d key es i = some (some (i + j, v)))
  | [], [], i, _ => .inl ⟨rfl, rfl, rfl⟩
  | (k', d') :: l, e :: es, i, ⟨⟨h1, h2⟩, h3⟩ => by
    have hs := sameNow_rep hk h1
    by_cases hq : k' = q
    · refine .inr ⟨0, d', e.val, by simp [mpos, hq], by simp [mget, hq], h2, by simp, ?_⟩
      simp [Instr.findNow, hs, hq]
    · have hf : Instr.findNow d key (e :: es) i = Instr.findNow d key es (i + 1) := by simp [Instr.findNow, hs, hq]
      rcases findNow_rep hk (i + 1) h3 with ⟨g1, g2, g3⟩ | ⟨j, dv, v, g1, g2, g3, g4, g5⟩
      · exact .inl ⟨by simp [mpos, hq, g1], by simp [mget, hq, g2], by rw [hf, g3]⟩
      · exact .inr ⟨j + 1, dv, v, by simp [mpos, hq, g1], by simp [mget, hq, g2], g3, by simp; exact g4, by rw [hf, g5]; congr 3; omega⟩

theorem mpos_get {l : List (MK × D)} {q : MK} : ∀ {j : Nat}, mpos l q = some j → ∃ d, l[j]? = some (q, d) := by
  induction l with
  | nil => intro j h; cases h
  | cons p l ih =>
    obtain ⟨k, d'⟩ := p
    intro j h
    simp only [mpos] at h
    split at h
    · rename_i hq; simp at h; subst h; subst hq; exact ⟨d', rfl⟩
    · obtain ⟨j', h1, rfl⟩ := Option.map_eq_some_iff.1 h
      obtain ⟨d, hd⟩ := ih h1
      exact ⟨d, by simpa using hd⟩
theorem mset_none {l : List (MK × D)} {q : MK} {d : D} (h : mpos l q = none) : mset l q d = l ++ [(q, d)] := by
  induction l with
  | nil => rfl
  | cons p l ih =>
    obtain ⟨k, d'⟩ := p
    simp only [mpos] at h
    split at h
    · cases h
    · rename_i hq
      simp only [Option.map_eq_none_iff] at h
      simp [mset, hq, ih h]
theorem mset_some {l : List (MK × D)} {q : MK} {d : D} : ∀ {j : Nat}, mpos l q = some j → mset l q d = l.modify j fun p => (p.1, d) := by
  induction l with
  | nil => intro j h; cases h
  | cons p l ih =>
    obtain ⟨k, d'⟩ := p
    intro j h
    simp only [mpos] at h
    split at h
    · rename_i hq; simp at h; subst h; simp [mset, hq]
    · rename_i hq
      obtain ⟨j', h1, rfl⟩ := Option.map_eq_some_iff.1 h
      simp [mset, hq, ih h1]

theorem All2.modify {α β : Type} {R : α → β → Prop} {f : α → α} {g : β → β} : ∀ {l : List α} {m : List β} (j : Nat), All2 R l m → (∀ x y, l[j]? = some x → m[j]? = some y → R x y → R (f x) (g y)) → All2 R (l.modify j f) (m.modify j g)
  | [], [], j, _, _ => by cases j <;> exact trivial
  | x :: l, y :: m, 0, ⟨h1, h2⟩, h => ⟨h x y rfl rfl h1, h2⟩
  | x :: l, y :: m, j + 1, ⟨h1, h2⟩, h => ⟨h1, All2.modify j h2 fun x y hx hy => h x y (by simpa using hx) (by simpa using hy)⟩

theorem good_makeMap {o : Oper} {t : TypeId} {k x : V → St → Prop} {kk : Option IntKind} {z : Value} (ho : o.op = .makeMap t none) (r : Rel B I0 w0 c s a as w) (hm : mapInfo P t = some (kk, z))
    (h : k (.a (.mp s.heap.length)) { s with heap := s.heap ++ [.mp t kk []] }) : Good P o B I0 w0 a as w k x := by
  have r2 := r.allocO (.map #[] 0) (.mp t kk []) 0 ⟨by simp [Cx.new]; exact r.size, #[], 0, by simp only [Cx.new, if_true]; exact heap_alloc_new w _, trivial⟩
  refine Good.value (v := .a (.mp s.heap.length)) (u := .map (some w.heap.size)) ?_ r2 ⟨by simp, by simp [Cx.new]⟩ h
  simp [execOp, ho, Instr.makeMap, run_newObj_alloc]

theorem good_lookup {o : Oper} {t : TypeId} {y z : Operand} {ok : Bool} {k x : V → St → Prop} (ho : o.op = .lookup t y z ok) (r : Rel B I0 w0 c s a as w)
    (h : evLookup P t (s.eval y) (s.eval z) ok s fun v => k v s) : Good P o B I0 w0 a as w k x := by
  have hy' := r.eval y
  have hz' := r.eval z
  unfold evLookup at h
  split at h
  · rename_i id key hy hz
    rw [hy] at hy'; rw [hz] at hz'
    obtain ⟨hid, ey⟩ := hy'
    obtain ⟨ez, _⟩ := hz'
    split at h
    · rename_i t' kk0 l kk zv hob hm
      split at h
      · rename_i ht
        obtain ⟨rfl, rfl⟩ := ht
        split at h
        · rename_i q hq
          obtain ⟨kt, e, hu, hze, hzone, hkt⟩ := mapInfo_some hm
          obtain ⟨d, hd, hk⟩ := mkey_some hq hkt
          have hz1 := run_zeroV (P := P) hze w
          obtain ⟨hB, es, clock, hes, hall⟩ := r.obs id _ hob
          have hck := run_checkKey (P := P) hd hk es.isEmpty w
          have hobj : (getObj (c.ρ id)).run P w = .ok (.map es clock) w := by simp [getObj, Sem.run, hes]
          rcases findNow_rep (w := w) (I := imm B I0 c s.heap w) hk 0 hall with ⟨g1, g2, g3⟩ | ⟨j, dv, v, g1, g2, g3, g4, g5⟩
          · have hrun : (Instr.lookup t' (a.eval y) (a.eval z) ok).run P w = .ok (if ok = true then .tuple #[zv, .bool false] else zv) w := by
              simp only [Instr.lookup, Sem.run_bind, run_underlying hu, Result.andThen_ok, ey, ez, hobj, Sem.run_pure, hck, Instr.findKey, run_underlying hd, g3, hz1]
            rw [g2] at h
            cases ok with
            | true => exact Good.value (v := .tup [(false, [.d (.raw zv)]), (false, [.d (.raw (.bool false))])]) (u := .tuple #[zv, .bool false]) (by simp [execOp, ho, hrun]) r ⟨_, rfl, ⟨rfl, hzone⟩, ⟨rfl, rfl⟩, trivial⟩ h
            | false => exact Good.value (v := .raw zv) (u := zv) (by simp [execOp, ho, hrun]) r ⟨rfl, hzone⟩ h
          · have hrun : (Instr.lookup t' (a.eval y) (a.eval z) ok).run P w = .ok (if ok = true then .tuple #[v, .bool true] else v) w := by
              simp only [Instr.lookup, Sem.run_bind, run_underlying hu, Result.andThen_ok, ey, ez, hobj, Sem.run_pure, hck, Instr.findKey, run_underlying hd, g5]
            rw [g2] at h
            cases ok with
            | true => exact Good.value (v := .tup [(false, [.d dv]), (false, [.d (.raw (.bool true))])]) (u := .tuple #[v, .bool true]) (by simp [execOp, ho, hrun]) r ⟨_, rfl, g3, ⟨rfl, rfl⟩, trivial⟩ h
            | false => exact Good.value (v := .a (.d dv)) (u := v) (by simp [execOp, ho, hrun]) r g3 h
        · exact h.elim
      · exact h.elim
    · exact h.elim
  · exact h.elim

theorem putObj_heap (w : World) (g k : Nat) (o : Obj) (h : k ≠ g) : (w.putObj g o).heap[k]? = w.heap[k]? := by
  simp only [World.putObj, Array.getElem?_setIfInBounds]
  rw [if_neg (fun e => h e.symm)]
theorem putObj_self {w : World} {g : Nat} {o o' : Obj} (h : w.heap[g]? = some o) : (w.putObj g o').heap[g]? = some o' := by
  have := (Array.getElem?_eq_some_iff.1 h).1
  simp [World.putObj, this]
def Obj.isCells : Obj → Bool
  | .map .. | .loop .. => false
  | _ => true
theorem putObj_cell {w : World} {g : Nat} {o o' : Obj} (h : w.heap[g]? = some o) (h1 : Obj.isCells o = false) (h2 : Obj.isCells o' = false) (b off : Nat) : (w.putObj g o').cell? ⟨b, off, none⟩ = w.cell? ⟨b, off, none⟩ := by
  by_cases hb : b = g
  · subst hb
    unfold World.cell?
    simp only [putObj_self h, h]
    cases o <;> cases o' <;> first | rfl | (cases h1; done) | (cases h2; done)
  · exact World.cell?_of_block (w := w) (a := ⟨b, off, none⟩) (putObj_heap w g b o' hb)
theorem Kd.putObj {w : World} {g : Nat} {o o' : Obj} (h : w.heap[g]? = some o) (h1 : Obj.isCells o = false) : Kd w (w.putObj g o') := fun r hr => by
  rw [← hr]; exact putObj_heap w g r o' (fun e => by subst e; rw [h] at hr; simp at hr; subst hr; cases h1)
theorem Below.putObj {w : World} {g : Nat} {o : Obj} (hB : B ≤ g) : Below B w (w.putObj g o) :=
  ⟨rfl, rfl, rfl, by simp [World.putObj], fun k hk => putObj_heap w g k o (by omega)⟩

theorem MK.Rep.fun {kk : Option IntKind} {q : MK} {v v' : Value} (h : q.Rep kk v) (h' : q.Rep kk v') : v = v' := by
  cases q with
  | i n => obtain ⟨k, e, rfl⟩ := h; obtain ⟨k', e', rfl⟩ := h'; rw [e] at e'; simp at e'; rw [e']
  | s b => rw [h.2, h'.2]
theorem good_mapSet {o : Oper} {t : TypeId} {y z u : Operand} {k x : V → St → Prop} (ho : o.op = .mapUpdate t y z u ∨ o.op = .insert t y z u) (r : Rel B I0 w0 c s a as w)
    (h : evMapSet P t (s.eval y) (s.eval z) (s.eval u) s fun s' => k .unk s') : Good P o B I0 w0 a as w k x := by
  have hy' := r.eval y
  have hz' := r.eval z
  have hu' := r.eval u
  unfold evMapSet at h
  split at h
  · rename_i id key dv hy hz hdv
    rw [hy] at hy'; rw [hz] at hz'; rw [hdv] at hu'
    obtain ⟨hid, ey⟩ := hy'
    obtain ⟨ez, _⟩ := hz'
    split at h
    · rename_i t' kk0 l kk zv hob hm
      split at h
      · rename_i ht
        obtain ⟨rfl, rfl⟩ := ht
        split at h
        · rename_i q hq
          obtain ⟨kt, e, hu, hze, hzone, hkt⟩ := mapInfo_some hm
          obtain ⟨d, hd, hk⟩ := mkey_some hq hkt
          obtain ⟨hB, es, clock, hes, hall⟩ := r.obs id _ hob
          have hck := run_checkKey (P := P) hd hk false w
          have hobj : (getObj (c.ρ id)).run P w = .ok (.map es clock) w := by simp [getObj, Sem.run, hes]
          have hkrep : q.Rep kk0 key := by
            rcases hk with ⟨κ, n, e1, _, e2, e3⟩ | ⟨b, e1, _, e2, e3⟩
            · rw [e3]; exact ⟨κ, e1, e2⟩
            · rw [e3]; exact ⟨e1, e2⟩
          have hdr : dv.Rep (imm B I0 c s.heap w) w (a.eval u) := hu'
          have fin : ∀ es' clock', All2 (fun p e => p.1.Rep kk0 e.key ∧ p.2.Rep (imm B I0 c s.heap w) w e.val) (mset l q dv) es'.toList →
              (Instr.mapUpdate t' (a.eval y) (a.eval z) (a.eval u)).run P w = .ok () (w.putObj (c.ρ id) (.map es' clock')) → Good P o B I0 w0 a as w k x := by
            intro es' clock' ha hrun
            have r2 := r.turn (.mp t' kk0 l) (.mp t' kk0 (mset l q dv)) id (w' := w.putObj (c.ρ id) (.map es' clock')) hob (fun _ => rfl) (fun _ => rfl) rfl (Nat.le_refl _)
              (r.below.trans (Below.putObj hB)) (by simp [World.putObj]) (Kd.putObj hes rfl) (fun b o => putObj_cell hes rfl rfl b o) (fun k hk => putObj_heap w _ k _ hk)
              (fun hs => ⟨hB, es', clock', putObj_self hes, ha.imp fun p e ⟨h1, h2⟩ => ⟨h1, D.Rep.mono hs.d _ h2⟩⟩)
            refine Good.skip ?_ r2 h
            rcases ho with ho | ho <;> simp [execOp, ho, hrun]
          rcases findNow_rep (w := w) (I := imm B I0 c s.heap w) hk 0 hall with ⟨g1, g2, g3⟩ | ⟨j, dv', v, g1, g2, g3, g4, g5⟩
          · refine fin (es.push { key := key, val := a.eval u, born := clock }) (clock + 1) ?_ ?_
            · rw [mset_none g1, Array.toList_push]
              exact hall.append ⟨⟨hkrep, hdr⟩, trivial⟩
            · simp only [Instr.mapUpdate, Sem.run_bind, run_underlying hu, Result.andThen_ok, ey, ez, hobj, Sem.run_pure, hck, Instr.findKey, run_underlying hd, g3]
              simp [setObj, Sem.run, World.putObj, Result.andThen, hes]
          · have hj : j < es.size := by simpa using g4
            refine fin (es.modify j fun e => { e with key := key, val := a.eval u }) clock ?_ ?_
            · rw [mset_some g1, Array.toList_modify]
              obtain ⟨d0, hd0⟩ := mpos_get g1
              exact hall.modify j fun p e hp he ⟨h1, h2⟩ => ⟨by rw [hd0] at hp; simp at hp; rw [← hp]; exact hkrep, hdr⟩
            · simp only [Instr.mapUpdate, Sem.run_bind, run_underlying hu, Result.andThen_ok, ey, ez, hobj, Sem.run_pure, hck, Instr.findKey, run_underlying hd, g5]
              obtain ⟨d0, hd0⟩ := mpos_get g1
              obtain ⟨e0, he0, hr0, _⟩ := hall.get hd0
              have hkey : e0.key = key := MK.Rep.fun hr0 hkrep
              have hes0 : es[0 + j]? = some e0 := by rw [Nat.zero_add]; simpa using he0
              have hst : (Instr.keyThatStays ((Option.map (fun x => x.key) es[0 + j]?).getD key) key).run P w = .ok key w := by
                rw [hes0, Option.map_some, Option.getD_some, hkey]
                refine Go.MapKept.run_keyThatStays (d := d) ?_
                rcases hk with ⟨κ, n, _, rfl, rfl, _⟩ | ⟨b, _, rfl, rfl, _⟩ <;> simp [Go.MapKept.IsKey]
              simp only [Nat.zero_add] at hst
              simp only [hst, Result.andThen_ok, Nat.zero_add]
              simp [setObj, Sem.run, World.putObj, hes]
        · exact h.elim
      · exact h.elim
    · exact h.elim
  · exact h.elim
theorem emptyAgg_some {t : TypeId} (h : emptyAgg P t = true) : (∃ fs, P.underlying t = some (.struct fs)) ∧ ∀ w, (zeroValue t).run P w = .ok (.agg #[]) w := by
  unfold emptyAgg at h
  split at h
  · rename_i fs h1 h2
    refine ⟨⟨fs, h1⟩, fun w => ?_⟩
    obtain ⟨i, hi, hz⟩ := Option.bind_eq_some_iff.1 h2
    simp [zeroValue, run_typeInfo, hi, hz]
  · cases h
theorem good_assert0 {o : Oper} {y : Operand} {xt t : TypeId} {k x : V → St → Prop} (ho : o.op = .typeAssert y xt t true) (r : Rel B I0 w0 c s a as w) (ht : emptyAgg P t = true)
    (h : evAssert0 t (s.eval y) fun v => k v s) : Good P o B I0 w0 a as w k x := by
  obtain ⟨⟨fs, hu⟩, hz⟩ := emptyAgg_some ht
  have hy' := r.eval y
  unfold evAssert0 at h
  split at h
  · rename_i hy
    rw [hy] at hy'
    obtain ⟨ey, _⟩ := hy'
    refine Good.value (v := .tup [(true, []), (false, [.d (.raw (.bool false))])]) (u := .tuple #[.agg #[], .bool false]) ?_ r ⟨_, rfl, ⟨#[], rfl, trivial⟩, ⟨rfl, rfl⟩, trivial⟩ h
    simp [execOp, ho, ey, Instr.typeAssert, run_underlying, hu, hz, Sem.run_bind]
  · rename_i t' hy
    rw [hy] at hy'
    obtain ⟨ey, _⟩ := hy'
    split at h
    · rename_i e
      subst e
      refine Good.value (v := .tup [(true, []), (false, [.d (.raw (.bool true))])]) (u := .tuple #[.agg #[], .bool true]) ?_ r ⟨_, rfl, ⟨#[], rfl, trivial⟩, ⟨rfl, rfl⟩, trivial⟩ h
      simp [execOp, ho, ey, Instr.typeAssert, run_underlying, hu, Sem.run_bind]
    · exact h.elim
  · exact h.elim
theorem good_evOp4 {o : Oper} {k x : V → St → Prop} (r : Rel B I0 w0 c s a as w) (h : evOp4 P o s k x) : Good P o B I0 w0 a as w k x := by
  unfold evOp4 at h
  split at h
  · split at h
    · exact good_makeMap ‹_› r ‹_› h
    · exact h.elim
  · exact good_lookup ‹_› r h
  · exact good_mapSet (.inl ‹_›) r h
  · exact good_mapSet (.inr ‹_›) r h
  · split at h
    · exact good_assert0 ‹_› r ‹_› h
    · exact h.elim
  · exact h.elim
end
end Go.Proofs.Vl
