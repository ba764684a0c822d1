/- A part of the proof: Step. -/
import Derived.Deep.Draws
import Derived.Test.YtddngfpgeifffaaGreatDoorVlMono
set_option linter.unusedVariables false
set_option linter.unusedSimpArgs false
/- A small logic of abstract values: the relation behind each kind of change. -/
namespace Go.Proofs.Vl
open Go Go.RowKit

section
variable {B : Nat} {I0 : Nat → Nat → Prop} {w0 w : World} {c : Cx} {s : St} {a : Act} {as : List Act}

/-- The whole relation goes on from one step of the world. -/
theorem Rel.step {w' : World} {c' : Cx} {H' : List Ob} (r : Rel B I0 w0 c s a as w)
    (hs : Step (fun _ => True) (imm B I0 c s.heap w) w s.heap c (imm B I0 c' H' w') w' H' c') (hb : Below B w0 w') (hB : B ≤ w'.heap.size)
    (hkd : Kd w w') (hobs : ∀ id ob, H'[id]? = some ob → ObRep B (imm B I0 c' H' w') w' H' c' id ob)
    (hinj : ∀ i j ob ob', H'[i]? = some ob → H'[j]? = some ob' → ob.blk (c'.κ i) = true → ob'.blk (c'.κ j) = true → c'.ρ i = c'.ρ j → i = j) :
    Rel B I0 w0 c' { s with heap := H' } a as w' :=
  ⟨hb, hB, hobs, hinj, FRep.mono hs (Fr.fits_all _) r.cur, r.rest.imp fun f a' h => FRep.mono hs (Fr.fits_all _) h, r.marks.mono hkd⟩

theorem Rel.same {w' : World} (r : Rel B I0 w0 c s a as w) (hh : w'.heap = w.heap) (ht : w'.tape = w.tape) (ho : w'.os = w.os) (hu : w'.output = w.output) : Rel B I0 w0 c s a as w' := by
  have hi : imm B I0 c s.heap w' = imm B I0 c s.heap w := by unfold imm; rw [hh]
  have hc : ∀ b o, w'.cell? ⟨b, o, none⟩ = w.cell? ⟨b, o, none⟩ := fun b o => by unfold World.cell?; rw [hh]
  have hs : Step (fun _ => True) (imm B I0 c s.heap w) w s.heap c (imm B I0 c s.heap w') w' s.heap c :=
    ⟨fun b o h => ⟨by rw [hi]; exact h, hc b o⟩, fun id h _ => ⟨h, Nat.le_refl _, rfl, rfl, rfl⟩⟩
  exact r.step hs ⟨ho.trans r.below.os, ht.trans r.below.tape, hu.trans r.below.output, by rw [hh]; exact r.below.size, fun k hk => by rw [hh]; exact r.below.block k hk⟩ (by rw [hh]; exact r.size) (fun r hr => by rw [hh]; exact hr)
    (fun id ob h => ObRep.mono hs (List.getElem?_eq_some_iff.1 h).1 trivial (Ob.fits_all _) (fun _ => by rw [hh]) (r.obs id ob h)) r.inj
theorem Rel.drew (r : Rel B I0 w0 c s a as w) : Rel B I0 w0 c s a as w.drew := r.same rfl rfl rfl rfl
theorem Rel.drewN (r : Rel B I0 w0 c s a as w) (n : Nat) : Rel B I0 w0 c s a as (w.drewN n) := r.same rfl rfl rfl rfl

def Cx.new (c : Cx) (id g k : Nat) : Cx := { c with ρ := fun i => if i = id then g else c.ρ i, κ := fun i => if i = id then some k else c.κ i }
def Cx.newClo (c : Cx) (id : Nat) (f : Value) : Cx := { c with γ := fun i => if i = id then f else c.γ i }

theorem getElem?_snoc {α : Type} {l : List α} {x y : α} {i : Nat} (h : (l ++ [x])[i]? = some y) : (i < l.length ∧ l[i]? = some y) ∨ (i = l.length ∧ y = x) := by
  rcases Nat.lt_trichotomy i l.length with hi | hi | hi
  · rw [List.getElem?_append_left hi] at h; exact .inl ⟨hi, h⟩
  · subst hi; rw [List.getElem?_append_right (Nat.le_refl _)] at h; simp at h; exact .inr ⟨rfl, h.symm⟩
  · rw [List.getElem?_append_right (by omega)] at h
    have : (i - l.length) ≠ 0 := by omega
    obtain ⟨k, hk⟩ := Nat.exists_eq_succ_of_ne_zero this
    rw [hk] at h; simp at h
theorem obLen_snoc (H : List Ob) (ob : Ob) (id : Nat) (h : id < H.length) : obLen (H ++ [ob]) id = obLen H id := by
  unfold obLen; rw [List.getElem?_append_left h]

theorem Rel.ρ_lt (r : Rel B I0 w0 c s a as w) {id : Nat} {ob : Ob} (h : s.heap[id]? = some ob) (hb : ob.blk (c.κ id) = true) : c.ρ id < w.heap.size := by
  have := r.obs id ob h
  cases ob with
  | cells e xs => obtain ⟨_, cur, hc, _⟩ := this; exact (Array.getElem?_eq_some_iff.1 hc).1
  | row => obtain ⟨_, _, hr⟩ := this; obtain ⟨k, hk⟩ := Option.isSome_iff_exists.1 hb; obtain ⟨_, cur, hc, _⟩ := hr k hk; exact (Array.getElem?_eq_some_iff.1 hc).1
  | clo => simp [Ob.blk] at hb
  | mp => obtain ⟨_, _, _, hc, _⟩ := this; exact (Array.getElem?_eq_some_iff.1 hc).1
  | lp => obtain ⟨_, _, _, hc, _⟩ := this; exact (Array.getElem?_eq_some_iff.1 hc).1
  | gone => simp [Ob.blk] at hb

theorem Kd.alloc (w : World) (o : Obj) : Kd w (w.alloc o) := fun r h => by
  have hlt := (Array.getElem?_eq_some_iff.1 h).1
  rw [← h]; exact Below.heap_alloc w o r hlt
theorem imm_alloc (o : Obj) (ob : Ob) (k : Nat) (b off : Nat) (h : imm B I0 c s.heap w b off) (hB : B ≤ w.heap.size) :
    imm B I0 (c.new s.heap.length w.heap.size k) (s.heap ++ [ob]) (w.alloc o) b off ∧ (w.alloc o).cell? ⟨b, off, none⟩ = w.cell? ⟨b, off, none⟩ := by
  have hlt : b < w.heap.size := by rcases h with h | h <;> omega
  refine ⟨?_, World.cell?_alloc_lt (a := ⟨b, off, none⟩) w o hlt⟩
  rcases h with h | ⟨h1, h2, h3⟩
  · exact .inl h
  · refine .inr ⟨h1, by simp; omega, fun id ob' hob hblk hρ => ?_⟩
    rcases getElem?_snoc hob with ⟨hi, hx⟩ | ⟨hi, rfl⟩
    · have e : ¬ id = s.heap.length := by omega
      simp only [Cx.new, if_neg e] at hρ hblk
      exact h3 id ob' hx hblk hρ
    · simp only [Cx.new, hi, if_pos] at hρ
      omega

theorem step_alloc (o : Obj) (ob : Ob) (k : Nat) (hB : B ≤ w.heap.size) :
    Step (fun _ => True) (imm B I0 c s.heap w) w s.heap c (imm B I0 (c.new s.heap.length w.heap.size k) (s.heap ++ [ob]) (w.alloc o)) (w.alloc o) (s.heap ++ [ob]) (c.new s.heap.length w.heap.size k) where
  d b off h := imm_alloc o ob k b off h hB
  ob id hid _ := by
    refine ⟨by simp; omega, by rw [obLen_snoc _ _ _ hid]; exact Nat.le_refl _, ?_, ?_, rfl⟩ <;> simp only [Cx.new] <;> rw [if_neg (by omega)]

theorem Rel.allocO (r : Rel B I0 w0 c s a as w) (o : Obj) (ob : Ob) (k : Nat)
    (hob : ObRep B (imm B I0 (c.new s.heap.length w.heap.size k) (s.heap ++ [ob]) (w.alloc o)) (w.alloc o) (s.heap ++ [ob]) (c.new s.heap.length w.heap.size k) s.heap.length ob) :
    Rel B I0 w0 (c.new s.heap.length w.heap.size k) { s with heap := s.heap ++ [ob] } a as (w.alloc o) := by
  have hs := step_alloc (w := w) (c := c) (s := s) (I0 := I0) o ob k r.size
  refine r.step hs (r.below.alloc r.size _) (by simp; have := r.size; omega) (Kd.alloc w o) (fun id ob' h => ?_) (fun i j oi oj hi hj bi bj e => ?_)
  · rcases getElem?_snoc h with ⟨hi, hx⟩ | ⟨rfl, rfl⟩
    · refine ObRep.mono hs hi trivial (Ob.fits_all _) (fun hb => ?_) (r.obs id ob' hx)
      have := r.ρ_lt hx hb
      exact Below.heap_alloc _ _ _ this
    · exact hob
  · rcases getElem?_snoc hi with ⟨hi1, hi2⟩ | ⟨rfl, rfl⟩ <;> rcases getElem?_snoc hj with ⟨hj1, hj2⟩ | ⟨rfl, rfl⟩
    · have e1 : ¬ i = s.heap.length := by omega
      have e2 : ¬ j = s.heap.length := by omega
      simp only [Cx.new, if_neg e1, if_neg e2] at e bi bj
      exact r.inj i j oi oj hi2 hj2 bi bj e
    · have e1 : ¬ i = s.heap.length := by omega
      simp only [Cx.new, if_neg e1, if_true] at e bi
      have := r.ρ_lt hi2 bi
      omega
    · have e1 : ¬ j = s.heap.length := by omega
      simp only [Cx.new, if_neg e1, if_true] at e bj
      have := r.ρ_lt hj2 bj
      omega
    · rfl

theorem Rel.alloc (r : Rel B I0 w0 c s a as w) (cur : Array Value) (e : TypeId) (ob : Ob) (k : Nat)
    (hob : ObRep B (imm B I0 (c.new s.heap.length w.heap.size k) (s.heap ++ [ob]) (w.alloc (.cells cur e))) (w.alloc (.cells cur e)) (s.heap ++ [ob]) (c.new s.heap.length w.heap.size k) s.heap.length ob) :
    Rel B I0 w0 (c.new s.heap.length w.heap.size k) { s with heap := s.heap ++ [ob] } a as (w.alloc (.cells cur e)) := r.allocO (.cells cur e) ob k hob
/-- A new object of cells. -/
theorem Rel.alloc_cells (r : Rel B I0 w0 c s a as w) (cur : Array Value) (e : TypeId) (xs : List At)
    (hx : All2 (AtRep (imm B I0 c s.heap w) w s.heap c) xs cur.toList) (ho : ∀ v ∈ cur.toList, v.oneCell' = true) :
    Rel B I0 w0 (c.new s.heap.length w.heap.size 0) { s with heap := s.heap ++ [.cells e xs] } a as (w.alloc (.cells cur e)) := by
  have hs := step_alloc (w := w) (c := c) (s := s) (I0 := I0) (.cells cur e) (.cells e xs) 0 r.size
  refine r.alloc cur e (.cells e xs) 0 ⟨?_, cur, ?_, hx.imp fun x v h => AtRep.mono hs (At.fits_all x) h, ho⟩
  · simp [Cx.new]; exact r.size
  · simp only [Cx.new, if_true]; exact heap_alloc_new w _
/-- A new row. -/
theorem Rel.alloc_row (r : Rel B I0 w0 c s a as w) (cur : Array Value) (e sz n k : Nat) (get : Nat → Nat → D)
    (hsz : cur.size = k * sz) (hn : n ≤ k) (hk : k ≤ maxLen) (hg : ∀ i, i < n → ∀ j, j < sz → ∃ x, cur[i * sz + j]? = some x ∧ (get i j).Rep (imm B I0 c s.heap w) w x) :
    Rel B I0 w0 (c.new s.heap.length w.heap.size k) { s with heap := s.heap ++ [.row e sz n get 0] } a as (w.alloc (.cells cur e)) := by
  have hs := step_alloc (w := w) (c := c) (s := s) (I0 := I0) (.cells cur e) (.row e sz n get 0) k r.size
  refine r.alloc cur e (.row e sz n get 0) k ⟨?_, ?_, fun k' hk' => ⟨?_, cur, ?_, ?_, fun i hi j hj => ?_⟩⟩
  · simp [Cx.new, Cx.cap]; exact hn
  · simp [Cx.new, Cx.cap]; exact hk
  · simp [Cx.new]; exact r.size
  · simp only [Cx.new, if_true]; exact heap_alloc_new w _
  · simp [Cx.new] at hk'; subst hk'; exact hsz
  · obtain ⟨x, hx, hr⟩ := hg i hi j hj
    exact ⟨x, hx, D.Rep.mono hs.d _ hr⟩

/-! ### A block of the call's own is written -/
theorem imm_setRow (ob ob' : Ob) (id : Nat) (cur cur' : Array Value) (e : TypeId) (hc : w.heap[c.ρ id]? = some (.cells cur e (0, 0))) (h : s.heap[id]? = some ob) (hblk : ob.blk (c.κ id) = true) (hB : B ≤ c.ρ id)
    (hfz : ob'.fzc = ob.fzc) (hkeep : ∀ o, o < ob.fzc → cur'[o]? = cur[o]?) (b o : Nat)
    (hi : imm B I0 c s.heap w b o) : imm B I0 c (s.heap.set id ob') (w.setRow (c.ρ id) cur') b o ∧ (w.setRow (c.ρ id) cur').cell? ⟨b, o, none⟩ = w.cell? ⟨b, o, none⟩ := by
  constructor
  · rcases hi with h' | ⟨h1, h2, h3⟩
    · exact .inl h'
    · refine .inr ⟨h1, by simpa using h2, fun id' ob'' hob hb hρ => ?_⟩
      rw [List.getElem?_set] at hob
      split at hob
      · rename_i e
        subst e
        split at hob
        · simp at hob; subst hob
          rw [hfz]
          exact h3 _ ob h hblk hρ
        · cases hob
      · exact h3 id' ob'' hob hb hρ
  · by_cases hb : b = c.ρ id
    · subst hb
      rw [cell_setRow_same w _ o cur cur' e _ hc]
      rcases hi with h' | ⟨_, _, h3⟩
      · omega
      · rw [hkeep o (h3 id ob h hblk rfl)]
        simp [World.cell?, hc]
    · exact cell_setRow_other w _ _ ⟨b, o, none⟩ hb

theorem obLen_set (H : List Ob) (id id' : Nat) (ob ob' : Ob) (h : H[id]? = some ob) (hl : ob.len ≤ ob'.len) : obLen H id' ≤ obLen (H.set id ob') id' := by
  unfold obLen
  rw [List.getElem?_set]
  split
  · rename_i e; subst e
    have : id < H.length := (List.getElem?_eq_some_iff.1 h).1
    have h' := (List.getElem?_eq_some_iff.1 h).2
    simp [this, h']; exact hl
  · exact Nat.le_refl _

theorem step_setRow (ob ob' : Ob) (id : Nat) (cur cur' : Array Value) (e : TypeId) (hc : w.heap[c.ρ id]? = some (.cells cur e (0, 0))) (h : s.heap[id]? = some ob) (hblk : ob.blk (c.κ id) = true) (hB : B ≤ c.ρ id)
    (hfz : ob'.fzc = ob.fzc) (hkeep : ∀ o, o < ob.fzc → cur'[o]? = cur[o]?) (hl : ob.len ≤ ob'.len) :
    Step (fun _ => True) (imm B I0 c s.heap w) w s.heap c (imm B I0 c (s.heap.set id ob') (w.setRow (c.ρ id) cur')) (w.setRow (c.ρ id) cur') (s.heap.set id ob') c where
  d b o hi := imm_setRow ob ob' id cur cur' e hc h hblk hB hfz hkeep b o hi
  ob id' hid _ := ⟨by simpa using hid, obLen_set _ _ _ _ _ h hl, rfl, rfl, rfl⟩

theorem Rel.low (r : Rel B I0 w0 c s a as w) {id : Nat} {ob : Ob} (h : s.heap[id]? = some ob) (hblk : ob.blk (c.κ id) = true) : B ≤ c.ρ id := by
  have := r.obs id ob h
  cases ob with
  | cells => exact this.1
  | row => obtain ⟨k, hk⟩ := Option.isSome_iff_exists.1 hblk; exact (this.2.2 k hk).1
  | clo => simp [Ob.blk] at hblk
  | mp => exact this.1
  | lp => exact this.1
  | gone => simp [Ob.blk] at hblk

theorem Kd.setRow (w : World) (g : Nat) (cur cur' : Array Value) (e : TypeId) (hc : w.heap[g]? = some (.cells cur e (0, 0))) : Kd w (w.setRow g cur') := fun r h => by
  rw [← h]
  exact setRow_other w g r cur' (fun e => by subst e; rw [hc] at h; cases h)
theorem Rel.setRow (r : Rel B I0 w0 c s a as w) (ob ob' : Ob) (id : Nat) (cur cur' : Array Value) (e : TypeId) (hc : w.heap[c.ρ id]? = some (.cells cur e (0, 0))) (h : s.heap[id]? = some ob) (hblk : ob.blk (c.κ id) = true) (hblk' : ob'.blk (c.κ id) = true)
    (hfz : ob'.fzc = ob.fzc) (hkeep : ∀ o, o < ob.fzc → cur'[o]? = cur[o]?) (hl : ob.len ≤ ob'.len)
    (hob : Step (fun _ => True) (imm B I0 c s.heap w) w s.heap c (imm B I0 c (s.heap.set id ob') (w.setRow (c.ρ id) cur')) (w.setRow (c.ρ id) cur') (s.heap.set id ob') c →
      ObRep B (imm B I0 c (s.heap.set id ob') (w.setRow (c.ρ id) cur')) (w.setRow (c.ρ id) cur') (s.heap.set id ob') c id ob') :
    Rel B I0 w0 c { s with heap := s.heap.set id ob' } a as (w.setRow (c.ρ id) cur') := by
  have hB := r.low h hblk
  have hs := step_setRow (w := w) (I0 := I0) ob ob' id cur cur' e hc h hblk hB hfz hkeep hl
  refine r.step hs (r.below.trans ⟨rfl, rfl, rfl, by simp, fun k hk => setRow_other w _ k _ (by omega)⟩) (by simpa using r.size) (Kd.setRow w _ cur cur' e hc) (fun id' ob'' hh => ?_) (fun i j oi oj hi hj bi bj e => ?_)
  · rw [List.getElem?_set] at hh
    split at hh
    · rename_i e; subst e
      split at hh
      · simp at hh; subst hh; exact hob hs
      · cases hh
    · rename_i hne
      have hid : id' < s.heap.length := (List.getElem?_eq_some_iff.1 hh).1
      refine ObRep.mono hs hid trivial (Ob.fits_all _) (fun hb => ?_) (r.obs id' ob'' hh)
      exact setRow_other w _ _ _ (fun e => hne (r.inj id' id ob'' ob hh h hb hblk e).symm)
  · rw [List.getElem?_set] at hi hj
    have key : ∀ i oi, (if id = i then (if id < s.heap.length then some ob' else none) else s.heap[i]?) = some oi → oi.blk (c.κ i) = true → ∃ o, s.heap[i]? = some o ∧ o.blk (c.κ i) = true := by
      intro i oi hi bi
      split at hi
      · rename_i e; subst e; exact ⟨ob, h, hblk⟩
      · exact ⟨oi, hi, bi⟩
    obtain ⟨o1, h1, b1⟩ := key i oi hi bi
    obtain ⟨o2, h2, b2⟩ := key j oj hj bj
    exact r.inj i j o1 o2 h1 h2 b1 b2 e
/-- A map, a loop's record is turned: no cells. -/
theorem Rel.turn (r : Rel B I0 w0 c s a as w) (ob ob' : Ob) (id : Nat) {w' : World} (h : s.heap[id]? = some ob) (hblk : ∀ k, ob.blk k = true) (hblk' : ∀ k, ob'.blk k = true)
    (hfz : ob'.fzc = ob.fzc) (hl : ob.len ≤ ob'.len) (hB : Below B w0 w') (hsz : w'.heap.size = w.heap.size) (hkd : Kd w w')
    (hcell : ∀ b o, w'.cell? ⟨b, o, none⟩ = w.cell? ⟨b, o, none⟩) (hheap : ∀ k, k ≠ c.ρ id → w'.heap[k]? = w.heap[k]?)
    (hob : Step (fun _ => True) (imm B I0 c s.heap w) w s.heap c (imm B I0 c (s.heap.set id ob') w') w' (s.heap.set id ob') c → ObRep B (imm B I0 c (s.heap.set id ob') w') w' (s.heap.set id ob') c id ob') :
    Rel B I0 w0 c { s with heap := s.heap.set id ob' } a as w' := by
  have hd : ∀ b o, imm B I0 c s.heap w b o → imm B I0 c (s.heap.set id ob') w' b o := by
    rintro b o (h' | ⟨h1, h2, h3⟩)
    · exact .inl h'
    · refine .inr ⟨h1, by omega, fun id' ob'' hob hb hρ => ?_⟩
      rw [List.getElem?_set] at hob
      split at hob
      · rename_i e
        subst e
        split at hob
        · simp at hob; subst hob
          rw [hfz]
          exact h3 _ ob h (hblk _) hρ
        · cases hob
      · exact h3 id' ob'' hob hb hρ
  have hs : Step (fun _ => True) (imm B I0 c s.heap w) w s.heap c (imm B I0 c (s.heap.set id ob') w') w' (s.heap.set id ob') c :=
    ⟨fun b o h => ⟨hd b o h, hcell b o⟩, fun id' hid _ => ⟨by simpa using hid, obLen_set _ _ _ _ _ h hl, rfl, rfl, rfl⟩⟩
  refine r.step hs hB (by rw [hsz]; exact r.size) hkd (fun id' ob'' hh => ?_) (fun i j oi oj hi hj bi bj e => ?_)
  · rw [List.getElem?_set] at hh
    split at hh
    · rename_i e; subst e
      split at hh
      · simp at hh; subst hh; exact hob hs
      · cases hh
    · rename_i hne
      have hid : id' < s.heap.length := (List.getElem?_eq_some_iff.1 hh).1
      refine ObRep.mono hs hid trivial (Ob.fits_all _) (fun hb => ?_) (r.obs id' ob'' hh)
      exact hheap _ (fun e => hne (r.inj id' id ob'' ob hh h hb (hblk _) e).symm)
  · rw [List.getElem?_set] at hi hj
    have key : ∀ i oi, (if id = i then (if id < s.heap.length then some ob' else none) else s.heap[i]?) = some oi → oi.blk (c.κ i) = true → ∃ o, s.heap[i]? = some o ∧ o.blk (c.κ i) = true := by
      intro i oi hi bi
      split at hi
      · rename_i e; subst e; exact ⟨ob, h, hblk _⟩
      · exact ⟨oi, hi, bi⟩
    obtain ⟨o1, h1, b1⟩ := key i oi hi bi
    obtain ⟨o2, h2, b2⟩ := key j oj hj bj
    exact r.inj i j o1 o2 h1 h2 b1 b2 e
theorem imm_lt (r : Rel B I0 w0 c s a as w) (b o : Nat) (h : imm B I0 c s.heap w b o) : b < w.heap.size := by
  rcases h with h | h
  · have := r.size; omega
  · exact h.2.1

end
end Go.Proofs.Vl
