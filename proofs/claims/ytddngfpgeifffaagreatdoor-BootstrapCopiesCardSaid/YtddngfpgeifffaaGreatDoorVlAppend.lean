/- A part of the proof: Append. -/
import Derived.Test.YtddngfpgeifffaaGreatDoorVlOps4
set_option linter.unusedVariables false
set_option linter.unusedSimpArgs false
/- A small logic of abstract values: append; literals. -/
namespace Go.Proofs.Vl
open Go Go.RowKit

theorem At.scrub_fits (id : Nat) (x : At) : (x.scrub id).fits fun i => i ≠ id := by
  cases x <;> simp only [At.scrub] <;> (try split) <;> first | trivial | (simp only [At.fits]; assumption)
theorem V.scrub_fits (id : Nat) (v : V) : (v.scrub id).fits fun i => i ≠ id := by
  cases v with
  | c g xs => intro x hx; simp only [List.mem_map] at hx; obtain ⟨y, _, rfl⟩ := hx; exact At.scrub_fits id y
  | tup ys =>
    intro p hp x hx
    simp only [List.mem_map] at hp
    obtain ⟨q, _, rfl⟩ := hp
    simp only [List.mem_map] at hx
    obtain ⟨y, _, rfl⟩ := hx
    exact At.scrub_fits id y
theorem Fr.scrub_fits (id : Nat) (f : Fr) : (f.scrub id).fits fun i => i ≠ id := by
  intro p hp
  simp only [Fr.scrub, List.mem_map] at hp
  obtain ⟨q, _, rfl⟩ := hp
  exact V.scrub_fits id q.2
theorem Ob.scrub_fits (id : Nat) (o : Ob) : (o.scrub id).fits fun i => i ≠ id := by
  cases o with
  | cells e xs => intro x hx; simp only [List.mem_map] at hx; obtain ⟨y, _, rfl⟩ := hx; exact At.scrub_fits id y
  | clo fn f cp =>
    constructor
    · intro p hp x hx
      simp only [List.mem_map] at hp
      obtain ⟨q, _, rfl⟩ := hp
      simp only [List.mem_map] at hx
      obtain ⟨y, _, rfl⟩ := hx
      exact At.scrub_fits id y
    · intro p hp x hx
      simp only [List.mem_map] at hp
      obtain ⟨q, _, rfl⟩ := hp
      simp only [List.mem_map] at hx
      obtain ⟨y, _, rfl⟩ := hx
      exact At.scrub_fits id y
  | row => trivial
  | mp => trivial
  | lp l nt tl =>
    intro p hp
    simp only [List.mem_map] at hp
    obtain ⟨q, _, rfl⟩ := hp
    exact V.scrub_fits id q.2
  | gone => trivial
theorem Ob.blk_scrub (id : Nat) (k : Option Nat) (o : Ob) : (o.scrub id).blk k = o.blk k := by cases o <;> rfl
theorem Ob.fzc_scrub (id : Nat) (o : Ob) : (o.scrub id).fzc = o.fzc := by cases o <;> rfl
theorem Ob.len_scrub (id : Nat) (o : Ob) : (o.scrub id).len = o.len := by cases o <;> rfl

def St.scrub (id : Nat) (s : St) : St := ⟨s.cur.scrub id, s.rest.map (Fr.scrub id), s.heap.map (Ob.scrub id)⟩

section
variable {P : Program} {B : Nat} {I0 : Nat → Nat → Prop} {w0 w : World} {c : Cx} {s : St} {a : Act} {as : List Act}

theorem imm_scrub (id : Nat) : imm B I0 c (s.heap.map (Ob.scrub id)) w = imm B I0 c s.heap w := by
  funext b o
  unfold imm
  apply propext
  refine or_congr Iff.rfl (and_congr Iff.rfl (and_congr Iff.rfl ?_))
  constructor
  · intro h id' ob hob hb hρ
    have := h id' (ob.scrub id) (by simp [hob]) (by rw [Ob.blk_scrub]; exact hb) hρ
    rwa [Ob.fzc_scrub] at this
  · intro h id' ob hob hb hρ
    rw [List.getElem?_map, Option.map_eq_some_iff] at hob
    obtain ⟨o', ho, rfl⟩ := hob
    rw [Ob.blk_scrub] at hb
    rw [Ob.fzc_scrub]
    exact h id' o' ho hb hρ
theorem obLen_scrub (H : List Ob) (id i : Nat) : obLen (H.map (Ob.scrub id)) i = obLen H i := by
  unfold obLen
  rw [List.getElem?_map]
  cases H[i]? <;> simp [Ob.len_scrub]
theorem AtRep.scrub {I : Nat → Nat → Prop} {H : List Ob} (id : Nat) {x : At} {v : Value} (h : AtRep I w H c x v) : AtRep I w (H.map (Ob.scrub id)) c (x.scrub id) v := by
  cases x with
  | d x => exact h
  | ref i o => obtain ⟨h1, h2⟩ := h; simp only [At.scrub]; split; (trivial); exact ⟨by simpa using h1, h2⟩
  | row i m => obtain ⟨h1, h2, h3⟩ := h; simp only [At.scrub]; split; (trivial); exact ⟨by simpa using h1, by rw [obLen_scrub]; exact h2, h3⟩
  | el i sz p q => obtain ⟨h1, h2⟩ := h; simp only [At.scrub]; split; (trivial); exact ⟨by simpa using h1, h2⟩
  | fel m get => exact h
  | emp => exact h
  | sd i m => obtain ⟨h1, h2⟩ := h; simp only [At.scrub]; split; (trivial); exact ⟨by simpa using h1, h2⟩
  | mp i => obtain ⟨h1, h2⟩ := h; simp only [At.scrub]; split; (trivial); exact ⟨by simpa using h1, h2⟩
  | clo i => obtain ⟨h1, h2⟩ := h; simp only [At.scrub]; split; (trivial); exact ⟨by simpa using h1, h2⟩
  | yld i => obtain ⟨h1, h2⟩ := h; simp only [At.scrub]; split; (trivial); exact ⟨by simpa using h1, h2⟩
  | mref i o => obtain ⟨h1, h2⟩ := h; simp only [At.scrub]; split; (trivial); exact ⟨by simpa using h1, h2⟩
  | unk => trivial
theorem CRep.scrub {I : Nat → Nat → Prop} {H : List Ob} (id : Nat) {g : Bool} {xs : List At} {v : Value} (h : CRep I w H c g xs v) : CRep I w (H.map (Ob.scrub id)) c g (xs.map (At.scrub id)) v := by
  cases g with
  | true => obtain ⟨cs, e, hc⟩ := h; exact ⟨cs, e, All2.map_left (hc.imp fun x v h => AtRep.scrub id h)⟩
  | false =>
    match xs, h with
    | [x], h => exact AtRep.scrub id h
    | [], h => exact h
    | _ :: _ :: _, h => exact h
theorem VRep.scrub {I : Nat → Nat → Prop} {H : List Ob} (id : Nat) {x : V} {v : Value} (h : VRep I w H c x v) : VRep I w (H.map (Ob.scrub id)) c (x.scrub id) v := by
  cases x with
  | c g xs => exact CRep.scrub id h
  | tup ys => obtain ⟨vs, e, hc⟩ := h; exact ⟨vs, e, All2.map_left (hc.imp fun p v h => CRep.scrub id h)⟩
theorem vlook_map' (f : V → V) (hf : f .unk = .unk) (t : Nat) : ∀ l : List (Nat × V), vlook (l.map fun p => (p.1, f p.2)) t = f (vlook l t)
  | [] => hf.symm
  | (i, v) :: l => by
    simp only [List.map_cons, vlook]
    split
    · rfl
    · exact vlook_map' f hf t l
theorem FRep.scrub {I : Nat → Nat → Prop} {H : List Ob} (id : Nat) {f : Fr} {tmps : Array Value} (h : FRep I w H c f tmps) : FRep I w (H.map (Ob.scrub id)) c (f.scrub id) tmps :=
  ⟨h.1, fun t => by
    show VRep _ _ _ _ (vlook (f.tl.map fun p => (p.1, p.2.scrub id)) t) _
    rw [vlook_map' (V.scrub id) rfl]
    exact VRep.scrub id (h.2 t)⟩

theorem Rel.scrub (r : Rel B I0 w0 c s a as w) (id : Nat) : Rel B I0 w0 c (s.scrub id) a as w := by
  have hi : imm B I0 c (s.scrub id).heap w = imm B I0 c s.heap w := imm_scrub id
  refine ⟨r.below, r.size, fun i ob h => ?_, fun i j oi oj h1 h2 bi bj e => ?_, ?_, ?_, r.marks⟩
  · rw [hi]
    simp only [St.scrub, List.getElem?_map, Option.map_eq_some_iff] at h
    obtain ⟨o, ho, rfl⟩ := h
    have hr := r.obs i o ho
    cases o with
    | cells e xs => obtain ⟨hB, cur, hc, ha, h1⟩ := hr; exact ⟨hB, cur, hc, All2.map_left (ha.imp fun x v h => AtRep.scrub id h), h1⟩
    | row => exact hr
    | mp => exact hr
    | lp l nt tl ps asg body busy pend => obtain ⟨hB, hl, lr, hc, h6, h7, h8, h9, h10, h11⟩ := hr; exact ⟨hB, hl, lr, hc, h6, h7, h8, h9, h10, h11.scrub id⟩
    | clo fn f cp => obtain ⟨fs, cs, hg, h1, h2⟩ := hr; exact ⟨fs, cs, hg, All2.map_left (h1.imp fun p v h => CRep.scrub id h), All2.map_left (h2.imp fun p v h => CRep.scrub id h)⟩
    | gone => trivial
  · simp only [St.scrub, List.getElem?_map, Option.map_eq_some_iff] at h1 h2
    obtain ⟨o1, h1, rfl⟩ := h1
    obtain ⟨o2, h2, rfl⟩ := h2
    rw [Ob.blk_scrub] at bi bj
    exact r.inj i j o1 o2 h1 h2 bi bj e
  · rw [hi]; exact r.cur.scrub id
  · rw [hi]; exact All2.map_left (r.rest.imp fun f a' h => FRep.scrub id h)

theorem All2.imp_left {α β : Type} {R S : α → β → Prop} : ∀ {l : List α} {m : List β}, (∀ a, a ∈ l → ∀ b, R a b → S a b) → All2 R l m → All2 S l m := All2.imp_mem

/-- A new object in the place of an old one that nobody names. -/
theorem Rel.replace (r : Rel B I0 w0 c s a as w) {id : Nat} (ob ob' : Ob) {w' : World} {c' : Cx} (h : s.heap[id]? = some ob)
    (hf : s.cur.fits (fun i => i ≠ id)) (hf2 : ∀ f ∈ s.rest, f.fits (fun i => i ≠ id)) (hf3 : ∀ o ∈ s.heap, o.fits (fun i => i ≠ id))
    (hB : Below B w0 w') (hkd : Kd w w') (hsz : w.heap.size ≤ w'.heap.size)
    (hc : ∀ i, i ≠ id → c'.ρ i = c.ρ i ∧ c'.κ i = c.κ i) (hγ : c'.γ = c.γ)
    (hd : ∀ b o, imm B I0 c s.heap w b o → imm B I0 c' (s.heap.set id ob') w' b o ∧ w'.cell? ⟨b, o, none⟩ = w.cell? ⟨b, o, none⟩)
    (hheap : ∀ k, k < w.heap.size → (ob.blk (c.κ id) = true → k ≠ c.ρ id) → w'.heap[k]? = w.heap[k]?)
    (hnew : ob'.blk (c'.κ id) = true → ∀ i o, i ≠ id → s.heap[i]? = some o → o.blk (c.κ i) = true → c.ρ i ≠ c'.ρ id)
    (hob : Step (fun i => i ≠ id) (imm B I0 c s.heap w) w s.heap c (imm B I0 c' (s.heap.set id ob') w') w' (s.heap.set id ob') c' → ObRep B (imm B I0 c' (s.heap.set id ob') w') w' (s.heap.set id ob') c' id ob') :
    Rel B I0 w0 c' { s with heap := s.heap.set id ob' } a as w' := by
  have hs : Step (fun i => i ≠ id) (imm B I0 c s.heap w) w s.heap c (imm B I0 c' (s.heap.set id ob') w') w' (s.heap.set id ob') c' :=
    ⟨hd, fun i hi hne => ⟨by simpa using hi, by
      unfold obLen
      rw [List.getElem?_set_ne (by omega)]
      exact Nat.le_refl _, (hc i hne).1, (hc i hne).2, by rw [hγ]⟩⟩
  refine ⟨hB, Nat.le_trans r.size hsz, fun i o hi => ?_, fun i j oi oj hi hj bi bj e => ?_, FRep.mono hs hf r.cur, r.rest.imp_left fun f hfm a' h => FRep.mono hs (hf2 f hfm) h, r.marks.mono hkd⟩
  · rw [List.getElem?_set] at hi
    split at hi
    · rename_i e; subst e
      split at hi
      · simp at hi; subst hi; exact hob hs
      · cases hi
    · rename_i hne
      refine ObRep.mono hs (List.getElem?_eq_some_iff.1 hi).1 (fun e => hne e.symm) (hf3 o (List.mem_of_getElem? hi)) (fun hb => ?_) (r.obs i o hi)
      exact hheap _ (r.ρ_lt hi hb) (fun hblk e => hne (r.inj i id o ob hi h hb hblk e).symm)
  · have key : ∀ i oi, (s.heap.set id ob')[i]? = some oi → (i = id ∧ oi = ob') ∨ (i ≠ id ∧ s.heap[i]? = some oi) := by
      intro i oi hi
      by_cases e : i = id
      · subst e
        have hlt : i < s.heap.length := (List.getElem?_eq_some_iff.1 h).1
        rw [List.getElem?_set_self hlt] at hi
        exact .inl ⟨rfl, (Option.some.inj hi).symm⟩
      · rw [List.getElem?_set_ne (by omega)] at hi; exact .inr ⟨e, hi⟩
    rcases key i oi hi with ⟨e1, o1⟩ | ⟨e1, h1⟩ <;> rcases key j oj hj with ⟨e2, o2⟩ | ⟨e2, h2⟩
    · exact e1.trans e2.symm
    · rw [(hc j e2).1] at e; rw [(hc j e2).2] at bj; subst e1; subst o1; exact absurd e.symm (hnew bi j oj e2 h2 bj)
    · rw [(hc i e1).1] at e; rw [(hc i e1).2] at bi; subst e2; subst o2; exact absurd e (hnew bj i oi e1 h1 bi)
    · rw [(hc i e1).1, (hc j e2).1] at e; rw [(hc i e1).2] at bi; rw [(hc j e2).2] at bj; exact r.inj i j oi oj h1 h2 bi bj e

/-- A second argument of append: m elements. -/
def Srcs (P : Program) (w : World) (sz m : Nat) (xv : Value) (vs : List Value) : Prop :=
  ∀ w' : World, w'.heap = w.heap → (Builtin.lenOf xv).run P w' = .ok m w' ∧ (Builtin.firstCells sz m xv).run P w' = .ok vs.toArray w'
def NotInt (d : TypeDesc) : Prop := (∃ e, d = .slice e) ∨ d = .string

theorem run_append_room' (t t' ty e : TypeId) (i : TypeInfo) (d : TypeDesc) (ht : P.underlying t = some (.slice e)) (ht' : P.underlying t' = some d) (hd : NotInt d) (hi : P.info? e = some i)
    (g n cap : Nat) (cur : Array Value) (hg : w.heap[g]? = some (.cells cur e (0, 0))) (xv : Value) (m : Nat) (news : List Value) (hl : news.length = m * i.size)
    (hf : Srcs P w i.size m xv news) (h1 : ∀ u ∈ news, u.oneCell' = true) (hroom : n + m ≤ cap) (hfit : n * i.size + news.length ≤ cur.size) :
    (Builtin.append_ #[t, t'] ty #[.slice (some ⟨g, 0, none⟩) n cap, xv]).run P w =
      .ok (.slice (some ⟨g, 0, none⟩) (n + m) cap) (w.setRow g (cur.toList.take (n * i.size) ++ news ++ cur.toList.drop (n * i.size + news.length)).toArray) := by
  have hst := run_storeCells_at P g (n * i.size) e news 0 cur w hg (by simpa using hfit) h1
  simp only [Nat.add_zero] at hst
  obtain ⟨hL, hF⟩ := hf w rfl
  rcases hd with ⟨e', rfl⟩ | rfl <;>
  simp [Builtin.append_, run_underlying ht, run_underlying ht', sizeOf, typeInfo, hi, hL, hroom, hF, Addr.add_lit, hst]

theorem run_append_grow' (t t' ty e : TypeId) (i : TypeInfo) (d : TypeDesc) (z : Value) (ht : P.underlying t = some (.slice e)) (ht' : P.underlying t' = some d) (hd : NotInt d) (hi : P.info? e = some i) (hz : i.zero = some z)
    (base : Option Addr) (n cap : Nat) (olds : List Value) (ho : ∀ w', w'.heap = w.heap → (Builtin.firstCells i.size n (.slice base n cap)).run P w' = .ok olds.toArray w') (xv : Value) (m : Nat) (news : List Value)
    (hf : Srcs P w i.size m xv news)
    (hg : cap < n + m) (h63 : ((n + m : Nat) : Int) ≤ 9223372036854775807) (hfit : Builtin.nextslicecap (n + m) cap * i.bytes ≤ 281474976710656) :
    (Builtin.append_ #[t, t'] ty #[.slice base n cap, xv]).run P w =
      .ok (.slice (some ⟨w.heap.size, 0, none⟩) (n + m) (grownCap w (n + m) cap e))
        (w.drew.alloc (.cells (olds.toArray ++ news.toArray ++ Builtin.zeroCells z.cells (grownCap w (n + m) cap e - (n + m))) e)) := by
  have hn : ¬ (n + m ≤ cap) := by omega
  have h63' : ¬ (9223372036854775807 < ((n : Int) + (m : Int))) := by omega
  have h48' : ¬ (281474976710656 < Builtin.nextslicecap (n + m) cap * i.bytes) := by omega
  have hf1 := ho w.drew rfl
  obtain ⟨hL, _⟩ := hf w rfl
  obtain ⟨_, hf2⟩ := hf w.drew rfl
  have fin : ∀ {x y : Array Value}, x.toList = y.toList → x = y := fun h => Array.ext' h
  rcases hd with ⟨e', rfl⟩ | rfl
  · simp [Builtin.append_, run_underlying ht, run_underlying ht', sizeOf, typeInfo, zeroValue, hi, hz, hL, hn, h63', h48', Question.forced, hf1, hf2, newRow, grownCap]
    congr 2
    apply Array.ext'
    simp [List.append_assoc]
  · simp [Builtin.append_, run_underlying ht, run_underlying ht', sizeOf, typeInfo, zeroValue, hi, hz, hL, hn, h63', h48', Question.forced, hf1, hf2, newRow, grownCap]
    congr 2
    apply Array.ext'
    simp [List.append_assoc]

theorem run_append_same (t t' ty e : TypeId) (i : TypeInfo) (d : TypeDesc) (ht : P.underlying t = some (.slice e)) (ht' : P.underlying t' = some d) (hd : NotInt d) (hi : P.info? e = some i) (base : Option Addr) (xv : Value) (news : List Value) (hl : news.length = 0 * i.size) (hf : Srcs P w i.size 0 xv news) :
    (Builtin.append_ #[t, t'] ty #[.slice base 0 0, xv]).run P w = .ok (.slice base 0 0) w := by
  obtain ⟨hL, hF⟩ := hf w rfl
  have : news = [] := List.eq_nil_of_length_eq_zero (by simpa using hl)
  subst this
  rcases hd with ⟨e', rfl⟩ | rfl <;> cases base <;> simp [Builtin.append_, run_underlying ht, run_underlying ht', sizeOf, typeInfo, hi, hL, hF, storeCells]

theorem appArg_some {t t' e : TypeId} (h : appArg P t t' = true) (ht : P.underlying t = some (.slice e)) : ∃ d, P.underlying t' = some d ∧ NotInt d := by
  unfold appArg at h
  simp only [Bool.or_eq_true] at h
  rcases h with h | h
  · rw [of_decide_eq_true h]; exact ⟨_, ht, .inl ⟨e, rfl⟩⟩
  · exact ⟨_, isStr_some h, .inr rfl⟩

theorem srcA_vals (r : Rel B I0 w0 c s a as w) {sz m : Nat} {y : At} {get : Nat → Nat → D} {u : Value} (h : srcA s.heap sz y = some (m, get)) (hu : AtRep (imm B I0 c s.heap w) w s.heap c y u) :
    ∃ (vs : List Value), vs.length = m * sz ∧ (∀ i, i < m → ∀ j, j < sz → ∃ v, vs[i * sz + j]? = some v ∧ (get i j).Rep (imm B I0 c s.heap w) w v) ∧ Srcs P w sz m u vs := by
  unfold srcA at h
  split at h
  · rename_i b
    split at h
    · rename_i e
      subst e
      simp only [Option.some.injEq, Prod.mk.injEq] at h
      obtain ⟨rfl, rfl⟩ := h
      obtain ⟨rfl, _⟩ := hu
      have hsz : b.size = b.data.toList.length := by rw [Array.length_toList]; rfl
      refine ⟨b.data.toList.map fun x => .int .u8 x.toNat, by rw [List.length_map, Nat.mul_one, hsz], fun i hi j hj => ?_, fun w' hw => ⟨rfl, ?_⟩⟩
      · have : j = 0 := by omega
        subst this
        have hi' : i < b.data.toList.length := by rw [← hsz]; exact hi
        refine ⟨.int .u8 (b.data.toList.getD i 0).toNat, ?_, rfl, rfl⟩
        rw [Nat.mul_one, Nat.add_zero, List.getElem?_map, List.getElem?_eq_getElem hi', List.getD_eq_getElem?_getD, List.getElem?_eq_getElem hi']
        rfl
      · simp only [Builtin.firstCells, Sem.run_pure]
        congr 1
        have : b.extract 0 b.size = b := ByteArray.extract_zero_size
        rw [this]
        apply Array.ext'
        simp
    · cases h
  · obtain ⟨ad, cp, vs, e, hcp, hl, hv, hn, hc⟩ := src_vals r h hu
    refine ⟨vs, hl, hv, fun w' hw => ⟨by rw [e]; rfl, ?_⟩⟩
    rw [e]
    exact run_firstCells_vals hl hn (fun hm => by
      obtain ⟨b, off, e1, hcell⟩ := hc hm
      exact ⟨b, off, e1, fun j v hj => by rw [show w'.cell? ⟨b, off + j, none⟩ = w.cell? ⟨b, off + j, none⟩ by unfold World.cell?; rw [hw]]; exact hcell j v hj⟩)

theorem vals_D {I : Nat → Nat → Prop} {sz m : Nat} {get : Nat → Nat → D} {vs : List Value} (hl : vs.length = m * sz) (h : ∀ i, i < m → ∀ j, j < sz → ∃ v, vs[i * sz + j]? = some v ∧ (get i j).Rep I w v) :
    ∀ v ∈ vs, v.oneCell' = true := by
  intro v hv
  obtain ⟨q, hq, rfl⟩ := List.getElem_of_mem hv
  have hs : 0 < sz := by
    rcases Nat.eq_zero_or_pos sz with h | h
    · subst h; rw [Nat.mul_zero] at hl; omega
    · exact h
  obtain ⟨v', h1, h2⟩ := h (q / sz) ((Nat.div_lt_iff_lt_mul hs).2 (by rw [← hl]; exact hq)) (q % sz) (Nat.mod_lt _ hs)
  rw [Nat.div_add_mod' q sz] at h1
  rw [List.getElem?_eq_getElem hq] at h1
  simp at h1
  rw [h1]
  exact D.Rep.one _ h2

theorem row_lt {i sz j m : Nat} (hi : i < m) (hj : j < sz) : i * sz + j < m * sz := by
  have := Nat.mul_le_mul_right sz (show i + 1 ≤ m by omega)
  rw [Nat.add_mul] at this
  omega

/-- A new row out of what is appended to nothing. -/
theorem good_append_new {o : Oper} {t t' e sz by' m : Nat} {z : List Value} {y z0 : Operand} {a0 : Option Addr} {yy : At} {getx : Nat → Nat → D} {k x : V → St → Prop} (ho : o.op = .call { callee := .builtin .append, args := #[y, z0], argTypes := #[t, t'] }) (hta : appArg P t t' = true)
    (r : Rel B I0 w0 c s a as w) (hi' : rowInfo P t = some (e, sz, by', z)) (hy : a.eval y = .slice a0 0 0) (hz : AtRep (imm B I0 c s.heap w) w s.heap c yy (a.eval z0)) (hs : srcA s.heap sz yy = some (m, getx))
    (hm : 0 < m) (hb1 : m * by' ≤ 140737488355328) (hb2 : m ≤ 140737488355328)
    (h : k (.a (.row s.heap.length m)) { s with heap := s.heap ++ [.row e sz m getx 0] }) : Good P o B I0 w0 a as w k x := by
  obtain ⟨hu, i, v, h1, h2, h3, h4, h5, h6, h7, h8⟩ := rowInfo_some hi'
  obtain ⟨vs, hl, hv, hsrc⟩ := srcA_vals (P := P) r hs hz
  obtain ⟨d, hu', hd'⟩ := appArg_some hta hu
  have hrun := run_append_grow' (P := P) (w := w) t t' o.type e i d v hu hu' hd' h1 h4 a0 0 0 [] (fun w' _ => by cases a0 <;> simp [Builtin.firstCells, loadCells, loadCellsFrom]) (a.eval z0) m vs
    (by rw [h2]; exact hsrc) (by omega) (by omega) (by rw [Nat.zero_add, nextslicecap_zero hm, h3]; omega)
  simp only [Nat.zero_add] at hrun
  have hcap := grownCap_ge w m 0 e
  have hcap2 := grownCap_le_maxLen w m 0 e (by unfold maxLen; omega)
  have hzs : v.cells.size = sz := by rw [← h6, ← h5]; simp
  have r2 := r.drew.alloc_row ([].toArray ++ vs.toArray ++ Builtin.zeroCells v.cells (grownCap w m 0 e - m)) e sz m (grownCap w m 0 e) getx
    (by simp only [Array.size_append, List.size_toArray, size_zeroCells, hzs, hl, List.length_nil, Nat.zero_add]; rw [← Nat.add_mul]; congr 1; omega) hcap hcap2 (fun q hq j hj => by
      obtain ⟨v', hv1, hv2⟩ := hv q hq j hj
      have hlt := row_lt hq hj
      refine ⟨v', ?_, D.Rep.mono (w := w) (w' := w.drew) (I := imm B I0 c s.heap w) (fun b o h => ⟨h, rfl⟩) _ hv2⟩
      rw [Array.getElem?_append_left (by simp; omega)]
      simpa using hv1)
  refine Good.value (v := .a (.row s.heap.length m)) (u := .slice (some ⟨w.heap.size, 0, none⟩) m (grownCap w m 0 e)) ?_ r2 ⟨by simp, by simp [obLen, Ob.len], by simp [Cx.new, Cx.ad, Cx.cap]⟩ h
  simp only [execOp, ho, resolve, invoke, builtin, Sem.run_bind, Sem.run_pure, Result.andThen_ok, List.map_toArray, List.map_cons, List.map_nil, hy, hrun]

theorem Fr.fits_of_scrub (id : Nat) : (s.scrub id).cur.fits (fun i => i ≠ id) ∧ (∀ f ∈ (s.scrub id).rest, f.fits (fun i => i ≠ id)) ∧ (∀ o ∈ (s.scrub id).heap, o.fits (fun i => i ≠ id)) := by
  refine ⟨Fr.scrub_fits id _, fun f hf => ?_, fun o ho => ?_⟩
  · simp only [St.scrub, List.mem_map] at hf
    obtain ⟨q, _, rfl⟩ := hf
    exact Fr.scrub_fits id q
  · simp only [St.scrub, List.mem_map] at ho
    obtain ⟨q, _, rfl⟩ := ho
    exact Ob.scrub_fits id q

theorem good_append_row {o : Oper} {t t' e sz by' m id n n0 fz : Nat} {z : List Value} {y z0 : Operand} {yy : At} {get getx : Nat → Nat → D} {k x : V → St → Prop} (ho : o.op = .call { callee := .builtin .append, args := #[y, z0], argTypes := #[t, t'] }) (hta : appArg P t t' = true)
    (r : Rel B I0 w0 c s a as w) (hi' : rowInfo P t = some (e, sz, by', z)) (hy : AtRep (imm B I0 c s.heap w) w s.heap c (.row id n) (a.eval y)) (hz : AtRep (imm B I0 c s.heap w) w s.heap c yy (a.eval z0)) (hs : srcA s.heap sz yy = some (m, getx))
    (hob : s.heap[id]? = some (.row e sz n0 get fz)) (hfz : fz ≤ n) (hb1 : (n + m) * by' ≤ 140737488355328) (hb2 : n + m ≤ 140737488355328)
    (h : k (.a (.row id (n + m))) ⟨s.cur.scrub id, s.rest.map (Fr.scrub id), (s.heap.map (Ob.scrub id)).set id (.row e sz (n + m) (catRow get n getx) fz)⟩) : Good P o B I0 w0 a as w k x := by
  obtain ⟨hu, i, v, h1, h2, h3, h4, h5, h6, h7, h8⟩ := rowInfo_some hi'
  obtain ⟨vs, hl, hv, hsrc⟩ := srcA_vals (P := P) r hs hz
  obtain ⟨d, hu', hd'⟩ := appArg_some hta hu
  obtain ⟨hid, hnl, ey⟩ := hy
  have hn0 : n ≤ n0 := by simpa [obLen, hob, Ob.len] using hnl
  obtain ⟨hlen, hmx, hr0⟩ := r.obs id _ hob
  have rs := r.scrub id
  obtain ⟨f1, f2, f3⟩ := Fr.fits_of_scrub (s := s) id
  have hi0 : imm B I0 c (s.scrub id).heap w = imm B I0 c s.heap w := imm_scrub id
  have hobs : (s.scrub id).heap[id]? = some (.row e sz n0 get fz) := by simp [St.scrub, hob, Ob.scrub]
  have h1v := vals_D hl hv
  have hzs : v.cells.size = sz := by rw [← h6, ← h5]; simp
  have run : ∀ u w', (Builtin.append_ #[t, t'] o.type #[a.eval y, a.eval z0]).run P w = .ok u w' → (execOp a.eval o).run P w = .ok (.value u) w' := fun u w' hr => by
    simp only [execOp, ho, resolve, invoke, builtin, Sem.run_bind, Sem.run_pure, Result.andThen_ok, List.map_toArray, List.map_cons, List.map_nil, hr]
  cases hk0 : c.κ id with
  | none =>
    -- nothing is there
    have hcp := cap_none hk0
    have hn00 : n = 0 := by omega
    subst hn00
    rw [hcp, ad_none hk0] at ey
    simp only [Nat.zero_add] at *
    by_cases hm0 : m = 0
    · subst hm0
      have hrun := run_append_same (P := P) (w := w) t t' o.type e i d hu hu' hd' h1 none (a.eval z0) vs (by rw [h2]; exact hl) (by rw [h2]; exact hsrc)
      have hd : ∀ b o, imm B I0 c (s.scrub id).heap w b o → imm B I0 c ((s.scrub id).heap.set id (.row e sz 0 (catRow get 0 getx) fz)) w b o ∧ w.cell? ⟨b, o, none⟩ = w.cell? ⟨b, o, none⟩ := by
        intro b o hbo
        refine ⟨?_, rfl⟩
        rcases hbo with hbo | ⟨e1, e2, e3⟩
        · exact .inl hbo
        · refine .inr ⟨e1, e2, fun i ob hio hb hρ => ?_⟩
          by_cases hne : i = id
          · subst hne
            rw [List.getElem?_set_self (by simpa [St.scrub] using hid)] at hio
            simp at hio; subst hio
            simp [Ob.blk, hk0] at hb
          · rw [List.getElem?_set_ne (by omega)] at hio
            exact e3 i ob hio hb hρ
      have r2 := rs.replace (id := id) (.row e sz n0 get fz) (.row e sz 0 (catRow get 0 getx) fz) (w' := w) (c' := c) hobs f1 f2 f3
        r.below (fun _ h => h) (Nat.le_refl _) (fun i _ => ⟨rfl, rfl⟩) rfl hd (fun k _ _ => rfl)
        (fun hb => by simp [Ob.blk, hk0] at hb)
        (fun hs' => ⟨Nat.zero_le _, hmx, fun k h => by rw [hk0] at h; cases h⟩)
      refine Good.value (v := .a (.row id 0)) (u := .slice none 0 0) (run _ _ (by rw [ey]; exact hrun)) r2 ⟨by simp [St.scrub]; exact hid, Nat.zero_le _, by rw [hcp, ad_none hk0]⟩ h
    · have hrun := run_append_grow' (P := P) (w := w) t t' o.type e i d v hu hu' hd' h1 h4 none 0 0 [] (fun w' _ => by simp [Builtin.firstCells]) (a.eval z0) m vs
        (by rw [h2]; exact hsrc) (by omega) (by omega) (by rw [Nat.zero_add, nextslicecap_zero (by omega), h3]; omega)
      simp only [Nat.zero_add] at hrun
      have hcap := grownCap_ge w m 0 e
      have hcap2 := grownCap_le_maxLen w m 0 e (by unfold maxLen; omega)
      generalize grownCap w m 0 e = nc at *
      let c' : Cx := { c with ρ := fun i => if i = id then w.heap.size else c.ρ i, κ := fun i => if i = id then some nc else c.κ i }
      let cur' : Array Value := [].toArray ++ vs.toArray ++ Builtin.zeroCells v.cells (nc - m)
      have hcur'L : cur'.toList = vs ++ (Builtin.zeroCells v.cells (nc - m)).toList := by simp [cur']
      have hd : ∀ b o, imm B I0 c (s.scrub id).heap w b o → imm B I0 c' ((s.scrub id).heap.set id (.row e sz m (catRow get 0 getx) fz)) (w.drew.alloc (.cells cur' e)) b o ∧ (w.drew.alloc (.cells cur' e)).cell? ⟨b, o, none⟩ = w.cell? ⟨b, o, none⟩ := by
        intro b o hbo
        have hlt : b < w.heap.size := imm_lt rs b o hbo
        refine ⟨?_, World.cell?_alloc_lt (a := ⟨b, o, none⟩) w.drew _ hlt⟩
        rcases hbo with hbo | ⟨e1, e2, e3⟩
        · exact .inl hbo
        · refine .inr ⟨e1, by simp; omega, fun i ob hio hb hρ => ?_⟩
          by_cases hne : i = id
          · subst hne; simp only [c', if_true] at hρ; omega
          · rw [List.getElem?_set_ne (by omega)] at hio
            simp only [c', if_neg hne] at hρ hb
            exact e3 i ob hio hb hρ
      have r2 := rs.replace (id := id) (.row e sz n0 get fz) (.row e sz m (catRow get 0 getx) fz) (w' := w.drew.alloc (.cells cur' e)) (c' := c') hobs f1 f2 f3
        ((r.below.drew).alloc r.size _) (Kd.alloc w.drew _) (by simp) (fun i hne => by simp only [c']; rw [if_neg hne, if_neg hne]; exact ⟨rfl, rfl⟩) rfl hd (fun k hk _ => Below.heap_alloc w.drew _ k hk)
        (fun _ i o hne hio hb => by
          have := rs.ρ_lt hio hb
          simp only [c', if_true]
          omega)
        (fun hs' => ⟨by simp only [c', Cx.cap, if_true]; exact hcap, by simp only [c', Cx.cap, if_true]; exact hcap2, fun k hk => ⟨by simp only [c', if_true]; exact r.size, cur', by simp only [c', if_true]; exact heap_alloc_new w.drew _, by
          simp only [c', if_true, Option.some.injEq] at hk
          subst hk
          simp only [cur', Array.size_append, List.size_toArray, size_zeroCells, hzs, hl, List.length_nil, Nat.zero_add, ← Nat.add_mul]
          congr 1
          omega, fun q hq j hj => by
          obtain ⟨x, hx, hr⟩ := hv q hq j hj
          have hlt := row_lt hq hj
          refine ⟨x, ?_, ?_⟩
          · have : cur'.toList[q * sz + j]? = some x := by rw [hcur'L, List.getElem?_append_left (by omega)]; exact hx
            simpa using this
          · simp only [catRow, Nat.not_lt_zero, if_false, Nat.sub_zero]
            exact D.Rep.mono (fun b o hbo => hd b o (by rw [hi0]; exact hbo)) _ hr⟩⟩)
      refine Good.value (v := .a (.row id m)) (u := .slice (some ⟨w.heap.size, 0, none⟩) m nc) (run _ _ (by rw [ey]; exact hrun)) r2 ⟨by simp [St.scrub]; exact hid, ?_, by simp [c', Cx.ad, Cx.cap]⟩ h
      unfold obLen
      simp [St.scrub, Ob.len, hid]
  | some ck =>
  obtain ⟨hB, cur, hcur, hsz, hg⟩ := hr0 ck hk0
  have hcp := cap_some hk0
  rw [hcp] at hlen hmx
  rw [hcp, ad_some hk0] at ey
  have hblk : ∀ m get, (Ob.row e sz m get fz).blk (c.κ id) = true := fun _ _ => row_blk hk0
  have hold : ∀ q, q < n → ∀ j, j < sz → ∃ x, (cur.toList.take (n * sz))[q * sz + j]? = some x ∧ (get q j).Rep (imm B I0 c s.heap w) w x := fun q hq j hj => by
    obtain ⟨x, hx, hr⟩ := hg q (by omega) j hj
    refine ⟨x, ?_, hr⟩
    rw [List.getElem?_take, if_pos (row_lt hq hj)]
    simpa using hx
  have hncap : n * sz ≤ cur.size := by rw [hsz]; exact Nat.mul_le_mul_right _ (by omega)
  have hltake : (cur.toList.take (n * sz)).length = n * sz := by simp; omega
  have cat : ∀ (I : Nat → Nat → Prop) (w' : World), (∀ b o, imm B I0 c s.heap w b o → I b o ∧ w'.cell? ⟨b, o, none⟩ = w.cell? ⟨b, o, none⟩) → ∀ rest : List Value, ∀ q, q < n + m → ∀ j, j < sz →
      ∃ x, (cur.toList.take (n * sz) ++ vs ++ rest)[q * sz + j]? = some x ∧ (catRow get n getx q j).Rep I w' x := by
    intro I w' hd rest q hq j hj
    by_cases hqn : q < n
    · obtain ⟨x, hx, hr⟩ := hold q hqn j hj
      have hlt := row_lt hqn hj
      refine ⟨x, ?_, by simp only [catRow, hqn, if_true]; exact D.Rep.mono hd _ hr⟩
      rw [List.append_assoc, List.getElem?_append_left (by omega)]
      exact hx
    · obtain ⟨x, hx, hr⟩ := hv (q - n) (by omega) j hj
      have hlt := row_lt (show q - n < m by omega) hj
      refine ⟨x, ?_, by simp only [catRow, hqn, if_false]; exact D.Rep.mono hd _ hr⟩
      have e1 : q * sz + j - n * sz = (q - n) * sz + j := by
        have : q * sz = (q - n) * sz + n * sz := by rw [← Nat.add_mul]; congr 1; omega
        omega
      have e2 : n * sz ≤ q * sz := Nat.mul_le_mul_right _ (by omega)
      rw [List.append_assoc, List.getElem?_append_right (by omega), hltake, List.getElem?_append_left (by omega), e1]
      exact hx
  by_cases hroom : n + m ≤ ck
  · -- within the capacity
    have hfit : n * i.size + vs.length ≤ cur.size := by rw [h2, hl, hsz, ← Nat.add_mul]; exact Nat.mul_le_mul_right _ hroom
    have hrun := run_append_room' (P := P) (w := w) t t' o.type e i d hu hu' hd' h1 (c.ρ id) n ck cur hcur (a.eval z0) m vs (by rw [h2]; exact hl) (by rw [h2]; exact hsrc) h1v hroom hfit
    rw [h2] at hrun
    let cur' : Array Value := (cur.toList.take (n * sz) ++ vs ++ cur.toList.drop (n * sz + vs.length)).toArray
    have hkeep : ∀ q, q < fz * sz → cur'[q]? = cur[q]? := by
      intro q hq
      have : fz * sz ≤ n * sz := Nat.mul_le_mul_right _ hfz
      simp only [cur', List.getElem?_toArray]
      rw [List.append_assoc, List.getElem?_append_left (by omega), List.getElem?_take, if_pos (by omega)]
      simp
    have hd : ∀ b o, imm B I0 c (s.scrub id).heap w b o → imm B I0 c ((s.scrub id).heap.set id (.row e sz (n + m) (catRow get n getx) fz)) (w.setRow (c.ρ id) cur') b o ∧ (w.setRow (c.ρ id) cur').cell? ⟨b, o, none⟩ = w.cell? ⟨b, o, none⟩ :=
      fun b o hbo => imm_setRow (.row e sz n0 get fz) (.row e sz (n + m) (catRow get n getx) fz) id cur cur' e hcur hobs (hblk _ _) hB rfl hkeep b o hbo
    have r2 := rs.replace (id := id) (.row e sz n0 get fz) (.row e sz (n + m) (catRow get n getx) fz) (w' := w.setRow (c.ρ id) cur') (c' := c) hobs f1 f2 f3
      (r.below.trans ⟨rfl, rfl, rfl, by simp, fun k hk => setRow_other w _ k _ (by omega)⟩) (Kd.setRow w _ cur cur' e hcur) (by simp) (fun i _ => ⟨rfl, rfl⟩) rfl hd (fun k _ hk => setRow_other w _ k _ (hk (hblk _ _)))
      (fun _ i o hne hio hb => fun e => hne (rs.inj i id o _ hio hobs hb (hblk _ _) e))
      (fun hs' => ⟨by rw [hcp]; exact hroom, by rw [hcp]; exact hmx, fun k hk => ⟨hB, cur', setRow_heap w _ cur _ e _ hcur, by
        have : k = ck := by rw [hk0] at hk; exact (Option.some.inj hk).symm
        subst this
        simp only [cur', List.size_toArray, List.length_append, List.length_drop, Array.length_toList, hltake]
        rw [h2] at hfit
        omega, fun q hq j hj => by
        obtain ⟨x, hx, hr⟩ := cat _ _ (fun b o hbo => hd b o (by rw [hi0]; exact hbo)) (cur.toList.drop (n * sz + vs.length)) q hq j hj
        exact ⟨x, by simpa [cur'] using hx, hr⟩⟩⟩)
    refine Good.value (v := .a (.row id (n + m))) (u := .slice (some ⟨c.ρ id, 0, none⟩) (n + m) ck) (run _ _ (by rw [ey]; exact hrun)) r2 ⟨by simp [St.scrub]; exact hid, ?_, by rw [hcp, ad_some hk0]⟩ h
    unfold obLen
    simp [St.scrub, Ob.len, hid]
  · -- a new block
    have hrun := run_append_grow' (P := P) (w := w) t t' o.type e i d v hu hu' hd' h1 h4 (some ⟨c.ρ id, 0, none⟩) n ck (cur.toList.take (n * sz))
      (fun w' hw => by
        rw [h2]
        refine run_firstCells_vals hltake (fun h => by cases h) (fun _ => ⟨_, _, rfl, fun j u hj => ?_⟩)
        have hj' : j < n * sz := by
          have := (List.getElem?_eq_some_iff.1 hj).1
          omega
        rw [List.getElem?_take, if_pos hj'] at hj
        unfold World.cell?
        rw [hw]
        simp [hcur]
        simpa using hj)
      (a.eval z0) m vs (by rw [h2]; exact hsrc)
      (by omega) (by omega) (growslice_fits (by omega) (by rw [h3]; exact hb1))
    have hcap := grownCap_ge w (n + m) ck e
    have hcap2 := grownCap_le_maxLen w (n + m) ck e (by unfold maxLen; omega)
    generalize grownCap w (n + m) ck e = nc at *
    let c' : Cx := { c with ρ := fun i => if i = id then w.heap.size else c.ρ i, κ := fun i => if i = id then some nc else c.κ i }
    let cur' : Array Value := (cur.toList.take (n * sz)).toArray ++ vs.toArray ++ Builtin.zeroCells v.cells (nc - (n + m))
    have hcur'L : cur'.toList = cur.toList.take (n * sz) ++ vs ++ (Builtin.zeroCells v.cells (nc - (n + m))).toList := by simp [cur']
    have hd : ∀ b o, imm B I0 c (s.scrub id).heap w b o → imm B I0 c' ((s.scrub id).heap.set id (.row e sz (n + m) (catRow get n getx) fz)) (w.drew.alloc (.cells cur' e)) b o ∧ (w.drew.alloc (.cells cur' e)).cell? ⟨b, o, none⟩ = w.cell? ⟨b, o, none⟩ := by
      intro b o hbo
      have hlt : b < w.heap.size := imm_lt rs b o hbo
      refine ⟨?_, World.cell?_alloc_lt (a := ⟨b, o, none⟩) w.drew _ hlt⟩
      rcases hbo with hbo | ⟨e1, e2, e3⟩
      · exact .inl hbo
      · refine .inr ⟨e1, by simp; omega, fun i ob hio hb hρ => ?_⟩
        by_cases hne : i = id
        · subst hne; simp only [c', if_true] at hρ; omega
        · rw [List.getElem?_set_ne (by omega)] at hio
          simp only [c', if_neg hne] at hρ hb
          exact e3 i ob hio hb hρ
    have r2 := rs.replace (id := id) (.row e sz n0 get fz) (.row e sz (n + m) (catRow get n getx) fz) (w' := w.drew.alloc (.cells cur' e)) (c' := c') hobs f1 f2 f3
      ((r.below.drew).alloc r.size _) (Kd.alloc w.drew _) (by simp) (fun i hne => by simp only [c']; rw [if_neg hne, if_neg hne]; exact ⟨rfl, rfl⟩) rfl hd (fun k hk _ => Below.heap_alloc w.drew _ k hk)
      (fun _ i o hne hio hb => by
        have := rs.ρ_lt hio hb
        simp only [c', if_true]
        omega)
      (fun hs' => ⟨by simp only [c', Cx.cap, if_true]; exact hcap, by simp only [c', Cx.cap, if_true]; exact hcap2, fun k hk => ⟨by simp only [c', if_true]; exact r.size, cur', by simp only [c', if_true]; exact heap_alloc_new w.drew _, by
        simp only [c', if_true, Option.some.injEq] at hk
        subst hk
        simp only [cur', Array.size_append, List.size_toArray, size_zeroCells, hzs, hltake, hl, ← Nat.add_mul]
        congr 1
        omega, fun q hq j hj => by
        obtain ⟨x, hx, hr⟩ := cat _ _ (fun b o hbo => hd b o (by rw [hi0]; exact hbo)) (Builtin.zeroCells v.cells (nc - (n + m))).toList q hq j hj
        refine ⟨x, ?_, hr⟩
        rw [← hcur'L] at hx
        simpa using hx⟩⟩)
    refine Good.value (v := .a (.row id (n + m))) (u := .slice (some ⟨w.heap.size, 0, none⟩) (n + m) nc) (run _ _ (by rw [ey]; exact hrun)) r2 ⟨by simp [St.scrub]; exact hid, ?_, by simp [c', Cx.ad, Cx.cap]⟩ h
    unfold obLen
    simp [St.scrub, Ob.len, hid]
end
end Go.Proofs.Vl
