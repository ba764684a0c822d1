/- A part of the proof: Simp4. -/
import Derived.Test.YtddngfpgeifffaaGreatDoorVlSimp3
import Derived.Test.YtddngfpgeifffaaGreatDoorVlMore
set_option linter.unusedVariables false
set_option linter.unusedSimpArgs false
/- A small logic of abstract values: how simp runs the evaluator: maps, ranges over functions, what is said otherwise. -/
namespace Go.Proofs.Vl
open Go Go.RowKit

attribute [simp] List.getElem?_cons_zero List.getElem?_cons_succ List.getElem?_nil
@[simp] theorem reps_1 (z : List Value) : reps z 1 = z := by simp [reps]
@[simp] theorem reps_2 (z : List Value) : reps z 2 = z ++ (z) := by simp [reps]
@[simp] theorem reps_3 (z : List Value) : reps z 3 = z ++ (z ++ (z)) := by simp [reps]
@[simp] theorem reps_4 (z : List Value) : reps z 4 = z ++ (z ++ (z ++ (z))) := by simp [reps]
@[simp] theorem reps_5 (z : List Value) : reps z 5 = z ++ (z ++ (z ++ (z ++ (z)))) := by simp [reps]
@[simp] theorem reps_6 (z : List Value) : reps z 6 = z ++ (z ++ (z ++ (z ++ (z ++ (z))))) := by simp [reps]
@[simp] theorem reps_7 (z : List Value) : reps z 7 = z ++ (z ++ (z ++ (z ++ (z ++ (z ++ (z)))))) := by simp [reps]
@[simp] theorem reps_8 (z : List Value) : reps z 8 = z ++ (z ++ (z ++ (z ++ (z ++ (z ++ (z ++ (z))))))) := by simp [reps]
@[simp] theorem tdiv_lit (a n : Nat) : Int.tdiv (a : Int) (no_index (OfNat.ofNat n) : Int) = ((a / n : Nat) : Int) := rfl
@[simp] theorem tmod_lit (a n : Nat) : Int.tmod (a : Int) (no_index (OfNat.ofNat n) : Int) = ((a % n : Nat) : Int) := rfl
section
variable {P : Program} {s s' : St} {k x : V → St → Prop} {d : Option Tmp} {ty0 : TypeId} {p : String} {af : Array Edge} {g : Option (Nat × Bool)}
/-! maps -/
def obMp (ob : Ob) (k : TypeId → Option IntKind → List (MK × D) → Prop) : Prop := match ob with | .mp t kk l => k t kk l | _ => False
@[congr] theorem obMp_congr {v v' : Ob} {k : TypeId → Option IntKind → List (MK × D) → Prop} {tk : Nat} (htk : tick = tk) (h : v = v') : obMp v k = obMp v' k := h ▸ rfl
@[simp] theorem obMp_c (t : TypeId) (kk : Option IntKind) (l : List (MK × D)) (k : TypeId → Option IntKind → List (MK × D) → Prop) : obMp (.mp t kk l) k = k t kk l := rfl
@[simp] theorem evOp_makeMap (t : TypeId) : evOp P ⟨d, .makeMap t none, ty0, p, af, g⟩ s k x = optK (mapInfo P t) fun q => k (.c false [.mp s.heap.length]) { s with heap := s.heap ++ [.mp t q.1 []] } := by
  show (match mapInfo P t with | some (kk, _) => _ | none => False) = _
  cases mapInfo P t <;> rfl
@[simp] theorem evOp_assert (t xt : TypeId) (y : Operand) : evOp P ⟨d, .typeAssert y xt t true, ty0, p, af, g⟩ s k x = chk (emptyAgg P t = true) (evAssert0 t (s.eval y) fun v => k v s) := rfl
@[congr] theorem evAssert0_congr {t : TypeId} {v v' : V} {k : V → Prop} {tk : Nat} (htk : tick = tk) (h : v = v') : evAssert0 t v k = evAssert0 t v' k := h ▸ rfl
@[simp] theorem evAssert0_nil (t : TypeId) (k : V → Prop) : evAssert0 t (.c false [.d (.raw .nilIface)]) k = k (.tup [(true, []), (false, [.d (.raw (.bool false))])]) := rfl
@[simp] theorem evAssert0_iface (t t' : TypeId) (k : V → Prop) : evAssert0 t (.c false [.d (.raw (.iface t' (.agg ⟨[]⟩)))]) k = chk (t' = t) (k (.tup [(true, []), (false, [.d (.raw (.bool true))])])) := rfl
@[simp] theorem evOp_lookup (t : TypeId) (y z : Operand) (ok : Bool) : evOp P ⟨d, .lookup t y z ok, ty0, p, af, g⟩ s k x = evLookup P t (s.eval y) (s.eval z) ok s fun v => k v s := rfl
@[simp] theorem evOp_mapUpdate (t : TypeId) (y z u : Operand) : evOp P ⟨d, .mapUpdate t y z u, ty0, p, af, g⟩ s k x = evMapSet P t (s.eval y) (s.eval z) (s.eval u) s fun s' => k .unk s' := rfl
@[simp] theorem evOp_insert (t : TypeId) (y z u : Operand) : evOp P ⟨d, .insert t y z u, ty0, p, af, g⟩ s k x = evMapSet P t (s.eval y) (s.eval z) (s.eval u) s fun s' => k .unk s' := rfl
@[congr] theorem evLookup_congr {t : TypeId} {v v' y y' : V} {ok : Bool} {k : V → Prop} {tk : Nat} (htk : tick = tk) (h1 : v = v') (h2 : y = y') (h : s = s') : evLookup P t v y ok s k = evLookup P t v' y' ok s' k := h1 ▸ h2 ▸ h ▸ rfl
@[congr] theorem evMapSet_congr {t : TypeId} {v v' y y' z z' : V} {k : St → Prop} {tk : Nat} (htk : tick = tk) (h1 : v = v') (h2 : y = y') (h3 : z = z') (h : s = s') : evMapSet P t v y z s k = evMapSet P t v' y' z' s' k := h1 ▸ h2 ▸ h3 ▸ h ▸ rfl
@[simp] theorem evLookup_c (t id : Nat) (key : Value) (ok : Bool) (k : V → Prop) : evLookup P t (.c false [.mp id]) (.c false [.d (.raw key)]) ok s k = optK (s.heap[id]?) fun ob => optK (mapInfo P t) fun q => obMp ob fun t' kk' l => chk (t' = t ∧ kk' = q.1)
    (optK (mkey q.1 key) fun m => boolK ok (k (.tup [(false, [.d ((mget l m).getD (.raw q.2))]), (false, [.d (.raw (.bool (mget l m).isSome))])])) (k (.c false [.d ((mget l m).getD (.raw q.2))]))) := by
  show (match s.heap[id]?, mapInfo P t with | some (.mp t' kk' l), some (kk, z) => _ | _, _ => False) = _
  cases s.heap[id]? with
  | none => rfl
  | some ob =>
    cases mapInfo P t with
    | none => cases ob <;> rfl
    | some q =>
      cases ob <;> try rfl
      rename_i t' kk' l
      simp only [optK_some, obMp_c]
      unfold chk
      split
      · cases mkey q.1 key <;> rfl
      · rfl
@[simp] theorem evMapSet_c (t id : Nat) (key : Value) (dv : D) (k : St → Prop) : evMapSet P t (.c false [.mp id]) (.c false [.d (.raw key)]) (.c false [.d dv]) s k = optK (s.heap[id]?) fun ob => optK (mapInfo P t) fun q => obMp ob fun t' kk' l => chk (t' = t ∧ kk' = q.1)
    (optK (mkey q.1 key) fun m => k { s with heap := s.heap.set id (.mp t q.1 (mset l m dv)) }) := by
  show (match s.heap[id]?, mapInfo P t with | some (.mp t' kk' l), some (kk, _) => _ | _, _ => False) = _
  cases s.heap[id]? with
  | none => rfl
  | some ob =>
    cases mapInfo P t with
    | none => cases ob <;> rfl
    | some q =>
      cases ob <;> try rfl
      rename_i t' kk' l
      simp only [optK_some, obMp_c]
      unfold chk
      split
      · cases mkey q.1 key <;> rfl
      · rfl
@[simp] theorem mkey_int (κ : IntKind) (n : Int) : mkey (some κ) (.int κ n) = some (.i n) := by simp [mkey]
@[simp] theorem mkey_str (b : ByteArray) : mkey none (.string b) = some (.s b.data.toList) := rfl

/-! rounds -/
@[congr] theorem AYield_congr {id id' : Nat} {l l' : List (Bool × List At)} {k : V → St → Prop} {tk : Nat} (htk : tick = tk) (h0 : id = id') (h1 : l = l') (h : s = s') : AYield P id l s k = AYield P id' l' s' k := h0 ▸ h1 ▸ h ▸ rfl
@[simp] theorem evCall_yld (id : Nat) (l : List Operand) : evCall P (.c false [.yld id]) l s k x = optK (parts s l) fun l => AYield P id l s k := by
  unfold evCall
  cases parts s l <;> rfl
def obLp (ob : Ob) (k : Nat → Nat → List (Nat × V) → List Nat → Code → Code → Bool → Option Code → Prop) : Prop := match ob with | .lp l nt tl ps asg body busy pend => k l nt tl ps asg body busy pend | _ => False
@[congr] theorem obLp_congr {v v' : Ob} {k : Nat → Nat → List (Nat × V) → List Nat → Code → Code → Bool → Option Code → Prop} {tk : Nat} (htk : tick = tk) (h : v = v') : obLp v k = obLp v' k := h ▸ rfl
@[simp] theorem obLp_c (l nt : Nat) (tl : List (Nat × V)) (ps : List Nat) (asg body : Code) (busy : Bool) (pend : Option Code) (k : Nat → Nat → List (Nat × V) → List Nat → Code → Code → Bool → Option Code → Prop) : obLp (.lp l nt tl ps asg body busy pend) k = k l nt tl ps asg body busy pend := rfl
variable {K : St → Prop} {KA : AX → St → Prop}
@[congr] theorem asgK_congr {ax ax' : AX} {tk : Nat} (htk : tick = tk) (h1 : ax = ax') (h : s = s') : asgK K ax s = asgK K ax' s' := h1 ▸ h ▸ rfl
@[simp] theorem asgK_normal : asgK K .normal s = K s := rfl
@[congr] theorem busyK_congr {id l0 : Nat} {tk : Nat} (htk : tick = tk) (h : s = s') : busyK id l0 K s = busyK id l0 K s' := h ▸ rfl
@[simp] theorem busyK_is (id l0 : Nat) : busyK id l0 K s = optK (s.heap[id]?) fun ob => obLp ob fun l nt tl ps asg body busy pend => chk (busy = false ∧ pend = none ∧ l = l0) (K { s with heap := s.heap.set id (.lp l nt tl ps asg body true none) }) := by
  unfold busyK
  cases s.heap[id]? with
  | none => rfl
  | some ob =>
    cases ob <;> try rfl
    rename_i l nt tl ps asg body busy pend
    simp only [optK_some, obLp_c]
    unfold chk
    cases busy <;> cases pend <;> simp
@[congr] theorem roundK_congr {id l0 : Nat} {k : V → St → Prop} {ax ax' : AX} {tk : Nat} (htk : tick = tk) (h1 : ax = ax') (h : s = s') : roundK id l0 k ax s = roundK id l0 k ax' s' := h1 ▸ h ▸ rfl
@[congr] theorem roundEnd_congr {id l0 : Nat} {k : V → St → Prop} {j j' : Option Code} {tk : Nat} (htk : tick = tk) (h1 : j = j') (h : s = s') : roundEnd id l0 k j s = roundEnd id l0 k j' s' := h1 ▸ h ▸ rfl
@[simp] theorem roundK_normal (id l0 : Nat) : roundK id l0 k .normal s = roundEnd id l0 k none s := rfl
@[simp] theorem roundK_ret (id l0 : Nat) : roundK id l0 k .ret s = roundEnd id l0 k (some .ret) s := rfl
@[simp] theorem roundK_exit (id l0 j : Nat) : roundK id l0 k (.exit j) s = roundEnd id l0 k (some (.exit j)) s := rfl
@[simp] theorem roundEnd_cons (id l0 : Nat) (j : Option Code) (c f : Fr) (r : List Fr) (h : List Ob) : roundEnd id l0 k j ⟨c, f :: r, h⟩ = optK (h[id]?) fun ob => obLp ob fun l nt tl ps asg body busy pend => chk (busy = true ∧ pend = none ∧ l = l0)
    (k (.c false [.d (.raw (.bool j.isNone))]) ⟨f, r, h.set id (.lp l nt tl ps asg body false j)⟩) := by
  unfold roundEnd
  show (match (f :: r), h[id]? with | f :: r, some (.lp l nt tl ps asg body true none) => _ | _, _ => False) = _
  cases h[id]? with
  | none => rfl
  | some ob =>
    cases ob <;> try rfl
    rename_i l nt tl ps asg body busy pend
    simp only [optK_some, obLp_c]
    unfold chk
    cases busy <;> cases pend <;> simp [V.raw]
@[congr] theorem rangeEnd_congr {id l0 : Nat} {tk : Nat} (htk : tick = tk) (h : s = s') : rangeEnd id l0 KA s = rangeEnd id l0 KA s' := h ▸ rfl
@[congr] theorem jumpK_congr {j j' : Option Code} {tk : Nat} (htk : tick = tk) (h1 : j = j') (h : s = s') : jumpK KA s j = jumpK KA s' j' := h1 ▸ h ▸ rfl
@[simp] theorem jumpK_none : jumpK KA s none = KA .normal s := rfl
@[simp] theorem jumpK_ret : jumpK KA s (some .ret) = KA .ret s := rfl
@[simp] theorem jumpK_exit (j : Nat) : jumpK KA s (some (.exit j)) = KA (.exit j) s := rfl
@[simp] theorem dropLp_is (id : Nat) (s : St) : s.dropLp id = ⟨s.cur.scrub id, s.rest.map (Fr.scrub id), (s.heap.map (Ob.scrub id)).set id .gone⟩ := rfl
@[simp] theorem rangeEnd_is (id l0 : Nat) : rangeEnd id l0 KA s = optK (s.heap[id]?) fun ob => obLp ob fun l nt tl ps asg body busy pend => chk (busy = false ∧ l = l0) (jumpK KA (s.dropLp id) pend) := by
  unfold rangeEnd
  cases s.heap[id]? with
  | none => rfl
  | some ob =>
    cases ob <;> try rfl
    rename_i l nt tl ps asg body busy pend
    simp only [optK_some, obLp_c]
    unfold chk
    cases busy <;> simp
@[simp] theorem awp_rangeFunc (gg : Operand) (ps : Array Tmp) (asg body : Code) : awp P (.rangeFunc gg ps asg body) s KA = AOther P (.rangeFunc gg ps asg body) s KA := rfl
@[simp] theorem zipA_cons (q : Nat) (ps : List Nat) (g : Bool) (xs : List At) (l : List (Bool × List At)) (tl : List (Nat × V)) : zipA (q :: ps) ((g, xs) :: l) tl = zipA ps l ((q, .c g xs) :: tl) := rfl
@[simp] theorem zipA_nil (l : List (Bool × List At)) (tl : List (Nat × V)) : zipA [] l tl = tl := by cases l <;> rfl

/-! what is said otherwise -/
@[simp] theorem mapA_c (f : At → At) (g : Bool) (xs : List At) : V.mapA f (.c g xs) = .c g (xs.map f) := rfl
@[simp] theorem mapA_tup (f : At → At) (ys : List (Bool × List At)) : V.mapA f (.tup ys) = .tup (ys.map fun p => (p.1, p.2.map f)) := rfl
@[simp] theorem frmapA_is (f : At → At) (nt : Nat) (l : List (Nat × V)) : Fr.mapA f ⟨nt, l⟩ = ⟨nt, l.map fun p => (p.1, p.2.mapA f)⟩ := rfl
@[simp] theorem obmapA_cells (f : At → At) (e : TypeId) (xs : List At) : Ob.mapA f (.cells e xs) = .cells e (xs.map f) := rfl
@[simp] theorem obmapA_row (f : At → At) (e sz m : Nat) (get : Nat → Nat → D) (fz : Nat) : Ob.mapA f (.row e sz m get fz) = .row e sz m get fz := rfl
@[simp] theorem obmapA_gone (f : At → At) : Ob.mapA f .gone = .gone := rfl
@[simp] theorem obmapA_mp (f : At → At) (t : TypeId) (kk : Option IntKind) (l : List (MK × D)) : Ob.mapA f (.mp t kk l) = .mp t kk l := rfl
@[simp] theorem obmapA_clo (f : At → At) (fn : Fn) (a c : List (Bool × List At)) : Ob.mapA f (.clo fn a c) = .clo fn (a.map fun p => (p.1, p.2.map f)) (c.map fun p => (p.1, p.2.map f)) := rfl
@[simp] theorem obmapA_lp (f : At → At) (l nt : Nat) (tl : List (Nat × V)) (ps : List Nat) (asg body : Code) (busy : Bool) (pend : Option Code) : Ob.mapA f (.lp l nt tl ps asg body busy pend) = .lp l nt (tl.map fun p => (p.1, p.2.mapA f)) ps asg body busy pend := rfl
@[simp] theorem partsA_is (f : At → At) (l : List (Bool × List At)) : partsA f l = l.map fun p => (p.1, p.2.map f) := rfl
@[simp] theorem freeze_is (s : St) (id sz : Nat) (get : Nat → Nat → D) : s.freeze id sz get = ⟨s.cur.mapA (At.frz id sz get), s.rest.map (Fr.mapA (At.frz id sz get)), (s.heap.map (Ob.mapA (At.frz id sz get))).set id .gone⟩ := rfl
variable (id sz : Nat) (get : Nat → Nat → D)
@[simp] theorem frz_d (x : D) : At.frz id sz get (.d x) = .d x := rfl
@[simp] theorem frz_ref (i o : Nat) : At.frz id sz get (.ref i o) = if i = id then .unk else .ref i o := rfl
@[simp] theorem frz_row (i m : Nat) : At.frz id sz get (.row i m) = if i = id then .d (.sl m sz get) else .row i m := rfl
@[simp] theorem frz_el (i z a b : Nat) : At.frz id sz get (.el i z a b) = if i = id then .unk else .el i z a b := rfl
@[simp] theorem frz_fel (m : Nat) (f : Nat → D) : At.frz id sz get (.fel m f) = .fel m f := rfl
@[simp] theorem frz_emp : At.frz id sz get .emp = .emp := rfl
@[simp] theorem frz_unk : At.frz id sz get .unk = .unk := rfl
@[simp] theorem frz_sd (i m : Nat) : At.frz id sz get (.sd i m) = if i = id then .unk else .sd i m := rfl
@[simp] theorem frz_mp (i : Nat) : At.frz id sz get (.mp i) = if i = id then .unk else .mp i := rfl
@[simp] theorem frz_clo (i : Nat) : At.frz id sz get (.clo i) = if i = id then .unk else .clo i := rfl
@[simp] theorem frz_yld (i : Nat) : At.frz id sz get (.yld i) = if i = id then .unk else .yld i := rfl
@[simp] theorem frz_mref (i o : Nat) : At.frz id sz get (.mref i o) = if i = id then .unk else .mref i o := rfl
@[simp] theorem atclip_yld (n i : Nat) : At.clip n (.yld i) = if i < n then .yld i else .unk := rfl
@[simp] theorem atscrub_yld (n i : Nat) : At.scrub n (.yld i) = if i = n then .unk else .yld i := rfl
@[simp] theorem atclip_mref (n i o : Nat) : At.clip n (.mref i o) = if i < n then .mref i o else .unk := rfl
@[simp] theorem atscrub_mref (n i o : Nat) : At.scrub n (.mref i o) = if i = n then .unk else .mref i o := rfl
@[simp] theorem known_yld (i : Nat) : At.known (.yld i) = true := rfl
@[simp] theorem known_mref (i o : Nat) : At.known (.mref i o) = true := rfl
@[simp] theorem known_sd (i o : Nat) : At.known (.sd i o) = true := rfl
@[simp] theorem obscrub_mp (n : Nat) (t : TypeId) (kk : Option IntKind) (l : List (MK × D)) : Ob.scrub n (.mp t kk l) = .mp t kk l := rfl
@[simp] theorem obscrub_lp (n l nt : Nat) (tl : List (Nat × V)) (ps : List Nat) (asg body : Code) (busy : Bool) (pend : Option Code) : Ob.scrub n (.lp l nt tl ps asg body busy pend) = .lp l nt (tl.map fun p => (p.1, p.2.scrub n)) ps asg body busy pend := rfl
@[simp] theorem obclip_mp (n : Nat) (t : TypeId) (kk : Option IntKind) (l : List (MK × D)) : Ob.clip n (.mp t kk l) = .mp t kk l := rfl
@[simp] theorem obclip_lp (n l nt : Nat) (tl : List (Nat × V)) (ps : List Nat) (asg body : Code) (busy : Bool) (pend : Option Code) : Ob.clip n (.lp l nt tl ps asg body busy pend) = .lp l nt (tl.map fun p => (p.1, p.2.clip n)) ps asg body busy pend := rfl
end
end Go.Proofs.Vl
