/- A part of the proof: Simp2. -/
import Derived.Test.YtddngfpgeifffaaGreatDoorVlSimp
set_option linter.unusedVariables false
set_option linter.unusedSimpArgs false
/- A small logic of abstract values: how simp runs the evaluator; the other operations, what a state holds, returns. -/
namespace Go.Proofs.Vl
open Go Go.RowKit

@[simp] theorem enterSt_is (s : St) (nt : Nat) (args : List (Bool × List At)) : enterSt s nt args = ⟨⟨nt, argTL args 0⟩, s.cur :: s.rest, s.heap⟩ := rfl
@[simp] theorem argTL_nil (i : Nat) : argTL [] i = [] := rfl
@[simp] theorem argTL_cons (g : Bool) (xs : List At) (l : List (Bool × List At)) (i : Nat) : argTL ((g, xs) :: l) i = (i, .c g xs) :: argTL l (i + 1) := rfl
@[simp] theorem up_is (g : Bool) (xs : List D) : up (g, xs) = (g, xs.map At.d) := rfl
@[simp] theorem ups_nil : ups [] = [] := rfl
@[simp] theorem ups_cons (p : DC) (l : List DC) : ups (p :: l) = up p :: ups l := rfl
@[simp] theorem vlook_nil (i : Nat) : vlook [] i = .c false [.unk] := rfl
@[simp] theorem vlook_cons (i : Nat) (v : V) (l : List (Nat × V)) (t : Nat) : vlook ((i, v) :: l) t = if i = t then v else vlook l t := rfl
@[simp] theorem frget_is (f : Fr) (t : Nat) : f.get t = vlook f.tl t := rfl
@[simp] theorem frset_is (f : Fr) (t : Nat) (v : V) : f.set t v = ⟨f.nt, (t, v) :: f.tl⟩ := rfl
@[simp] theorem stset_some (s : St) (t : Nat) (v : V) : s.set (some t) v = ⟨s.cur.set t v, s.rest, s.heap⟩ := rfl
@[simp] theorem stset_none (s : St) (v : V) : s.set none v = s := rfl
@[simp] theorem eval_tmp (s : St) (t : Nat) : s.eval (.tmp t) = vlook s.cur.tl t := rfl
@[simp] theorem eval_const (s : St) (v : Value) : s.eval (.const v) = constV v := rfl
@[simp] theorem eval_global (s : St) (g : Nat) : s.eval (.global g) = .c false [.d (.raw (.pointer (some ⟨g, 0, none⟩)))] := rfl
@[simp] theorem eval_func (s : St) (f : FuncId) : s.eval (.func f) = .c false [.d (.raw (.func (.func f) ⟨[]⟩ ⟨[]⟩))] := rfl
@[simp] theorem constV_bool (b : Bool) : constV (.bool b) = .c false [.d (.raw (.bool b))] := rfl
@[simp] theorem constV_int (k : IntKind) (n : Int) : constV (.int k n) = .c false [.d (.raw (.int k n))] := rfl
@[simp] theorem constV_string (b : ByteArray) : constV (.string b) = .c false [.d (.raw (.string b))] := rfl
@[simp] theorem constV_pointer (a : Option Addr) : constV (.pointer a) = .c false [.d (.raw (.pointer a))] := rfl
@[simp] theorem constV_slice (a : Option Addr) (n m : Nat) : constV (.slice a n m) = .c false [.d (.raw (.slice a n m))] := rfl
@[simp] theorem constV_map (r : Option Nat) : constV (.map r) = .c false [.d (.raw (.map r))] := rfl
@[simp] theorem constV_func (f : Fn) (x y : Array Value) : constV (.func f x y) = .c false [.d (.raw (.func f x y))] := rfl
@[simp] theorem constV_nilFunc  : constV (.nilFunc) = .c false [.d (.raw (.nilFunc))] := rfl
@[simp] theorem constV_iface (t : TypeId) (v : Value) : constV (.iface t v) = .c false [.d (.raw (.iface t v))] := rfl
@[simp] theorem constV_nilIface  : constV (.nilIface) = .c false [.d (.raw (.nilIface))] := rfl
@[simp] theorem constV_agg (cs : List Value) : constV (.agg ⟨cs⟩) = if cs.all Value.oneCell' = true then .c true (cs.map At.raw) else .unk := rfl
@[simp] theorem Va_is (x : At) : V.a x = .c false [x] := rfl
@[simp] theorem Vraw_is (x : Value) : V.raw x = .c false [.d (.raw x)] := rfl
@[simp] theorem Vunk_is : V.unk = .c false [.unk] := rfl
@[simp] theorem Atraw_is (v : Value) : At.raw v = .d (.raw v) := rfl
@[simp] theorem emptySt_is : emptySt = ⟨⟨0, []⟩, [], []⟩ := rfl
@[simp] theorem trim_is (L : List Nat) (n : Nat) (s : St) : s.trim L n = ⟨⟨s.cur.nt, keepTL s.cur n L⟩, s.rest.map (Fr.clip n), (s.heap.take n).map (Ob.clip n)⟩ := rfl
@[simp] theorem keepTL_nil (f : Fr) (n : Nat) : keepTL f n [] = [] := rfl
@[simp] theorem keepTL_cons (f : Fr) (n t : Nat) (l : List Nat) : keepTL f n (t :: l) = (t, (vlook f.tl t).clip n) :: keepTL f n l := rfl
@[simp] theorem clip_c (n : Nat) (g : Bool) (xs : List At) : (V.c g xs).clip n = .c g (xs.map (At.clip n)) := rfl
@[simp] theorem clip_tup (n : Nat) (ys : List (Bool × List At)) : (V.tup ys).clip n = .tup (ys.map fun p => (p.1, p.2.map (At.clip n))) := rfl
@[simp] theorem frclip_is (n nt : Nat) (l : List (Nat × V)) : Fr.clip n ⟨nt, l⟩ = ⟨nt, l.map fun p => (p.1, p.2.clip n)⟩ := rfl
@[simp] theorem obclip_cells (n : Nat) (e : TypeId) (xs : List At) : Ob.clip n (.cells e xs) = .cells e (xs.map (At.clip n)) := rfl
@[simp] theorem obclip_row (n e sz m : Nat) (get : Nat → Nat → D) (fz : Nat) : Ob.clip n (.row e sz m get fz) = .row e sz m get fz := rfl
@[simp] theorem obclip_gone (n : Nat) : Ob.clip n .gone = .gone := rfl
@[simp] theorem obclip_clo (n : Nat) (fn : Fn) (f c : List (Bool × List At)) : Ob.clip n (.clo fn f c) = .clo fn (f.map fun p => (p.1, p.2.map (At.clip n))) (c.map fun p => (p.1, p.2.map (At.clip n))) := rfl
@[simp] theorem atclip_d (n : Nat) (x : D) : At.clip n (.d x) = .d x := rfl
@[simp] theorem atscrub_d (n : Nat) (x : D) : At.scrub n (.d x) = .d x := rfl
@[simp] theorem atclip_ref (n : Nat) (i o : Nat) : At.clip n (.ref i o) = if i < n then .ref i o else .unk := rfl
@[simp] theorem atscrub_ref (n : Nat) (i o : Nat) : At.scrub n (.ref i o) = if i = n then .unk else .ref i o := rfl
@[simp] theorem atclip_row (n : Nat) (i m : Nat) : At.clip n (.row i m) = if i < n then .row i m else .unk := rfl
@[simp] theorem atscrub_row (n : Nat) (i m : Nat) : At.scrub n (.row i m) = if i = n then .unk else .row i m := rfl
@[simp] theorem atclip_el (n : Nat) (i sz a b : Nat) : At.clip n (.el i sz a b) = if i < n then .el i sz a b else .unk := rfl
@[simp] theorem atscrub_el (n : Nat) (i sz a b : Nat) : At.scrub n (.el i sz a b) = if i = n then .unk else .el i sz a b := rfl
@[simp] theorem atclip_fel (n : Nat) (m : Nat) (g : Nat → D) : At.clip n (.fel m g) = .fel m g := rfl
@[simp] theorem atscrub_fel (n : Nat) (m : Nat) (g : Nat → D) : At.scrub n (.fel m g) = .fel m g := rfl
@[simp] theorem atclip_emp (n : Nat)  : At.clip n (.emp) = .emp := rfl
@[simp] theorem atscrub_emp (n : Nat)  : At.scrub n (.emp) = .emp := rfl
@[simp] theorem atclip_sd (n : Nat) (i m : Nat) : At.clip n (.sd i m) = if i < n then .sd i m else .unk := rfl
@[simp] theorem atscrub_sd (n : Nat) (i m : Nat) : At.scrub n (.sd i m) = if i = n then .unk else .sd i m := rfl
@[simp] theorem atclip_mp (n : Nat) (i : Nat) : At.clip n (.mp i) = if i < n then .mp i else .unk := rfl
@[simp] theorem atscrub_mp (n : Nat) (i : Nat) : At.scrub n (.mp i) = if i = n then .unk else .mp i := rfl
@[simp] theorem atclip_clo (n : Nat) (i : Nat) : At.clip n (.clo i) = if i < n then .clo i else .unk := rfl
@[simp] theorem atscrub_clo (n : Nat) (i : Nat) : At.scrub n (.clo i) = if i = n then .unk else .clo i := rfl
@[simp] theorem atclip_unk (n : Nat)  : At.clip n (.unk) = .unk := rfl
@[simp] theorem atscrub_unk (n : Nat)  : At.scrub n (.unk) = .unk := rfl
@[simp] theorem putList_is {α : Type} (xs : List α) (off : Nat) (ys : List α) : putList xs off ys = xs.take off ++ ys ++ xs.drop (off + ys.length) := rfl
@[simp] theorem scrub_c (n : Nat) (g : Bool) (xs : List At) : V.scrub n (.c g xs) = .c g (xs.map (At.scrub n)) := rfl
@[simp] theorem scrub_tup (n : Nat) (ys : List (Bool × List At)) : V.scrub n (.tup ys) = .tup (ys.map fun p => (p.1, p.2.map (At.scrub n))) := rfl
@[simp] theorem frscrub_is (n nt : Nat) (l : List (Nat × V)) : Fr.scrub n ⟨nt, l⟩ = ⟨nt, l.map fun p => (p.1, p.2.scrub n)⟩ := rfl
@[simp] theorem obscrub_cells (n : Nat) (e : TypeId) (xs : List At) : Ob.scrub n (.cells e xs) = .cells e (xs.map (At.scrub n)) := rfl
@[simp] theorem obscrub_row (n e sz m : Nat) (get : Nat → Nat → D) (fz : Nat) : Ob.scrub n (.row e sz m get fz) = .row e sz m get fz := rfl
@[simp] theorem obscrub_gone (n : Nat) : Ob.scrub n .gone = .gone := rfl
@[simp] theorem obscrub_clo (n : Nat) (fn : Fn) (f c : List (Bool × List At)) : Ob.scrub n (.clo fn f c) = .clo fn (f.map fun p => (p.1, p.2.map (At.scrub n))) (c.map fun p => (p.1, p.2.map (At.scrub n))) := rfl
@[simp] theorem known_d (x : D) : At.known (.d x) = true := rfl
@[simp] theorem known_ref (i o : Nat) : At.known (.ref i o) = true := rfl
@[simp] theorem known_row (i o : Nat) : At.known (.row i o) = true := rfl
@[simp] theorem known_clo (i : Nat) : At.known (.clo i) = true := rfl
@[simp] theorem known_mp (i : Nat) : At.known (.mp i) = true := rfl
@[simp] theorem known_emp : At.known .emp = true := rfl
@[simp] theorem known_el (i s a b : Nat) : At.known (.el i s a b) = true := rfl
@[simp] theorem known_fel (m : Nat) (g : Nat → D) : At.known (.fel m g) = true := rfl
@[simp] theorem isD_d (x : D) : At.isD (.d x) = true := rfl
@[simp] theorem toD_d (x : D) : At.toD (.d x) = x := rfl
@[simp] theorem mk_zero (f : Nat → D) (j : Nat) : mk f j 0 = [] := rfl
@[simp] theorem mk_succ (f : Nat → D) (j n : Nat) : mk f j (n + 1) = .d (f j) :: mk f (j + 1) n := rfl
@[simp] theorem mk_one (f : Nat → D) (j : Nat) : mk f j 1 = [.d (f j)] := rfl
@[simp] theorem mk_two (f : Nat → D) (j : Nat) : mk f j 2 = [.d (f j), .d (f (j + 1))] := rfl
@[simp] theorem mk_three (f : Nat → D) (j : Nat) : mk f j 3 = [.d (f j), .d (f (j + 1)), .d (f (j + 2))] := rfl

def evSD (P : Program) (t : TypeId) (v : V) (s : St) (k : V → Prop) : Prop := match v with
  | .c false [.d (.raw (.slice none 0 0))] => k (.raw (.pointer none))
  | .c false [.row id n] => match s.heap[id]? with
    | some (.row _ _ _ _ _) => isPtr P t = true ∧ k (.a (.sd id n))
    | _ => False
  | _ => False
def evUS (P : Program) (pt : TypeId) (v y : V) (s : St) (k : V → St → Prop) : Prop := match v, y with
  | .c false [.d (.raw (.pointer none))], .c false [.d (.raw (.int .i64 n))] => if n = 0 then k (.raw (.string ⟨⟨[]⟩⟩)) s else False
  | .c false [.sd id n'], .c false [.d (.raw (.int .i64 n))] => match s.heap[id]? with
    | some (.row e sz m get _) => if sz = 1 ∧ n = n' ∧ n ≤ m ∧ n ≤ 9223372036854775807 ∧ byteRows P pt e = true then
        (∀ i, i < n.toNat → IsB8 (get i 0)) ∧ k (.raw (.string ⟨⟨rowBytes get n.toNat⟩⟩)) ⟨s.cur.scrub id, s.rest.map (Fr.scrub id), (s.heap.map (Ob.scrub id)).set id .gone⟩ else False
    | _ => False
  | _, _ => False
section
variable {P : Program} {s s' : St} {k x : V → St → Prop} {d : Option Tmp} {ty0 : TypeId} {p : String} {af : Array Edge} {g : Option (Nat × Bool)}
/-! convert -/
def rowSrc (sz : Nat) (m : Nat) (ob : Ob) : Option (Nat × (Nat → Nat → D)) := match ob with | .row _ sz' _ get _ => if sz' = sz then some (m, get) else none | _ => none
@[simp] theorem rowSrc_row (sz m e sz' n : Nat) (get : Nat → Nat → D) (fz : Nat) : rowSrc sz m (.row e sz' n get fz) = if sz' = sz then some (m, get) else none := rfl
@[simp] theorem src_sl (H : List Ob) (sz m sz' : Nat) (get : Nat → Nat → D) : src H sz (.d (.sl m sz' get)) = if sz' = sz then some (m, get) else none := rfl
@[simp] theorem src_row (H : List Ob) (sz id m : Nat) : src H sz (.row id m) = obK (H[id]?) (rowSrc sz m) := by
  show (match H[id]? with | some (.row _ sz' _ get _) => if sz' = sz then some (m, get) else none | _ => none) = _
  cases H[id]? with
  | none => rfl
  | some ob => cases ob <;> rfl
@[simp] theorem src_nil (H : List Ob) (sz : Nat) : src H sz (.d (.raw (.slice none 0 0))) = some (0, nilD) := rfl
@[simp] theorem srcA_str (H : List Ob) (sz : Nat) (l : List UInt8) : srcA H sz (.d (.raw (.string ⟨⟨l⟩⟩))) = if sz = 1 then some (l.length, fun i _ => .raw (.int .u8 ((l.getD i 0).toNat))) else none := rfl
@[simp] theorem srcA_sl (H : List Ob) (sz m sz' : Nat) (get : Nat → Nat → D) : srcA H sz (.d (.sl m sz' get)) = src H sz (.d (.sl m sz' get)) := rfl
@[simp] theorem srcA_row (H : List Ob) (sz id m : Nat) : srcA H sz (.row id m) = src H sz (.row id m) := rfl
@[simp] theorem srcA_nil (H : List Ob) (sz : Nat) : srcA H sz (.d (.raw (.slice none 0 0))) = some (0, nilD) := rfl
@[simp] theorem srcA_emp (H : List Ob) (sz : Nat) : srcA H sz .emp = some (0, nilD) := rfl
@[simp] theorem src_emp (H : List Ob) (sz : Nat) : src H sz .emp = some (0, nilD) := rfl
@[simp] theorem evOp_convert (t t' : TypeId) (y : Operand) : evOp P ⟨d, .convert t t' y, ty0, p, af, g⟩ s k x = evConvert P t t' (s.eval y) s fun v => k v s := rfl
@[congr] theorem evConvert_congr {t t' : TypeId} {v v' : V} {k : V → Prop} {tk : Nat} (htk : tick = tk) (h1 : v = v') (h : s = s') : evConvert P t t' v s k = evConvert P t t' v' s' k := h1 ▸ h ▸ rfl
@[simp] theorem evConvert_int (t t' : TypeId) (kk : IntKind) (n : Int) (k : V → Prop) : evConvert P t t' (.c false [.d (.raw (.int kk n))]) s k = optK (ty P t) fun _ => optK (convI P t') fun kd => k (.c false [.d (.raw (.int kd (kd.wrap n)))]) := by
  show (match ty P t, convI P t' with | some _, some kd => _ | _, _ => False) = _
  cases ty P t <;> cases convI P t' <;> rfl
@[simp] theorem evConvert_str (t t' : TypeId) (b : ByteArray) (k : V → Prop) : evConvert P t t' (.c false [.d (.raw (.string b))]) s k = optK (ty P t) fun _ => boolK (isStr P t') (k (.c false [.d (.raw (.string b))])) False := by
  show (match ty P t with | some _ => _ | none => False) = _
  cases ty P t <;> rfl
@[simp] theorem evConvert_sl (t t' : TypeId) (m sz : Nat) (get : Nat → Nat → D) (k : V → Prop) : evConvert P t t' (.c false [.d (.sl m sz get)]) s k =
    boolK (isStr P t' && isBytes P t) (chk (sz = 1) ((∀ i, i < m → IsByte (get i 0)) ∧ k (.c false [.d (.raw (.string ⟨⟨(List.range m).map fun i => byteOf (get i 0)⟩⟩))]))) False := by
  show (if (isStr P t' && isBytes P t) = true then (match src s.heap 1 (.d (.sl m sz get)) with | some (m, get) => _ | none => False) else False) = _
  unfold boolK chk src
  split
  · by_cases h : sz = 1
    · simp only [h, if_true]; rfl
    · simp only [h, if_false]
  · rfl
@[simp] theorem evConvert_row (t t' : TypeId) (id m : Nat) (k : V → Prop) : evConvert P t t' (.c false [.row id m]) s k =
    boolK (isStr P t' && isBytes P t) (optK (s.heap[id]?) fun ob => obRow ob fun _ sz _ get _ => chk (sz = 1) ((∀ i, i < m → IsByte (get i 0)) ∧ k (.c false [.d (.raw (.string ⟨⟨(List.range m).map fun i => byteOf (get i 0)⟩⟩))]))) False := by
  show (if (isStr P t' && isBytes P t) = true then (match src s.heap 1 (.row id m) with | some (m, get) => _ | none => False) else False) = _
  rw [src_row]
  unfold boolK
  split
  · cases s.heap[id]? with
    | none => rfl
    | some ob => cases ob with
      | row e sz n get fz =>
        simp only [obK_some, rowSrc_row, optK_some, obRow_c, chk]
        by_cases h : sz = 1
        · simp only [h, if_true]; rfl
        · simp only [h, if_false]
      | _ => rfl
  · rfl
@[simp] theorem evConvert_nil (t t' : TypeId) (k : V → Prop) : evConvert P t t' (.c false [.d (.raw (.slice none 0 0))]) s k =
    boolK (isStr P t' && isBytes P t) (k (.c false [.d (.raw (.string ⟨⟨[]⟩⟩))])) False := by
  show (if (isStr P t' && isBytes P t) = true then (∀ i, i < 0 → IsByte (nilD i 0)) ∧ k (V.raw (.string ⟨⟨(List.range 0).map fun i => byteOf (nilD i 0)⟩⟩)) else False) = _
  unfold boolK
  split
  · simp
  · rfl
@[simp] theorem evConvert_ref (t t' : TypeId) (id off : Nat) (k : V → Prop) : evConvert P t t' (.c false [.ref id off]) s k = optK (s.heap[id]?) fun ob => obCells ob fun e xs => chk (off < xs.length ∧ (toUnsafe P t t' || fromUnsafe P t t' e xs.length off) = true) (k (.c false [.ref id off])) := by
  show (match s.heap[id]? with | some (.cells e xs) => _ | _ => False) = _
  cases s.heap[id]? with
  | none => rfl
  | some ob => cases ob <;> rfl
/-! bytes that become a string -/
@[simp] theorem evOp_sliceData (y : Operand) (ts : Array TypeId) : evOp P ⟨d, .call ⟨.builtin .unsafeSliceData, ⟨[y]⟩, ts⟩, ty0, p, af, g⟩ s k x = evSD P ty0 (s.eval y) s fun v => k v s := by
  show (match s.eval y with | .c false [.d (.raw (.slice none 0 0))] => _ | .c false [.row id n] => _ | _ => False) = _
  unfold evSD
  split <;> rfl
@[congr] theorem evSD_congr {t : TypeId} {v v' : V} {k : V → Prop} {tk : Nat} (htk : tick = tk) (h1 : v = v') (h : s = s') : evSD P t v s k = evSD P t v' s' k := h1 ▸ h ▸ rfl
@[simp] theorem evSD_nil (t : TypeId) (k : V → Prop) : evSD P t (.c false [.d (.raw (.slice none 0 0))]) s k = k (.c false [.d (.raw (.pointer none))]) := rfl
@[simp] theorem evSD_row (t id n : Nat) (k : V → Prop) : evSD P t (.c false [.row id n]) s k = optK (s.heap[id]?) fun ob => obRow ob fun _ _ _ _ _ => isPtr P t = true ∧ k (.c false [.sd id n]) := by
  show (match s.heap[id]? with | some (.row _ _ _ _ _) => _ | _ => False) = _
  cases s.heap[id]? with
  | none => rfl
  | some ob => cases ob <;> rfl
@[simp] theorem evOp_unsafeString (y z : Operand) (pt it : TypeId) : evOp P ⟨d, .call ⟨.builtin .unsafeString, ⟨[y, z]⟩, ⟨[pt, it]⟩⟩, ty0, p, af, g⟩ s k x = evUS P pt (s.eval y) (s.eval z) s k := by
  unfold evUS
  rfl
@[congr] theorem evUS_congr {t : TypeId} {v v' y y' : V} {k : V → St → Prop} {tk : Nat} (htk : tick = tk) (h1 : v = v') (h2 : y = y') (h : s = s') : evUS P t v y s k = evUS P t v' y' s' k := h1 ▸ h2 ▸ h ▸ rfl
@[simp] theorem evUS_nil (pt : TypeId) (n : Int) : evUS P pt (.c false [.d (.raw (.pointer none))]) (.c false [.d (.raw (.int .i64 n))]) s k = chk (n = 0) (k (.c false [.d (.raw (.string ⟨⟨[]⟩⟩))]) s) := rfl
@[simp] theorem evUS_sd (pt : TypeId) (id n' : Nat) (n : Int) : evUS P pt (.c false [.sd id n']) (.c false [.d (.raw (.int .i64 n))]) s k = optK (s.heap[id]?) fun ob => obRow ob fun e sz m get _ =>
    chk (sz = 1 ∧ n = n' ∧ n ≤ m ∧ n ≤ 9223372036854775807 ∧ byteRows P pt e = true) ((∀ i, i < n.toNat → IsB8 (get i 0)) ∧ k (.c false [.d (.raw (.string ⟨⟨rowBytes get n.toNat⟩⟩))]) ⟨s.cur.scrub id, s.rest.map (Fr.scrub id), (s.heap.map (Ob.scrub id)).set id .gone⟩) := by
  show (match s.heap[id]? with | some (.row e sz m get _) => _ | _ => False) = _
  cases s.heap[id]? with
  | none => rfl
  | some ob => cases ob <;> rfl
/-! literals -/
@[simp] theorem fillA_nil (pl : Nat → Option (Nat × Nat)) (xs : List At) : fillA pl xs [] = some xs := rfl
@[simp] theorem fillA_cons (pl : Nat → Option (Nat × Nat)) (xs : List At) (i : Nat) (ys : List At) (rest : List (Nat × List At)) : fillA pl xs ((i, ys) :: rest) = obK (pl i) fun q => ckO (ys.length = q.2 ∧ q.1 + q.2 ≤ xs.length) (fillA pl (putList xs q.1 ys) rest) := by
  show (match pl i with | some (off, n) => _ | none => none) = _
  cases pl i <;> rfl
@[simp] theorem fparts_nil : fparts s [] = some [] := rfl
@[simp] theorem fparts_cons (i : Nat) (y : Operand) (l : List (Nat × Operand)) : fparts s ((i, y) :: l) = obK (compOf (s.eval y)) fun q => ckO (q.2.all At.known = true) (obK (fparts s l) fun r => some ((i, q.2) :: r)) := by
  show (match s.eval y, fparts s l with | .c _ xs, some r => if xs.all At.known = true then some ((i, xs) :: r) else none | _, _ => none) = _
  cases s.eval y with
  | tup => rfl
  | c g xs => cases fparts s l with
    | none => unfold ckO; simp
    | some r => rfl
@[simp] theorem evOp_build (t : TypeId) (ps : List (Nat × Operand)) : evOp P ⟨d, .build t ⟨ps⟩, ty0, p, af, g⟩ s k x =
    optK (places P t) fun pl => optK (zc P t) fun z => optK (fparts s ps) fun l => optK (fillA (fun i => pl[i]?) (z.map At.raw) l) fun xs => k (.c true xs) s := by
  show evBuild P t ps s (fun v => k v s) = _
  unfold evBuild
  cases places P t with
  | none => rfl
  | some pl => cases zc P t with
    | none => rfl
    | some z => cases fparts s ps with
      | none => rfl
      | some l => simp only [optK_some]; cases fillA (fun i => pl[i]?) (z.map At.raw) l <;> rfl
@[simp] theorem evOp_buildSlice (t : TypeId) (len : Nat) (ps : List (Nat × Operand)) : evOp P ⟨d, .buildSlice t len ⟨ps⟩, ty0, p, af, g⟩ s k x =
    optK (rowInfo P t) fun r => optK (fparts s ps) fun l => chk (len * r.2.1 ≤ 16777216) (optK (fillA (fun i => some (i * r.2.1, r.2.1)) ((reps r.2.2.2 len).map At.raw) l) fun xs =>
      chk (xs.all At.isD = true) (k (.c false [.row s.heap.length len]) { s with heap := s.heap ++ [.row r.1 r.2.1 len (litRow xs r.2.1) 0] })) := by
  show evBuildSlice P t len ps s k = _
  unfold evBuildSlice
  cases rowInfo P t with
  | none => rfl
  | some r => obtain ⟨e, sz, by', z⟩ := r; cases fparts s ps with
    | none => rfl
    | some l =>
      simp only [optK_some]
      unfold chk
      split
      · cases fillA (fun i => some (i * sz, sz)) ((reps z len).map At.raw) l <;> rfl
      · rfl
@[simp] theorem evOp_makeSlice (t : TypeId) (y z : Operand) : evOp P ⟨d, .makeSlice t y z, ty0, p, af, g⟩ s k x =
    optK (rowInfo P t) fun r => optK (intOf (s.eval y)) fun n => optK (intOf (s.eval z)) fun m => chk (0 ≤ n ∧ n ≤ m ∧ r.2.2.1 * m ≤ 140737488355328 ∧ m ≤ 9223372036854775807)
      (k (.c false [.row s.heap.length n.toNat]) { s with heap := s.heap ++ [.row r.1 r.2.1 n.toNat (fun _ j => .raw (r.2.2.2.getD j .nilIface)) 0] }) := by
  show evMakeSlice P t (s.eval y) (s.eval z) s k = _
  unfold evMakeSlice
  cases rowInfo P t with
  | none => rfl
  | some r =>
    obtain ⟨e, sz, by', zz⟩ := r
    simp only [optK_some]
    generalize s.eval y = a
    generalize s.eval z = b
    unfold intOf
    split
    · rename_i h; cases h; rfl
    · rename_i h
      split
      · split
        · exact (h _ _ _ _ _ _ _ _ rfl rfl rfl).elim
        · rfl
      · rfl
@[simp] theorem evOp_makeFunc (fn : Fn) (f cc : List Operand) : evOp P ⟨d, .makeFunc fn ⟨f⟩ ⟨cc⟩, ty0, p, af, g⟩ s k x =
    optK (parts s f) fun a => optK (parts s cc) fun b => k (.c false [.clo s.heap.length]) { s with heap := s.heap ++ [.clo fn a b] } := by
  show (match parts s f, parts s cc with | some f, some c => _ | _, _ => False) = _
  cases parts s f with
  | none => rfl
  | some a => cases parts s cc <;> rfl
def rawOf (v : V) : Option Value := match v with | .c false [.d (.raw v)] => some v | .c true [] => some (.agg #[]) | _ => none
@[simp] theorem rawOf_raw (v : Value) : rawOf (.c false [.d (.raw v)]) = some v := rfl
@[simp] theorem rawOf_agg : rawOf (.c true []) = some (.agg #[]) := rfl
@[simp] theorem evOp_makeInterface (t : TypeId) (y : Operand) : evOp P ⟨d, .makeInterface t y, ty0, p, af, g⟩ s k x =
    boolK (isConcrete P t) (optK (rawOf (s.eval y)) fun v => k (.c false [.d (.raw (.iface t v))]) s) False := by
  show (if isConcrete P t = true then (match s.eval y with | .c false [.d (.raw v)] => _ | .c true [] => _ | _ => False) else False) = _
  unfold boolK rawOf
  split
  · split <;> rfl
  · rfl
def ifaceOf (v : V) : Option Value := match v with | .c false [.d (.raw (.iface t v))] => some (.iface t v) | _ => none
@[simp] theorem ifaceOf_i (t : TypeId) (v : Value) : ifaceOf (.c false [.d (.raw (.iface t v))]) = some (.iface t v) := rfl
@[simp] theorem evOp_panic (y : Operand) : evOp P ⟨d, .panic y, ty0, p, af, g⟩ s k x = optK (ifaceOf (s.eval y)) fun v => x (.c false [.d (.raw v)]) s := by
  show (match s.eval y with | .c false [.d (.raw (.iface t v))] => _ | _ => False) = _
  unfold ifaceOf
  split <;> rfl
def kintOf (v : V) : Option (IntKind × Int) := match v with | .c false [.d (.raw (.int κ q))] => some (κ, q) | _ => none
@[simp] theorem kintOf_int (κ : IntKind) (q : Int) : kintOf (.c false [.d (.raw (.int κ q))]) = some (κ, q) := rfl
@[simp] theorem evOp_neg (t : TypeId) (y : Operand) : evOp P ⟨d, .unOp .neg t y, ty0, p, af, g⟩ s k x = optK (kintOf (s.eval y)) fun q => k (.c false [.d (.raw (.int q.1 (q.1.wrap (0 - q.2))))]) s := by
  show (match s.eval y with | .c false [.d (.raw (.int kk n))] => _ | _ => False) = _
  unfold kintOf
  split <;> rfl
@[simp] theorem evOp_min (y z : Operand) (ts : Array TypeId) : evOp P ⟨d, .call ⟨.builtin .min, ⟨[y, z]⟩, ts⟩, ty0, p, af, g⟩ s k x = optK (kintOf (s.eval y)) fun q => optK (intOf (s.eval z)) fun m => k (.c false [.d (.raw (.int q.1 (if m < q.2 then m else q.2)))]) s := by
  show (match s.eval y, s.eval z with | .c false [.d (.raw (.int kk n))], .c false [.d (.raw (.int _ m))] => _ | _, _ => False) = _
  generalize s.eval y = a
  generalize s.eval z = b
  unfold kintOf intOf
  split
  · rfl
  · rename_i h
    split
    · split
      · exact (h _ _ _ _ rfl rfl).elim
      · rfl
    · rfl
@[simp] theorem evOp_max (y z : Operand) (ts : Array TypeId) : evOp P ⟨d, .call ⟨.builtin .max, ⟨[y, z]⟩, ts⟩, ty0, p, af, g⟩ s k x = optK (kintOf (s.eval y)) fun q => optK (intOf (s.eval z)) fun m => k (.c false [.d (.raw (.int q.1 (if q.2 < m then m else q.2)))]) s := by
  show (match s.eval y, s.eval z with | .c false [.d (.raw (.int kk n))], .c false [.d (.raw (.int _ m))] => _ | _, _ => False) = _
  generalize s.eval y = a
  generalize s.eval z = b
  unfold kintOf intOf
  split
  · rfl
  · rename_i h
    split
    · split
      · exact (h _ _ _ _ rfl rfl).elim
      · rfl
    · rfl
/-! append -/
@[simp] theorem appArg_is (t t' : TypeId) : appArg P t t' = (decide (t' = t) || isStr P t') := rfl
@[simp] theorem evOp_append (t t' : TypeId) (y z : Operand) : evOp P ⟨d, .call ⟨.builtin .append, ⟨[y, z]⟩, ⟨[t, t']⟩⟩, ty0, p, af, g⟩ s k x = boolK (appArg P t t') (evAppend P t (s.eval y) (s.eval z) s k) False := rfl
@[congr] theorem evAppend_congr {t : TypeId} {v v' y y' : V} {k : V → St → Prop} {tk : Nat} (htk : tick = tk) (h1 : v = v') (h2 : y = y') (h : s = s') : evAppend P t v y s k = evAppend P t v' y' s' k := h1 ▸ h2 ▸ h ▸ rfl
@[simp] theorem evAppend_row (t : TypeId) (id n : Nat) (y : At) : evAppend P t (.c false [.row id n]) (.c false [y]) s k = optK (rowInfo P t) fun r => optK (srcA s.heap r.2.1 y) fun q => optK (s.heap[id]?) fun ob => obRow ob fun e' sz' _ get fz =>
    chk (e' = r.1 ∧ sz' = r.2.1 ∧ fz ≤ n ∧ (n + q.1) * r.2.2.1 ≤ 140737488355328 ∧ n + q.1 ≤ 140737488355328)
      (k (.c false [.row id (n + q.1)]) ⟨s.cur.scrub id, s.rest.map (Fr.scrub id), (s.heap.map (Ob.scrub id)).set id (.row r.1 r.2.1 (n + q.1) (catRow get n q.2) fz)⟩) := by
  unfold evAppend
  cases rowInfo P t with
  | none => rfl
  | some r =>
    obtain ⟨e, sz, by', zz⟩ := r
    simp only [optK_some]
    cases srcA s.heap sz y with
    | none => rfl
    | some q =>
      simp only [optK_some]
      cases s.heap[id]? with
      | none => rfl
      | some ob => cases ob <;> rfl
@[simp] theorem evAppend_nil (t : TypeId) (y : At) : evAppend P t (.c false [.d (.raw (.slice none 0 0))]) (.c false [y]) s k = optK (rowInfo P t) fun r => optK (srcA s.heap r.2.1 y) fun q =>
    ifK (q.1 = 0) (k (.c false [.d (.raw (.slice none 0 0))]) s) (chk (q.1 * r.2.2.1 ≤ 140737488355328 ∧ q.1 ≤ 140737488355328) (k (.c false [.row s.heap.length q.1]) { s with heap := s.heap ++ [.row r.1 r.2.1 q.1 q.2 0] })) := by
  unfold evAppend
  cases rowInfo P t with
  | none => rfl
  | some r =>
    obtain ⟨e, sz, by', zz⟩ := r
    simp only [optK_some]
    cases srcA s.heap sz y <;> rfl
@[simp] theorem evAppend_emp (t : TypeId) (y : At) : evAppend P t (.c false [.emp]) (.c false [y]) s k = optK (rowInfo P t) fun r => optK (srcA s.heap r.2.1 y) fun q =>
    ifK (q.1 = 0) (k (.c false [.emp]) s) (chk (q.1 * r.2.2.1 ≤ 140737488355328 ∧ q.1 ≤ 140737488355328) (k (.c false [.row s.heap.length q.1]) { s with heap := s.heap ++ [.row r.1 r.2.1 q.1 q.2 0] })) := by
  unfold evAppend
  cases rowInfo P t with
  | none => rfl
  | some r =>
    obtain ⟨e, sz, by', zz⟩ := r
    simp only [optK_some]
    cases srcA s.heap sz y <;> rfl
/-! x[:0:0] -/
@[simp] theorem evSlice_three (t : Nat) (x0 : At) (yh ym : Operand) : evSlice P t (.c false [x0]) none (some yh) (some ym) s k x =
    optK (intOf (s.eval yh)) fun h => optK (intOf (s.eval ym)) fun m => optK (rowInfo P t) fun _ => optK (emptied x0) fun x1 => chk (h = 0 ∧ m = 0) (k (.c false [x1]) s) := by
  show (match s.eval yh, s.eval ym, rowInfo P t, emptied x0 with | .c false [.d (.raw (.int _ h))], .c false [.d (.raw (.int _ m))], some _, some x1 => _ | _, _, _, _ => False) = _
  generalize s.eval yh = a
  generalize s.eval ym = b
  generalize rowInfo P t = r
  generalize emptied x0 = e
  unfold intOf
  split
  · rfl
  · rename_i h
    split
    · split
      · cases r with
        | none => rfl
        | some r => cases e with
          | none => rfl
          | some e => exact (h _ _ _ _ _ _ rfl rfl rfl rfl).elim
      · rfl
    · rfl
@[simp] theorem emptied_sl (n sz : Nat) (get : Nat → Nat → D) : emptied (.d (.sl n sz get)) = some .emp := rfl
@[simp] theorem emptied_row (id n : Nat) : emptied (.row id n) = some .emp := rfl
@[simp] theorem emptied_emp : emptied .emp = some .emp := rfl
@[simp] theorem emptied_nil : emptied (.d (.raw (.slice none 0 0))) = some (.d (.raw (.slice none 0 0))) := rfl
/-! returns -/
variable {fn : Func}
@[simp] theorem retK_ret : retK P fn k x .ret s = evRes P s fn.results.toList fun l => popK s fun s' => k (resV l) s' := rfl
@[simp] theorem retK_normal : retK P fn k x .normal s = evRes P s fn.results.toList fun l => popK s fun s' => k (resV l) s' := rfl
@[simp] theorem retK_panic (v : V) : retK P fn k x (.panic v) s = popK s fun s' => x v s' := rfl
def compK (v : V) (k : Bool × List At → Prop) : Prop := match v with | .c g xs => k (g, xs) | _ => False
@[congr] theorem compK_congr {v v' : V} {k : Bool × List At → Prop} {tk : Nat} (htk : tick = tk) (h : v = v') : compK v k = compK v' k := h ▸ rfl
@[simp] theorem compK_c (g : Bool) (xs : List At) (k : Bool × List At → Prop) : compK (.c g xs) k = k (g, xs) := rfl
@[simp] theorem evRes_nil (k : List (Bool × List At) → Prop) : evRes P s [] k = k [] := rfl
@[simp] theorem evRes_tmp (t : Tmp) (rest : List ResultVar) (k : List (Bool × List At) → Prop) : evRes P s (.tmp t :: rest) k = compK (s.cur.get t) fun q => evRes P s rest fun l => k (q :: l) := by
  show (match s.cur.get t with | .c g xs => _ | _ => False) = _
  cases s.cur.get t <;> rfl
@[simp] theorem evRes_cell (t : Tmp) (ty : TypeId) (rest : List ResultVar) (k : List (Bool × List At) → Prop) : evRes P s (.cell t ty :: rest) k = evLoad P ty (s.cur.get t) s fun v => compK v fun q => evRes P s rest fun l => k (q :: l) := by
  rw [evRes]
  unfold resOne
  congr 1
@[simp] theorem popK_cons (c f : Fr) (r : List Fr) (h : List Ob) (k : St → Prop) : popK ⟨c, f :: r, h⟩ k = k ⟨f, r, h⟩ := rfl
@[simp] theorem resV_one (g : Bool) (xs : List At) : resV [(g, xs)] = .c g xs := rfl
@[simp] theorem resV_nil : resV [] = .tup [] := rfl
@[simp] theorem resV_two (p q : Bool × List At) (l : List (Bool × List At)) : resV (p :: q :: l) = .tup (p :: q :: l) := rfl
end
end Go.Proofs.Vl
