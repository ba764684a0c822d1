/- A part of the proof: Simp5. -/
import Derived.Test.YtddngfpgeifffaaGreatDoorVlSimp4
import Derived.Test.YtddngfpgeifffaaGreatDoorVlDefer
set_option linter.unusedVariables false
set_option linter.unusedSimpArgs false
/- A small logic of abstract values: rounds by simp; deferred functions by simp. -/
namespace Go.Proofs.Vl
open Go Go.RowKit
section
variable {P : Program} {s s' : St}
@[congr] theorem ARounds_congr {L : List Nat} {n : Nat} {cd : Code} {K : AX → St → Prop} {k : Nat} {tk : Nat} (htk : tick = tk) (h : s = s') : ARounds P L n cd K k s = ARounds P L n cd K k s' := h ▸ rfl
@[simp] theorem ARounds_succ (L : List Nat) (n : Nat) (cd : Code) (K : AX → St → Prop) (k : Nat) : ARounds P L n cd K (k + 1) s = awp P cd s (thenK (fun s' => ARounds P L n cd K k (s'.trim L n)) K) := rfl

def ghClo (o : Option Ob) : Option (FuncId × List (Bool × List At)) := match o with
  | some (.clo (.func h) [] cap) => some (h, cap)
  | _ => none
@[congr] theorem ghClo_congr {o o' : Option Ob} {tk : Nat} (htk : tick = tk) (h : o = o') : ghClo o = ghClo o' := h ▸ rfl
@[simp] theorem ghClo_is (h : FuncId) (cap : List (Bool × List At)) : ghClo (some (.clo (.func h) [] cap)) = some (h, cap) := rfl
def ghK (v : V) (k : Nat → Prop) : Prop := match v with | .c false [.clo id] => k id | _ => False
@[congr] theorem ghK_congr {v v' : V} {k : Nat → Prop} {tk : Nat} (htk : tick = tk) (h : v = v') : ghK v k = ghK v' k := h ▸ rfl
@[simp] theorem ghK_is (id : Nat) (k : Nat → Prop) : ghK (.c false [.clo id]) k = k id := rfl
@[congr] theorem ghostK_congr {h : FuncId} {tf nt2 : Nat} {K : St → Prop} {tk : Nat} (htk : tick = tk) (e : s = s') : ghostK P h tf nt2 K s = ghostK P h tf nt2 K s' := e ▸ rfl
@[simp] theorem ghostK_is (h : FuncId) (tf nt2 : Nat) (K : St → Prop) : ghostK P h tf nt2 K s = ghK (s.cur.get tf) fun id => optK (ghClo (s.heap[id]?)) fun q => chk (q.1 = h ∧ q.2.length ≤ nt2) (K ⟨s.cur, ⟨nt2, argTL q.2 0⟩ :: s.rest, s.heap⟩) := by
  unfold ghostK ghK
  generalize s.cur.get tf = v
  split
  · rename_i id
    simp only
    generalize s.heap[id]? = o
    match o with
    | some (.clo (.func h') [] cap) =>
      simp only [ghClo_is, optK_some]
      unfold chk
      by_cases hq : h' = h ∧ cap.length ≤ nt2
      · rw [if_pos hq]; simp [hq.1, hq.2]
      · rw [if_neg hq]; exact eq_false fun ⟨a, b, _⟩ => hq ⟨a, b⟩
    | none => rfl
    | some (.cells ..) => rfl
    | some (.row ..) => rfl
    | some (.clo (.func _) (_ :: _) _) => rfl
    | some (.clo (.yield _) _ _) => rfl
    | some (.clo (.method _) _ _) => rfl
    | some (.clo (.methodOf _ _) _ _) => rfl
    | some (.clo (.via _ _ _ _) _ _) => rfl
    | some (.mp ..) => rfl
    | some (.lp ..) => rfl
    | some .gone => rfl
  · rename_i hh
    split
    · rename_i id; exact absurd rfl (hh id)
    · rfl
@[congr] theorem deferK_congr {fn : Func} {tr tx : Nat} {body2 : Code} {k : V → St → Prop} {a a' : AX} {tk : Nat} (htk : tick = tk) (h1 : a = a') (e : s = s') : deferK P fn tr tx body2 k a s = deferK P fn tr tx body2 k a' s' := h1 ▸ e ▸ rfl
@[congr] theorem recK_congr {fn : Func} {tr tx : Nat} {body2 : Code} {k : V → St → Prop} {v v' : V} {tk : Nat} (htk : tick = tk) (h1 : v = v') (e : s = s') : recK P fn tr tx body2 k v s = recK P fn tr tx body2 k v' s' := h1 ▸ e ▸ rfl
@[congr] theorem backK_congr {fn : Func} {k : V → St → Prop} {a a' : AX} {tk : Nat} (htk : tick = tk) (h1 : a = a') (e : s = s') : backK P fn k a s = backK P fn k a' s' := h1 ▸ e ▸ rfl
@[simp] theorem deferK_normal (fn : Func) (tr tx : Nat) (body2 : Code) (k : V → St → Prop) : deferK P fn tr tx body2 k .normal s = recK P fn tr tx body2 k (.raw .nilIface) s := rfl
@[simp] theorem deferK_ret (fn : Func) (tr tx : Nat) (body2 : Code) (k : V → St → Prop) : deferK P fn tr tx body2 k .ret s = recK P fn tr tx body2 k (.raw .nilIface) s := rfl
@[simp] theorem deferK_panic (fn : Func) (tr tx : Nat) (body2 : Code) (k : V → St → Prop) (v : V) : deferK P fn tr tx body2 k (.panic v) s = recK P fn tr tx body2 k v s := rfl
@[simp] theorem recK_is (fn : Func) (tr tx : Nat) (body2 : Code) (k : V → St → Prop) (v : V) (c gf : Fr) (r : List Fr) (H : List Ob) : recK P fn tr tx body2 k v ⟨c, gf :: r, H⟩ = awp P body2 ⟨(gf.set tr v).set tx v, c :: r, H⟩ (backK P fn k) := rfl
@[simp] theorem backK_normal (fn : Func) (k : V → St → Prop) (c f : Fr) (r : List Fr) (H : List Ob) : backK P fn k .normal ⟨c, f :: r, H⟩ = evRes P ⟨f, r, H⟩ fn.results.toList fun l => popK ⟨f, r, H⟩ fun s' => k (resV l) s' := rfl
@[simp] theorem backK_ret (fn : Func) (k : V → St → Prop) (c f : Fr) (r : List Fr) (H : List Ob) : backK P fn k .ret ⟨c, f :: r, H⟩ = evRes P ⟨f, r, H⟩ fn.results.toList fun l => popK ⟨f, r, H⟩ fun s' => k (resV l) s' := rfl
end
end Go.Proofs.Vl
