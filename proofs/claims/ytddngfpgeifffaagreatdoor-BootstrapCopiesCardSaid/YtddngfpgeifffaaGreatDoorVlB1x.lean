/- A part of the proof: B1, U1. -/
import Derived.Test.YtddngfpgeifffaaGreatDoorVlA1
set_option linter.unusedVariables false
set_option linter.unusedSimpArgs false
section
set_option maxRecDepth 20000
namespace Go.Proofs.YtddngfpgeifffaaGreatDoor
open Go Go.Proofs Go.Proofs.Vl

/-! strings.Builder -/
theorem b_copyCheck {s : St} {id : Nat} {y : At} {k x : V → St → Prop} (h : s.heap[id]? = some (.cells 64 [.mref id 0, y])) (hk : k (.tup []) s) : ACall Tryz.prog 41 [(false, [.ref id 0])] s k x := by
  have hl := (List.getElem?_eq_some_iff.1 h).1
  refine ACall.weakRef (id := id) (e := 64) (i := 0) (j := id) (off := 0) (ACall.splitRef (i := 0) h rfl ?_ ?_)
  · refine ACall.of_body Tryz.func41 rfl (by kernel_rfl) (Nat.le_of_ble_eq_true rfl) ?_
    simp -implicitDefEqProofs (maxSteps := 10000000) (disch := omega) [h]
    rw [set_same h]; exact hk
  · refine ACall.of_body Tryz.func41 rfl (by kernel_rfl) (Nat.le_of_ble_eq_true rfl) ?_
    simp -implicitDefEqProofs (maxSteps := 10000000) (disch := omega) [h]
    rw [set_same h]; exact hk

/-- A string's bytes as a row's. -/
def strR (m : List UInt8) : Nat → Nat → D := fun i _ => .raw (.int .u8 (m[i]?.getD 0).toNat)
def byteR (b : UInt8) : Nat → Nat → D := litRow [.d (.raw (.int .u8 b.toNat))] 1
/-- The row holds these bytes. -/
def BytesG (get : Nat → Nat → D) (l : List UInt8) : Prop := ∀ i, i < l.length → get i 0 = .raw (.int .u8 (l[i]?.getD 0).toNat)
theorem BytesG.nil (get : Nat → Nat → D) : BytesG get [] := fun i hi => absurd hi (by simp)
theorem BytesG.str {get : Nat → Nat → D} {l : List UInt8} (h : BytesG get l) (m : List UInt8) : BytesG (catRow get l.length (strR m)) (l ++ m) := by
  intro i hi
  simp only [List.length_append] at hi
  unfold catRow strR
  split
  · rename_i hl; rw [h i hl, List.getElem?_append_left hl]
  · rename_i hl; rw [List.getElem?_append_right (Nat.le_of_not_lt hl)]
theorem BytesG.byte {get : Nat → Nat → D} {l : List UInt8} (h : BytesG get l) (b : UInt8) : BytesG (catRow get l.length (byteR b)) (l ++ [b]) := by
  intro i hi
  simp only [List.length_append, List.length_cons, List.length_nil] at hi
  unfold catRow byteR
  split
  · rename_i hl; rw [h i hl, List.getElem?_append_left hl]
  · rename_i hl
    have : i = l.length := by omega
    subst this
    simp [litRow, At.toD]
/-- What is left where a builder has been written. -/
def wrote (s : St) (id rid n : Nat) (get : Nat → Nat → D) : St :=
  ⟨s.cur.scrub rid, s.rest.map (Fr.scrub rid), ((s.heap.map (Ob.scrub rid)).set rid (.row 5 1 n get 0)).set id (.cells 64 [.mref id 0, .row rid n])⟩
@[simp] theorem wrote_is (c : Fr) (r : List Fr) (h : List Ob) (id rid n : Nat) (get : Nat → Nat → D) : wrote ⟨c, r, h⟩ id rid n get = ⟨c.scrub rid, r.map (Fr.scrub rid), ((h.map (Ob.scrub rid)).set rid (.row 5 1 n get 0)).set id (.cells 64 [.mref id 0, .row rid n])⟩ := rfl
theorem b_writeString {s : St} {id rid n : Nat} {get : Nat → Nat → D} {m : List UInt8} {k x : V → St → Prop} (h : s.heap[id]? = some (.cells 64 [.mref id 0, .row rid n])) (hr : s.heap[rid]? = some (.row 5 1 n get 0)) (hne : id ≠ rid)
    (hm : n + m.length ≤ 140737488355328) (hk : k (.tup [(false, [.d (.raw (.int .i64 m.length))]), (false, [.d (.raw .nilIface)])]) (wrote s id rid (n + m.length) (catRow get n (strR m)))) :
    ACall Tryz.prog 23 [(false, [.ref id 0]), (false, [.d (.raw (.string ⟨⟨m⟩⟩))])] s k x := by
  obtain ⟨hl, h'⟩ := List.getElem?_eq_some_iff.1 h
  obtain ⟨hl2, hr'⟩ := List.getElem?_eq_some_iff.1 hr
  refine ACall.of_body Tryz.func23 rfl (by kernel_rfl) (Nat.le_of_ble_eq_true rfl) ?_
  simp -implicitDefEqProofs (maxSteps := 10000000) (disch := omega) [h', hr']
  refine b_copyCheck (id := id) h ?_
  simp -implicitDefEqProofs (maxSteps := 10000000) (disch := omega) [h', hr', hne, hne.symm]
  exact hk
/-- What is left where a builder's byte has been written: the byte's own row lies behind. -/
def wroteB (s : St) (id rid n : Nat) (get : Nat → Nat → D) (b : UInt8) : St :=
  ⟨s.cur.scrub rid, s.rest.map (Fr.scrub rid), (((s.heap.map (Ob.scrub rid)).set rid (.row 5 1 (n + 1) (catRow get n (byteR b)) 0)).set id (.cells 64 [.mref id 0, .row rid (n + 1)])) ++ [.row 5 1 1 (byteR b) 0]⟩
@[simp] theorem wroteB_is (c : Fr) (r : List Fr) (h : List Ob) (id rid n : Nat) (get : Nat → Nat → D) (b : UInt8) : wroteB ⟨c, r, h⟩ id rid n get b = ⟨c.scrub rid, r.map (Fr.scrub rid), (((h.map (Ob.scrub rid)).set rid (.row 5 1 (n + 1) (catRow get n (byteR b)) 0)).set id (.cells 64 [.mref id 0, .row rid (n + 1)])) ++ [.row 5 1 1 (byteR b) 0]⟩ := rfl
theorem b_writeByte {s : St} {id rid n : Nat} {get : Nat → Nat → D} {b : UInt8} {k x : V → St → Prop} (h : s.heap[id]? = some (.cells 64 [.mref id 0, .row rid n])) (hr : s.heap[rid]? = some (.row 5 1 n get 0)) (hne : id ≠ rid)
    (hm : n + 1 ≤ 140737488355328) (hk : k (.c false [.d (.raw .nilIface)]) (wroteB s id rid n get b)) :
    ACall Tryz.prog 63 [(false, [.ref id 0]), (false, [.d (.raw (.int .u8 b.toNat))])] s k x := by
  obtain ⟨hl, h'⟩ := List.getElem?_eq_some_iff.1 h
  obtain ⟨hl2, hr'⟩ := List.getElem?_eq_some_iff.1 hr
  have hl3 : id < (List.map (Ob.scrub rid) s.heap).length := by simpa using hl
  have hl4 : rid < (List.map (Ob.scrub rid) s.heap).length := by simpa using hl2
  have hl5 : ∀ o : Ob, id < ((List.map (Ob.scrub rid) s.heap).set rid o).length := fun o => by simpa using hl
  refine ACall.of_body Tryz.func63 rfl (by kernel_rfl) (Nat.le_of_ble_eq_true rfl) ?_
  simp -implicitDefEqProofs (maxSteps := 10000000) (disch := omega) [h', hr']
  refine b_copyCheck (id := id) h ?_
  have hl6 := hl5 (Ob.row 5 1 (n + 1) (catRow get n (litRow [At.d (D.raw (Value.int IntKind.u8 ↑b.toNat))] 1)) 0)
  simp -implicitDefEqProofs (maxSteps := 10000000) (disch := omega) [h', hr', hne, hne.symm, List.getElem?_concat_length, List.getElem?_append_left, List.set_append_left]
  exact hk
theorem b_string {s : St} {id rid : Nat} {get : Nat → Nat → D} {l : List UInt8} {a0 : At} {k x : V → St → Prop} (h : s.heap[id]? = some (.cells 64 [a0, .row rid l.length])) (hr : s.heap[rid]? = some (.row 5 1 l.length get 0)) (hne : id ≠ rid)
    (hm : l.length ≤ 140737488355328) (hb : BytesG get l) (hk : k (.c false [.d (.raw (.string ⟨⟨l⟩⟩))]) ⟨s.cur.scrub rid, s.rest.map (Fr.scrub rid), (s.heap.map (Ob.scrub rid)).set rid .gone⟩) :
    ACall Tryz.prog 24 [(false, [.ref id 0])] s k x := by
  obtain ⟨hl, h'⟩ := List.getElem?_eq_some_iff.1 h
  obtain ⟨hl2, hr'⟩ := List.getElem?_eq_some_iff.1 hr
  refine ACall.of_body Tryz.func24 rfl (by kernel_rfl) (Nat.le_of_ble_eq_true rfl) ?_
  simp -implicitDefEqProofs (maxSteps := 10000000) (disch := omega) [h', hr']
  refine ADraw.of_plan (Sched.one 0 (Sched.one 1 (Sched.one 2 (Sched.one 5 (Sched.one 6 (Sched.one 7 (Sched.alt 3 (Sched.alt 4 (Sched.alt 8 (Sched.alt 9 (Sched.alt 10 (Sched.one 11 Sched.fin) Sched.stop) Sched.stop) Sched.stop) (Sched.alt 8 (Sched.alt 4 (Sched.alt 9 (Sched.alt 10 (Sched.one 11 Sched.fin) Sched.stop) Sched.stop) (Sched.alt 9 (Sched.alt 4 (Sched.alt 10 (Sched.one 11 Sched.fin) Sched.stop) Sched.stop) Sched.stop)) Sched.stop)) (Sched.alt 8 (Sched.alt 3 (Sched.alt 4 (Sched.alt 9 (Sched.alt 10 (Sched.one 11 Sched.fin) Sched.stop) Sched.stop) (Sched.alt 9 (Sched.alt 4 (Sched.alt 10 (Sched.one 11 Sched.fin) Sched.stop) Sched.stop) Sched.stop)) (Sched.alt 9 (Sched.alt 3 (Sched.alt 4 (Sched.alt 10 (Sched.one 11 Sched.fin) Sched.stop) Sched.stop) Sched.stop) Sched.stop)) Sched.stop)))))))) (by kernel_rfl) (by kernel_rfl) ?_
  simp -implicitDefEqProofs (maxSteps := 10000000) (disch := omega) [h', hr', hne, hne.symm]
  have hby : ∀ i, i < l.length → get i 0 = .raw (.int .u8 (l[i]?.getD 0).toNat) := hb
  have e : rowBytes get l.length = l := by
    unfold rowBytes
    refine List.ext_getElem? fun i => ?_
    rw [List.getElem?_map]
    by_cases hi : i < l.length
    · simp [hi, hby i hi, Vl.byteOf]
    · simp [hi]
  rw [e]
  refine ⟨fun i hi => ?_, hk⟩
  rw [hby i hi]
  simp [IsB8, Vl.byteOf]
theorem b_len {s : St} {id rid n : Nat} {a0 : At} {k x : V → St → Prop} (h : s.heap[id]? = some (.cells 64 [a0, .row rid n])) (hk : k (.c false [.d (.raw (.int .i64 n))]) s) :
    ACall Tryz.prog 29 [(false, [.ref id 0])] s k x := by
  obtain ⟨hl, h'⟩ := List.getElem?_eq_some_iff.1 h
  refine ACall.of_body Tryz.func29 rfl (by kernel_rfl) (Nat.le_of_ble_eq_true rfl) ?_
  simp -implicitDefEqProofs (maxSteps := 10000000) (disch := omega) [h']
  exact hk
end Go.Proofs.YtddngfpgeifffaaGreatDoor
end
section
set_option maxRecDepth 20000
namespace Go.Proofs.YtddngfpgeifffaaGreatDoor
open Go Go.Proofs Go.Proofs.Vl

/-- The row holds these data. -/
def RowIs (get : Nat → Nat → D) (l : List D) : Prop := ∀ i, i < l.length → get i 0 = l.getD i (.raw .nilIface)
theorem RowIs.nil (get : Nat → Nat → D) : RowIs get [] := fun i h => absurd h (by simp)
theorem RowIs.lit (x : D) : RowIs (litRow [.d x] 1) [x] := fun i h => by
  have : i = 0 := by simpa using h
  subst this
  rfl
theorem RowIs.add {get : Nat → Nat → D} {l : List D} (h : RowIs get l) (x : D) : RowIs (catRow get l.length (litRow [.d x] 1)) (l ++ [x]) := by
  intro i hi
  simp only [List.length_append, List.length_cons, List.length_nil] at hi
  unfold catRow
  split
  · rename_i hl; rw [h i hl]; simp [List.getElem?_append_left hl]
  · have : i = l.length := by omega
    subst this
    simp [litRow, At.toD]
def du32 (n : Int) : D := .raw (.int .u32 n)
def u32s (l : List Int) : D := .sl l.length 1 fun i _ => du32 (l.getD i 0)
/-- The row holds these numbers, n of them. -/
def NumsAt (l : List Int) (n : Nat) (get : Nat → Nat → D) : Prop := n = l.length ∧ RowIs get (l.map du32)
theorem NumsAt.add {l : List Int} {n : Nat} {get : Nat → Nat → D} (h : NumsAt l n get) (x : Int) : NumsAt (l ++ [x]) (n + 1) (catRow get n (litRow [.d (.raw (.int .u32 x))] 1)) := by
  obtain ⟨rfl, h⟩ := h
  refine ⟨by simp, ?_⟩
  have := h.add (du32 x)
  rw [List.length_map] at this
  rw [List.map_append]
  exact this
theorem NumsAt.show_row {l : List Int} {n : Nat} {get : Nat → Nat → D} {H : List Ob} {id fz : Nat} (h : NumsAt l n get) (hH : H[id]? = some (.row 23 1 n get fz)) : AtShow H (.row id n) (u32s l) := by
  obtain ⟨rfl, h⟩ := h
  refine AtShow.row hH fun k hk j hj => .of_eq ?_
  obtain rfl : j = 0 := by omega
  rw [h k (by simpa using hk)]
  simp [hk]
theorem wrap32_range (n : Int) : 0 ≤ IntKind.u32.wrap n ∧ IntKind.u32.wrap n < 4294967296 := by
  rw [IntKind.wrap_u32]; omega
end Go.Proofs.YtddngfpgeifffaaGreatDoor
end
