/- A part of the proof: H0. -/
import Derived.Test.YtddngfpgeifffaaGreatDoorVlB1x
import Derived.Test.YtddngfpgeifffaaGreatDoorVlDefer
import Derived.Test.YtddngfpgeifffaaGreatDoorVlMove
set_option linter.unusedVariables false
set_option linter.unusedSimpArgs false
set_option maxRecDepth 20000
namespace Go.Proofs.YtddngfpgeifffaaGreatDoor
open Go Go.Proofs Go.Proofs.Vl

/-- The machine: its stacks with the top ahead. -/
structure MSt where
  mem : Nat → Int
  pc : Int
  data : List Int
  calls : List Int
  input : List Int
  output : List UInt8
  digit : Bool
  steps : Int
  stopped : Bool
/-- What the rows' cells hold, as functions. -/
structure MG where
  gm : Nat → Nat → D
  nd : Nat
  gd : Nat → Nat → D
  nc : Nat
  gc : Nat → Nat → D
  gi : Nat → Nat → D
  no : Nat
  go : Nat → Nat → D
def U32 (n : Int) : Prop := 0 ≤ n ∧ n < 4294967296
/-- A row's first cells, from below, are a stack's. -/
def StackIs (get : Nat → Nat → D) (st : List Int) : Prop := ∀ i, i < st.length → get i 0 = du32 (st.reverse.getD i 0)
structure MRel (m : MSt) (g : MG) : Prop where
  gm : ∀ i, i < 262144 → g.gm i 0 = du32 (m.mem i)
  memR : ∀ i, U32 (m.mem i)
  pcR : U32 m.pc
  gd : StackIs g.gd m.data
  ld : m.data.length ≤ g.nd
  dataR : ∀ v ∈ m.data, U32 v
  dataL : m.data.length ≤ 256
  gc : StackIs g.gc m.calls
  lc : m.calls.length ≤ g.nc
  callsR : ∀ v ∈ m.calls, U32 v
  callsL : m.calls.length ≤ 64
  gi : ∀ i, i < m.input.length → g.gi i 0 = du32 (m.input.getD i 0)
  inputR : ∀ v ∈ m.input, U32 v
  go : BytesG g.go m.output
  lo : m.output.length ≤ g.no
def binMap : List (MK × D) := [(.i 43, .raw (.func (.func 45) ⟨[]⟩ ⟨[]⟩)), (.i 45, .raw (.func (.func 46) ⟨[]⟩ ⟨[]⟩)), (.i 42, .raw (.func (.func 47) ⟨[]⟩ ⟨[]⟩)), (.i 47, .raw (.func (.func 48) ⟨[]⟩ ⟨[]⟩)),
  (.i 37, .raw (.func (.func 50) ⟨[]⟩ ⟨[]⟩)), (.i 94, .raw (.func (.func 51) ⟨[]⟩ ⟨[]⟩)), (.i 60, .raw (.func (.func 52) ⟨[]⟩ ⟨[]⟩))]
def mObj (m : MSt) (g : MG) : Ob := .cells 85 [.row 4 262144, .d (.raw (.int .u32 m.pc)), .row 6 m.data.length, .row 7 m.calls.length, .d (.sl m.input.length 1 g.gi), .row 8 m.output.length, .d (.raw (.bool m.digit)), .d (.raw (.int .i64 m.steps)), .d (.raw (.bool m.stopped)), .mp 5]
def outOb : Ob := .cells 35 [.d (.raw (.string ⟨⟨[]⟩⟩)), .d (.raw (.int .i64 0)), .d (.raw (.int .i64 0))]
/-- The heap where the machine runs. -/
def MH (m : MSt) (g : MG) (T : List Ob) : List Ob :=
  outOb :: .gone :: .gone :: mObj m g :: .row 23 1 262144 g.gm 0 :: .mp 82 (some .u32) binMap :: .row 23 1 g.nd g.gd 0 :: .row 23 1 g.nc g.gc 0 :: .row 5 1 g.no g.go 0 :: T
@[simp] theorem outOb_scrub (n : Nat) : Ob.scrub n outOb = outOb := rfl
@[simp] theorem outOb_clip (n : Nat) : Ob.clip n outOb = outOb := rfl
def trapV : V := .raw (.iface 106 (.agg ⟨[]⟩))

/-! Plain laws of stacks. -/
theorem StackIs.top {get : Nat → Nat → D} {v : Int} {st : List Int} (h : StackIs get (v :: st)) : get st.length 0 = du32 v := by
  rw [h _ (by simp)]
  simp
theorem StackIs.pop {get : Nat → Nat → D} {v : Int} {st : List Int} (h : StackIs get (v :: st)) : StackIs get st := fun i hi => by
  rw [h i (by simp; omega)]
  simp [List.getElem?_append_left, hi]
theorem StackIs.push {get : Nat → Nat → D} {st : List Int} (h : StackIs get st) (v : Int) : StackIs (catRow get st.length (litRow [.d (.raw (.int .u32 v))] 1)) (v :: st) := fun i hi => by
  unfold catRow
  split
  · rename_i hl; rw [h i hl]; simp [List.getElem?_append_left, hl]
  · have : i = st.length := by simp at hi; omega
    subst this
    simp [litRow, At.toD, du32]

theorem m_check {s : St} {b : Bool} {k x : V → St → Prop} (h1 : b = true → k (.tup []) s) (h2 : b = false → x trapV s) : ACall Tryz.prog 49 [(false, [.d (.raw (.bool b))])] s k x := by
  refine ACall.of_body Tryz.func49 rfl (by kernel_rfl) (Nat.le_of_ble_eq_true rfl) ?_
  cases b with
  | true => simp -implicitDefEqProofs (maxSteps := 10000000) (disch := omega); exact h1 rfl
  | false => simp -implicitDefEqProofs (maxSteps := 10000000) (disch := omega); exact h2 rfl

/-- A value is taken from the stack. -/
theorem m_pop {cur : Fr} {rest : List Fr} {m : MSt} {g : MG} {T : List Ob} {k x : V → St → Prop} (hr : MRel m g)
    (h1 : ∀ v st, m.data = v :: st → k (.c false [.d (.raw (.int .u32 v))]) ⟨cur, rest, MH { m with data := st } g T⟩) (h2 : m.data = [] → x trapV ⟨cur, rest, MH m g T⟩) :
    ACall Tryz.prog 69 [(false, [.ref 3 0])] ⟨cur, rest, MH m g T⟩ k x := by
  refine ACall.of_body Tryz.func69 rfl (by kernel_rfl) (Nat.le_of_ble_eq_true rfl) ?_
  have hl := hr.ld
  have hL := hr.dataL
  cases hd : m.data with
  | nil =>
    simp -implicitDefEqProofs (maxSteps := 10000000) (disch := omega) [MH, mObj, hd]
    refine m_check (fun h => by cases h) (fun _ => ?_)
    simp -implicitDefEqProofs (maxSteps := 10000000) (disch := omega)
    simpa [MH, mObj, hd] using h2 hd
  | cons v st =>
    have hst := hr.gd
    rw [hd] at hst hl hL
    have htop := hst.top
    simp at hl hL
    simp -implicitDefEqProofs (maxSteps := 10000000) (disch := omega) [MH, mObj, hd]
    refine m_check (fun _ => ?_) (fun h => by simp at h)
    simp -implicitDefEqProofs (maxSteps := 10000000) (disch := omega) [htop, du32]
    simpa [MH, mObj, hd] using h1 v st hd
/-- A value is put upon the stack. -/
def pushed (m : MSt) (v : Int) : MSt := { m with data := v :: m.data }
def pushedG (g : MG) (n : Nat) (v : Int) : MG := { g with nd := n + 1, gd := catRow g.gd n (litRow [.d (.raw (.int .u32 v))] 1) }
theorem MRel.push {m : MSt} {g : MG} (h : MRel m g) {v : Int} (hv : U32 v) (hl : m.data.length < 256) : MRel (pushed m v) (pushedG g m.data.length v) :=
  { h with
    gd := h.gd.push v
    ld := by simp [pushed, pushedG]
    dataR := fun u hu => by
      rcases List.mem_cons.1 hu with rfl | hu
      · exact hv
      · exact h.dataR u hu
    dataL := by simp [pushed]; omega }
theorem m_push {cur : Fr} {rest : List Fr} {m : MSt} {g : MG} {T : List Ob} {v : Int} {k x : V → St → Prop} (hr : MRel m g)
    (h1 : m.data.length < 256 → k (.tup []) ⟨cur.scrub 6, rest.map (Fr.scrub 6), MH (pushed m v) (pushedG g m.data.length v) (T.map (Ob.scrub 6) ++ [.row 23 1 1 (litRow [.d (.raw (.int .u32 v))] 1) 0])⟩) (h2 : 256 ≤ m.data.length → x trapV ⟨cur, rest, MH m g T⟩) :
    ACall Tryz.prog 67 [(false, [.ref 3 0]), (false, [.d (.raw (.int .u32 v))])] ⟨cur, rest, MH m g T⟩ k x := by
  refine ACall.of_body Tryz.func67 rfl (by kernel_rfl) (Nat.le_of_ble_eq_true rfl) ?_
  have hl := hr.ld
  have hL := hr.dataL
  simp -implicitDefEqProofs (maxSteps := 10000000) (disch := omega) [MH, mObj]
  refine m_check (fun h => ?_) (fun h => ?_) <;> simp at h
  · have h1 := h1 (by omega)
    simp -implicitDefEqProofs (maxSteps := 10000000) (disch := omega) [List.getElem?_concat_length, List.getElem?_append_left, List.set_append_left]
    simpa [MH, mObj, pushed, pushedG] using h1
  · have h2 := h2 (by omega)
    simp -implicitDefEqProofs (maxSteps := 10000000) (disch := omega)
    simpa [MH, mObj] using h2
theorem m_address {cur : Fr} {rest : List Fr} {m : MSt} {g : MG} {T : List Ob} {k x : V → St → Prop} (hr : MRel m g)
    (h1 : ∀ v st, m.data = v :: st → v < 262144 → k (.c false [.d (.raw (.int .u32 v))]) ⟨cur, rest, MH { m with data := st } g T⟩)
    (h2 : ∀ st, (∀ a st', m.data = a :: st' → 262144 ≤ a) → MRel { m with data := st } g → x trapV ⟨cur, rest, MH { m with data := st } g T⟩) :
    ACall Tryz.prog 68 [(false, [.ref 3 0])] ⟨cur, rest, MH m g T⟩ k x := by
  refine ACall.of_body Tryz.func68 rfl (by kernel_rfl) (Nat.le_of_ble_eq_true rfl) ?_
  simp -implicitDefEqProofs (maxSteps := 10000000) (disch := omega)
  refine m_pop hr (fun v st hd => ?_) (fun hd => ?_)
  · simp -implicitDefEqProofs (maxSteps := 10000000) (disch := omega)
    refine m_check (fun h => ?_) (fun h => ?_) <;> simp at h
    · simp -implicitDefEqProofs (maxSteps := 10000000) (disch := omega)
      exact h1 v st hd h
    · simp -implicitDefEqProofs (maxSteps := 10000000) (disch := omega)
      exact h2 st (fun a st' h' => by rw [hd] at h'; cases h'; exact h) { hr with
        gd := by have := hr.gd; rw [hd] at this; exact this.pop
        ld := by have := hr.ld; rw [hd] at this; simp at this ⊢; omega
        dataR := fun u hu => hr.dataR u (by rw [hd]; simp [hu])
        dataL := by have := hr.dataL; rw [hd] at this; simp at this ⊢; omega }
  · simp -implicitDefEqProofs (maxSteps := 10000000) (disch := omega)
    exact h2 m.data (fun a st' h' => by rw [hd] at h'; cases h') hr
end Go.Proofs.YtddngfpgeifffaaGreatDoor
