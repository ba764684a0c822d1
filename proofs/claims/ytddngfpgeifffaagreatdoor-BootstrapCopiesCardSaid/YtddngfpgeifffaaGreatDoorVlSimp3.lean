/- A part of the proof: Simp3. -/
import Derived.IntWalk
import Derived.Test.YtddngfpgeifffaaGreatDoorVlSimp2
import Derived.Test.YtddngfpgeifffaaGreatDoorVlDraw
set_option linter.unusedVariables false
set_option linter.unusedSimpArgs false
/- A small logic of abstract values: where simp stops. -/
namespace Go.Proofs.Vl
open Go Go.RowKit

@[simp] theorem bits_i8 : IntKind.i8.bits = 8 := rfl
@[simp] theorem bits_i16 : IntKind.i16.bits = 16 := rfl
@[simp] theorem bits_i32 : IntKind.i32.bits = 32 := rfl
@[simp] theorem bits_i64 : IntKind.i64.bits = 64 := rfl
@[simp] theorem bits_u8 : IntKind.u8.bits = 8 := rfl
@[simp] theorem bits_u16 : IntKind.u16.bits = 16 := rfl
@[simp] theorem bits_u32 : IntKind.u32.bits = 32 := rfl
@[simp] theorem bits_u64 : IntKind.u64.bits = 64 := rfl
attribute [simp] IntWalk.i8_in IntWalk.i16_in IntWalk.i32_in IntWalk.i64_in IntWalk.u8_in IntWalk.u16_in IntWalk.u32_in IntWalk.u64_in
theorem ifK_sure {p : Prop} [Decidable p] {A B : Prop} (h : p) : ifK p A B = A := by unfold ifK; rw [if_pos h]
theorem ifK_never {p : Prop} [Decidable p] {A B : Prop} (h : ¬ p) : ifK p A B = B := by unfold ifK; rw [if_neg h]
theorem chk_sure {p : Prop} [Decidable p] {A : Prop} (h : p) : chk p A = A := by unfold chk; rw [if_pos h]
attribute [simp] ifK_sure ifK_never chk_sure
theorem boolK_dec_t {p : Prop} [Decidable p] {A B : Prop} (h : p) : boolK (decide p) A B = A := by rw [decide_eq_true h]; rfl
theorem boolK_dec_f {p : Prop} [Decidable p] {A B : Prop} (h : ¬ p) : boolK (decide p) A B = B := by rw [decide_eq_false h]; rfl
theorem boolK_beq_t {n m : Int} {A B : Prop} (h : n = m) : boolK (n == m) A B = A := by rw [beq_iff_eq.2 h]; rfl
theorem boolK_beq_f {n m : Int} {A B : Prop} (h : n ≠ m) : boolK (n == m) A B = B := by rw [beq_eq_false_iff_ne.2 h]; rfl
theorem boolK_bne_t {n m : Int} {A B : Prop} (h : n ≠ m) : boolK (n != m) A B = A := by rw [bne_iff_ne.2 h]; rfl
theorem boolK_bne_f {n m : Int} {A B : Prop} (h : n = m) : boolK (n != m) A B = B := by rw [h, bne_self_eq_false]; rfl
attribute [simp] boolK_dec_t boolK_dec_f boolK_beq_t boolK_beq_f boolK_bne_t boolK_bne_f
@[simp] theorem boolK_not (b : Bool) (A B : Prop) : boolK (!b) A B = boolK b B A := by cases b <;> rfl
/-! regions that draw their order -/
section
variable {P : Program} {s s' : St} {all : List Oper} {k : St → Prop} {x : V → St → Prop}
@[congr] theorem evSch_congr {sch : Sched} {tk : Nat} (htk : tick = tk) (h : s = s') : evSch P all sch s k x = evSch P all sch s' k x := h ▸ rfl
@[simp] theorem evSch_fin : evSch P all .fin s k x = k s := rfl
@[simp] theorem evSch_stop : evSch P all .stop s k x = True := rfl
@[simp] theorem evSch_one (i : Nat) (t : Sched) : evSch P all (.one i t) s k x = optK (all[i]?) fun o => pureNow s o ∧ evOp P o s (fun v s' => evSch P all t (s'.set o.dst v) k x) (fun _ _ => False) := by
  show (match all[i]? with | some o => _ | none => False) = _
  cases all[i]? <;> rfl
@[simp] theorem evSch_alt (i : Nat) (t o : Sched) : evSch P all (.alt i t o) s k x = ((optK (all[i]?) fun oi => evOps P all [oi] s (fun s' => evSch P all t s' k x) x) ∧ evSch P all o s k x) := by
  show ((match all[i]? with | some oi => _ | none => False) ∧ _) = _
  cases all[i]? <;> rfl
variable {d : Option Tmp} {ty0 : TypeId} {p : String} {af : Array Edge} {g : Option (Nat × Bool)}
@[simp] theorem pureNow_move (y : Operand) : pureNow s ⟨d, .move y, ty0, p, af, g⟩ = True := rfl
@[simp] theorem pureNow_assign (y : Operand) : pureNow s ⟨d, .assign y, ty0, p, af, g⟩ = True := rfl
@[simp] theorem pureNow_nilCheck (y : Operand) : pureNow s ⟨d, .nilCheck y, ty0, p, af, g⟩ = True := rfl
@[simp] theorem pureNow_fieldAddr (t f : Nat) (y : Operand) : pureNow s ⟨d, .fieldAddr t y f, ty0, p, af, g⟩ = True := rfl
@[simp] theorem pureNow_binOp (op : BinOp) (t t' : TypeId) (y z : Operand) : pureNow s ⟨d, .binOp op t y z t', ty0, p, af, g⟩ = True := rfl
@[simp] theorem pureNow_convert (t t' : TypeId) (y : Operand) : pureNow s ⟨d, .convert t t' y, ty0, p, af, g⟩ = optK (kintOf (s.eval y)) fun _ => True := by
  show (match s.eval y with | .c false [.d (.raw (.int _ _))] => True | _ => False) = _
  generalize s.eval y = a
  unfold kintOf
  split
  · rfl
  · rename_i h
    split
    · exact (h _ _ rfl).elim
    · rfl
@[simp] theorem noCur_is (s : St) : s.noCur = ⟨⟨s.cur.nt, []⟩, s.rest, s.heap⟩ := rfl
end
/-! what a call shows; numbers -/
@[congr] theorem Shows_congr {H H' : List Ob} {v v' : V} {res : List DC} {tk : Nat} (htk : tick = tk) (h1 : H = H') (h2 : v = v') : Shows H v res = Shows H' v' res := h1 ▸ h2 ▸ rfl
@[simp] theorem toNat_add (a b : Nat) : ((a : Int) + (b : Int)).toNat = a + b := rfl
@[simp] theorem toNat_add_lit (a n : Nat) : ((a : Int) + (no_index (OfNat.ofNat n) : Int)).toNat = a + n := rfl
@[simp] theorem toNat_mul (a b : Nat) : ((a : Int) * (b : Int)).toNat = a * b := rfl
@[simp] theorem toNat_mul_lit (a n : Nat) : ((a : Int) * (no_index (OfNat.ofNat n) : Int)).toNat = a * n := rfl
@[simp] theorem toNat_sub (a b : Nat) : ((a : Int) - (b : Int)).toNat = a - b := Int.toNat_sub a b
@[simp] theorem toNat_sub_lit (a n : Nat) : ((a : Int) - (no_index (OfNat.ofNat n) : Int)).toNat = a - n := Int.toNat_sub a n
end Go.Proofs.Vl
