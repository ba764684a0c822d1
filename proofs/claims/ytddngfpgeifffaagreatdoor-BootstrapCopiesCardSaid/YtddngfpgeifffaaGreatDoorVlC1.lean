/- A part of the proof: C1. -/
import Derived.WalkKit
import Derived.Shelf.Abstract
import Derived.BigCall
import Derived.BigGuard
import Derived.Test.YtddngfpgeifffaaGreatDoorVlB1x
import Derived.Test.YtddngfpgeifffaaGreatDoorVlLib
import Derived.Test.YtddngfpgeifffaaGreatDoorVlRes1
set_option linter.unusedVariables false
set_option linter.unusedSimpArgs false
set_option maxRecDepth 20000
namespace Go.Proofs.YtddngfpgeifffaaGreatDoor
open Go Go.Proofs Go.Proofs.Vl Go.RowKit Go.Sort

theorem dcs_raw {I : Nat → Nat → Prop} {w : World} : ∀ {us vs : List Value}, All2 (dcRep I w) (us.map fun v => (false, [D.raw v])) vs → us = vs
  | [], [], _ => rfl
  | u :: us, v :: vs, ⟨h1, h2⟩ => by
    obtain ⟨rfl, _⟩ : v = u ∧ _ := h1
    rw [dcs_raw h2]
/-- A contract of the shelf's, from numbers and strings to one of these. -/
theorem PSpec.of_raw {P : Program} {g : FuncId} (us : List Value) {u : Value} (h1 : u.oneCell' = true) (h : ∀ w, GlobOk P w.heap.size w → Calls P g us.toArray w fun e w' => e = .returned u ∧ Below w.heap.size w w') :
    PSpec P g (us.map fun v => (false, [D.raw v])) [(false, [D.raw u])] := by
  intro I w vs hG hI hv
  have e := dcs_raw hv
  have e2 : vs = us.toArray := by rw [e]
  rw [e2]
  refine (h w hG).mono fun e w' ⟨h2, h3⟩ => ⟨u, h2, h3, rfl, h1⟩
theorem PSpec.of_raw2 {P : Program} {g : FuncId} (us : List Value) {u v : Value} (h1 : u.oneCell' = true) (h2 : v.oneCell' = true) (h : ∀ w, GlobOk P w.heap.size w → Calls P g us.toArray w fun e w' => e = .returned (.tuple #[u, v]) ∧ Below w.heap.size w w') :
    PSpec P g (us.map fun v => (false, [D.raw v])) [(false, [D.raw u]), (false, [D.raw v])] := by
  intro I w vs hG hI hv
  have e := dcs_raw hv
  have e2 : vs = us.toArray := by rw [e]
  rw [e2]
  refine (h w hG).mono fun e w' ⟨h3, h4⟩ => ⟨_, h3, h4, _, rfl, ⟨rfl, h1⟩, ⟨rfl, h2⟩, trivial⟩
theorem below_of_eq {w w' : World} (h : w' = w) : Below w.heap.size w w' := h ▸ Below.refl _ _

theorem below_bytesWorld (w : World) (e : TypeId) (s : ByteArray) : Below w.heap.size w (Lib.bytesWorld w e s) :=
  Lib.below_freeze ((Below.refl _ _).drew.alloc (Nat.le_refl _) _) (Nat.le_refl _) _

theorem t_hasPrefix (s p : List UInt8) : PSpec Tryz.prog 17 [dstr s, dstr p] [dbool (Lib.hasPrefix s p)] :=
  PSpec.of_raw [.string ⟨⟨s⟩⟩, .string ⟨⟨p⟩⟩] rfl fun w _ => (show Calls Tryz.prog 17 _ w _ from Any.strings_HasPrefix Tryz.lays99 ⟨⟨s⟩⟩ ⟨⟨p⟩⟩ w).mono fun e w' ⟨h1, h2⟩ => ⟨h1, below_of_eq h2⟩
theorem t_contains (s : List UInt8) (c : UInt8) : PSpec Tryz.prog 71 [dstr s, dstr [c]] [dbool (decide (0 ≤ Lib.indexByte s c))] :=
  PSpec.of_raw [.string ⟨⟨s⟩⟩, .string ⟨⟨[c]⟩⟩] rfl fun w _ => (show Calls Tryz.prog 71 _ w _ from Any.strings_Contains_one Tryz.lays144 ⟨⟨s⟩⟩ c w).mono fun e w' ⟨h1, h2⟩ => ⟨h1, below_of_eq h2⟩
theorem t_count (s : List UInt8) (c : UInt8) : PSpec Tryz.prog 70 [dstr s, dstr [c]] [dint .i64 (Lib.countByte s c)] :=
  PSpec.of_raw [.string ⟨⟨s⟩⟩, .string ⟨⟨[c]⟩⟩] rfl fun w _ => (show Calls Tryz.prog 70 _ w _ from Any.strings_Count_one Tryz.lays138 ⟨⟨s⟩⟩ c w).mono fun e w' ⟨h1, h2⟩ => ⟨h1, below_of_eq h2⟩
theorem builderExtra : Builder.Extra Tryz.prog Tryz.lays105_ren where
  sizeBuilder := by kernel_rfl
  liesBuilder := by kernel_rfl
  t5 := Tryz.underlying5
  a5 := Tryz.isAgg5
  z5 := Tryz.sizeOf5
  v5 := Tryz.zeroValue5
  infoByte := by kernel_rfl
  cellsByte := by kernel_rfl
  sizeByte := by kernel_rfl
  neB5 := by decide
theorem t_repeat (s : List UInt8) (c : Nat) (hc : c ≤ 9223372036854775807) (hl : s.length * c ≤ 140737488355328) : PSpec Tryz.prog 15 [dstr s, dint .i64 c] [dstr (Lib.repeatL s c)] :=
  PSpec.of_raw [.string ⟨⟨s⟩⟩, .int .i64 c] rfl fun w _ => (show Calls Tryz.prog 15 _ w _ from Any.strings_Repeat Tryz.lays105 builderExtra ⟨⟨s⟩⟩ c w hc hl)
theorem t_trim (s cut : List UInt8) (hs : s.length ≤ 9223372036854775807) (hc : cut.length < 4294967281) (ha : cut.all (fun b => decide (b.toNat < 128)) = true) : PSpec Tryz.prog 61 [dstr s, dstr cut] [dstr (Lib.trimS s cut)] :=
  PSpec.of_raw [.string ⟨⟨s⟩⟩, .string ⟨⟨cut⟩⟩] rfl fun w _ => (show Calls Tryz.prog 61 _ w _ from Any.strings_Trim_laid Tryz.lays160 (by kernel_rfl) ⟨⟨s⟩⟩ ⟨⟨cut⟩⟩ w hs hc (ascii_of_all ha))
theorem t_parseUint (s : List UInt8) (u : Nat) (hs : s.length ≤ 9223372036854775806) (h : Lib.parseUintB 64 s = .ok u) : PSpec Tryz.prog 62 [dstr s, dint .i64 10, dint .i64 64] [dint .u64 u, (false, [.raw .nilIface])] :=
  PSpec.of_raw2 [.string ⟨⟨s⟩⟩, .int .i64 10, .int .i64 64] rfl rfl fun w _ => (show Calls Tryz.prog 62 _ w _ from Any.strconv_ParseUint_10_at64_ok Tryz.laysPu14 ⟨⟨s⟩⟩ hs u h w).mono fun e w' ⟨h1, h2⟩ => ⟨h1, by
    rcases h2 with rfl | rfl
    · exact Below.refl _ _
    · exact below_bytesWorld _ _ _⟩

set_option maxHeartbeats 6400000 in
set_option maxRecDepth 100000 in
theorem formatUint_big (u : Nat) (hu : 100 ≤ u) (hu64 : u < 18446744073709551616) (w : World) (htab : Lib.TabIs Tryz.prog w "internal/strconv.uint64pow10" .u64 Lib.pow10Tab) :
    Calls Tryz.prog 72 #[.int .u64 u, .int .i64 10] w fun e w' => e = .returned (.string ⟨(Lib.decDigits u).toArray⟩) ∧ Below w.heap.size w w' := by
  have hu1 : 1 ≤ u := by omega
  have hnd20 : Lib.nDigits u ≤ 20 := by have := Lib.numDigits_eq u hu1 hu64; split at this <;> omega
  have hal : Tryz.prog.arrayLen 136 = 24 := by kernel_rfl
  have hsl1 : ∀ W, (Instr.sliceAt 136 (.pointer (some ⟨w.heap.size, 0, none⟩)) none (some (.int .i64 (Lib.nDigits u : Int))) none).run Tryz.prog W = .ok (.slice (some ⟨w.heap.size, 0, none⟩) (Lib.nDigits u) 24) W := fun W => by
    rw [run_sliceAt_array_h W 136 ⟨w.heap.size, 0, none⟩ (by kernel_rfl) .i64 (Lib.nDigits u : Int) (by omega) (by rw [hal]; omega)]
    go_simp
  have hH0 := Lib.holds_zero0 w 136 (Lib.nDigits u) (by omega)
  have hfmt := Any.internal_strconv_formatBase10 Tryz.lays285 w.heap.size 0 24 u (Array.replicate (Lib.nDigits u) 0) (w.alloc (.cells Lib.zeros24 136)) hH0 (by rw [Array.size_replicate]; exact Lib.lt_pow_nDigits u) hu64 (by rw [Array.size_replicate]; omega)
  rw [Array.size_replicate] at hfmt
  have HH0 := Lib.hid hH0
  clear hH0 hal
  have e87 := fun w htab => (show Calls Tryz.prog 87 _ w _ from Any.internal_strconv_numDigits Tryz.laysM284 u hu1 hu64 w htab)
  have hfmt' : Calls Tryz.prog 88 _ _ _ := hfmt
  clear hfmt
  go_enter Tryz.func72, Tryz.ntmps72
  go_wp2_with (first
    | (go_at_call 87; refine (e87 _ (Lib.tabIs_alloc htab _)).mono ?_; rintro e w' ⟨rfl, rfl⟩))
  refine hfmt'.mono ?_
  rintro e w' ⟨rfl, k, v', dk, rfl, hF⟩
  have hcv : (convert 30 9 (.slice (some ⟨w.heap.size, 0, none⟩) (Lib.nDigits u) 24)).run Tryz.prog ((putRow (fun (b : UInt8) => Value.int .u8 (b.toNat : Int)) (w.alloc (.cells Lib.zeros24 136)) w.heap.size 0 dk).drewN k) = .ok (.string ⟨(Lib.decDigits u).toArray⟩) ((putRow (fun (b : UInt8) => Value.int .u8 (b.toNat : Int)) (w.alloc (.cells Lib.zeros24 136)) w.heap.size 0 dk).drewN k) := by
    have h := run_convert_bytes_back (P := Tryz.prog) ((putRow (fun (b : UInt8) => Value.int .u8 (b.toNat : Int)) (w.alloc (.cells Lib.zeros24 136)) w.heap.size 0 dk).drewN k) 30 9 5 ⟨w.heap.size, 0, none⟩ 24 (Lib.decDigits u) Tryz.underlying30 Tryz.underlying5 Tryz.underlying9 (fun j hj => by
      rw [Lib.row_is_numeral hF j hj, Lib.add_plain, World.cell?_drewN]
      exact cell?_putRow (fun (b : UInt8) => Value.int .u8 (b.toNat : Int)) _ w.heap.size 0 _ dk HH0.out (by rw [hF.size, Array.size_replicate]) j (by rw [hF.size]; rw [Lib.decDigits_length] at hj; exact hj))
    rw [Lib.decDigits_length] at h
    exact h
  go_wp2
  go_ret
  obtain ⟨os, eo⟩ := Lib.fin_at w (.cells Lib.zeros24 136) dk k 0
  exact ⟨rfl, by rw [show (putRow (fun (b : UInt8) => Value.int .u8 (b.toNat : Int)) (w.alloc (.cells Lib.zeros24 136)) w.heap.size 0 dk).drewN k = grow (w.drewN k) os from eo]; exact Lib.below_grow _ w (Nat.le_refl _) k os⟩
theorem t_small (u : Nat) (hu : u < 100) : PSpec Tryz.prog 86 [dint .i64 u] [dstr (Lib.decDigits u)] :=
  PSpec.of_raw [.int .i64 u] rfl fun w _ => (show Calls Tryz.prog 86 _ w _ from Any.internal_strconv_small Tryz.lays283 u hu w).mono fun e w' ⟨h1, h2⟩ => ⟨h1, below_of_eq h2⟩
theorem t_formatUint72 (u : Nat) (hu : u < 18446744073709551616) : PSpec Tryz.prog 72 [dint .u64 u, dint .i64 10] [dstr (Lib.decDigits u)] := by
  by_cases h : 100 ≤ u
  · exact PSpec.of_raw [.int .u64 u, .int .i64 10] rfl fun w hG => formatUint_big u h hu w hG.pow10
  · refine PSpec.of_body Tryz.func72 rfl (by kernel_rfl) (Nat.le_of_ble_eq_true rfl) ?_
    simp -implicitDefEqProofs (maxSteps := 10000000) (disch := omega) [dint, dstr]
    refine (t_small u (by omega)).use rfl ?_
    simp -implicitDefEqProofs (maxSteps := 10000000) (disch := omega) [dstr]
    exact Shows.str rfl
theorem t_formatUint (u : Nat) (hu : u < 18446744073709551616) : PSpec Tryz.prog 59 [dint .u64 u, dint .i64 10] [dstr (Lib.decDigits u)] := by
  refine PSpec.of_body Tryz.func59 rfl (by kernel_rfl) (Nat.le_of_ble_eq_true rfl) ?_
  simp -implicitDefEqProofs (maxSteps := 10000000) (disch := omega) [dint, dstr]
  refine (t_formatUint72 u hu).use rfl ?_
  simp -implicitDefEqProofs (maxSteps := 10000000) (disch := omega) [dstr]
  exact Shows.str rfl
end Go.Proofs.YtddngfpgeifffaaGreatDoor
