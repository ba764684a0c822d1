/- A part of the proof: Facts1. -/
import Derived.Test.YtddngfpgeifffaaGreatDoorProg
import Derived.KernelRfl
import Derived.Test.YtddngfpgeifffaaGreatDoorVlSpec
set_option linter.unusedVariables false
set_option linter.unusedSimpArgs false
/- What the evaluator wants to know of the program's types, by program. -/
namespace Go.Proofs.YtddngfpgeifffaaGreatDoor
open Go Go.Proofs.Vl
@[simp] theorem ty_0 : ty Tryz.prog 0 = some (false, 1) := by kernel_rfl
@[simp] theorem zc_0 : zc Tryz.prog 0 = none := by kernel_rfl
@[simp] theorem isConcrete_0 : isConcrete Tryz.prog 0 = true := by kernel_rfl
@[simp] theorem ty_1 : ty Tryz.prog 1 = some (false, 1) := by kernel_rfl
@[simp] theorem zc_1 : zc Tryz.prog 1 = some [Value.nilFunc] := by kernel_rfl
@[simp] theorem isConcrete_1 : isConcrete Tryz.prog 1 = true := by kernel_rfl
@[simp] theorem ty_2 : ty Tryz.prog 2 = some (false, 1) := by kernel_rfl
@[simp] theorem zc_2 : zc Tryz.prog 2 = some [Value.int IntKind.i64 (0)] := by kernel_rfl
@[simp] theorem convI_2 : convI Tryz.prog 2 = some IntKind.i64 := by kernel_rfl
@[simp] theorem isConcrete_2 : isConcrete Tryz.prog 2 = true := by kernel_rfl
@[simp] theorem ty_3 : ty Tryz.prog 3 = some (false, 1) := by kernel_rfl
@[simp] theorem zc_3 : zc Tryz.prog 3 = some [Value.int IntKind.i64 (0)] := by kernel_rfl
@[simp] theorem convI_3 : convI Tryz.prog 3 = some IntKind.i64 := by kernel_rfl
@[simp] theorem isConcrete_3 : isConcrete Tryz.prog 3 = true := by kernel_rfl
@[simp] theorem ty_4 : ty Tryz.prog 4 = some (false, 1) := by kernel_rfl
@[simp] theorem zc_4 : zc Tryz.prog 4 = some [Value.bool false] := by kernel_rfl
@[simp] theorem isConcrete_4 : isConcrete Tryz.prog 4 = true := by kernel_rfl
@[simp] theorem isBoolT_4 : isBoolT Tryz.prog 4 = true := by kernel_rfl
@[simp] theorem ty_5 : ty Tryz.prog 5 = some (false, 1) := by kernel_rfl
@[simp] theorem zc_5 : zc Tryz.prog 5 = some [Value.int IntKind.u8 (0)] := by kernel_rfl
@[simp] theorem convI_5 : convI Tryz.prog 5 = some IntKind.u8 := by kernel_rfl
@[simp] theorem isConcrete_5 : isConcrete Tryz.prog 5 = true := by kernel_rfl
@[simp] theorem ty_6 : ty Tryz.prog 6 = some (false, 1) := by kernel_rfl
@[simp] theorem zc_6 : zc Tryz.prog 6 = some [Value.int IntKind.u8 (0)] := by kernel_rfl
@[simp] theorem convI_6 : convI Tryz.prog 6 = some IntKind.u8 := by kernel_rfl
@[simp] theorem isConcrete_6 : isConcrete Tryz.prog 6 = true := by kernel_rfl
@[simp] theorem ty_7 : ty Tryz.prog 7 = some (true, 4) := by kernel_rfl
@[simp] theorem zc_7 : zc Tryz.prog 7 = some [Value.int IntKind.i64 (0), Value.int IntKind.i64 (0), Value.bool false, Value.int IntKind.u8 (0)] := by kernel_rfl
@[simp] theorem isConcrete_7 : isConcrete Tryz.prog 7 = true := by kernel_rfl
@[simp] theorem places_7 : places Tryz.prog 7 = some [(0, 1), (1, 1), (2, 1), (3, 1)] := by kernel_rfl
@[simp] theorem ty_8 : ty Tryz.prog 8 = some (true, 4) := by kernel_rfl
@[simp] theorem zc_8 : zc Tryz.prog 8 = some [Value.int IntKind.i64 (0), Value.int IntKind.i64 (0), Value.bool false, Value.int IntKind.u8 (0)] := by kernel_rfl
@[simp] theorem isConcrete_8 : isConcrete Tryz.prog 8 = true := by kernel_rfl
@[simp] theorem places_8 : places Tryz.prog 8 = some [(0, 1), (1, 1), (2, 1), (3, 1)] := by kernel_rfl
@[simp] theorem ty_9 : ty Tryz.prog 9 = some (false, 1) := by kernel_rfl
@[simp] theorem zc_9 : zc Tryz.prog 9 = some [Value.string { data := { toList := [] } }] := by kernel_rfl
@[simp] theorem isStr_9 : isStr Tryz.prog 9 = true := by kernel_rfl
@[simp] theorem isConcrete_9 : isConcrete Tryz.prog 9 = true := by kernel_rfl
@[simp] theorem ty_10 : ty Tryz.prog 10 = some (false, 1) := by kernel_rfl
@[simp] theorem zc_10 : zc Tryz.prog 10 = some [Value.string { data := { toList := [] } }] := by kernel_rfl
@[simp] theorem isStr_10 : isStr Tryz.prog 10 = true := by kernel_rfl
@[simp] theorem isConcrete_10 : isConcrete Tryz.prog 10 = true := by kernel_rfl
@[simp] theorem ty_11 : ty Tryz.prog 11 = some (false, 1) := by kernel_rfl
@[simp] theorem zc_11 : zc Tryz.prog 11 = some [Value.string { data := { toList := [] } }] := by kernel_rfl
@[simp] theorem isStr_11 : isStr Tryz.prog 11 = true := by kernel_rfl
@[simp] theorem isConcrete_11 : isConcrete Tryz.prog 11 = true := by kernel_rfl
@[simp] theorem ty_12 : ty Tryz.prog 12 = some (false, 1) := by kernel_rfl
@[simp] theorem zc_12 : zc Tryz.prog 12 = some [Value.int IntKind.u64 (0)] := by kernel_rfl
@[simp] theorem convI_12 : convI Tryz.prog 12 = some IntKind.u64 := by kernel_rfl
@[simp] theorem isConcrete_12 : isConcrete Tryz.prog 12 = true := by kernel_rfl
@[simp] theorem ty_13 : ty Tryz.prog 13 = some (true, 2) := by kernel_rfl
@[simp] theorem zc_13 : zc Tryz.prog 13 = some [Value.string { data := { toList := [] } }, Value.int IntKind.u64 (0)] := by kernel_rfl
@[simp] theorem isConcrete_13 : isConcrete Tryz.prog 13 = true := by kernel_rfl
@[simp] theorem places_13 : places Tryz.prog 13 = some [(0, 1), (1, 1)] := by kernel_rfl
@[simp] theorem ty_14 : ty Tryz.prog 14 = some (true, 2) := by kernel_rfl
@[simp] theorem zc_14 : zc Tryz.prog 14 = some [Value.string { data := { toList := [] } }, Value.int IntKind.u64 (0)] := by kernel_rfl
@[simp] theorem isConcrete_14 : isConcrete Tryz.prog 14 = true := by kernel_rfl
@[simp] theorem places_14 : places Tryz.prog 14 = some [(0, 1), (1, 1)] := by kernel_rfl
@[simp] theorem ty_15 : ty Tryz.prog 15 = some (false, 1) := by kernel_rfl
@[simp] theorem zc_15 : zc Tryz.prog 15 = some [Value.pointer none] := by kernel_rfl
@[simp] theorem isConcrete_15 : isConcrete Tryz.prog 15 = true := by kernel_rfl
@[simp] theorem isPtr_15 : isPtr Tryz.prog 15 = true := by kernel_rfl
@[simp] theorem ty_16 : ty Tryz.prog 16 = some (false, 1) := by kernel_rfl
@[simp] theorem zc_16 : zc Tryz.prog 16 = some [Value.pointer none] := by kernel_rfl
@[simp] theorem isConcrete_16 : isConcrete Tryz.prog 16 = true := by kernel_rfl
@[simp] theorem isPtr_16 : isPtr Tryz.prog 16 = true := by kernel_rfl
@[simp] theorem ty_17 : ty Tryz.prog 17 = some (false, 1) := by kernel_rfl
@[simp] theorem zc_17 : zc Tryz.prog 17 = some [Value.pointer none] := by kernel_rfl
@[simp] theorem isConcrete_17 : isConcrete Tryz.prog 17 = true := by kernel_rfl
@[simp] theorem isPtr_17 : isPtr Tryz.prog 17 = true := by kernel_rfl
@[simp] theorem ty_18 : ty Tryz.prog 18 = some (true, 1) := by kernel_rfl
@[simp] theorem zc_18 : zc Tryz.prog 18 = some [Value.pointer none] := by kernel_rfl
@[simp] theorem isConcrete_18 : isConcrete Tryz.prog 18 = true := by kernel_rfl
@[simp] theorem places_18 : places Tryz.prog 18 = some [(0, 1)] := by kernel_rfl
@[simp] theorem ty_19 : ty Tryz.prog 19 = some (true, 1) := by kernel_rfl
@[simp] theorem zc_19 : zc Tryz.prog 19 = some [Value.pointer none] := by kernel_rfl
@[simp] theorem isConcrete_19 : isConcrete Tryz.prog 19 = true := by kernel_rfl
@[simp] theorem places_19 : places Tryz.prog 19 = some [(0, 1)] := by kernel_rfl
@[simp] theorem ty_20 : ty Tryz.prog 20 = some (false, 1) := by kernel_rfl
@[simp] theorem zc_20 : zc Tryz.prog 20 = some [Value.nilIface] := by kernel_rfl
@[simp] theorem isConcrete_20 : isConcrete Tryz.prog 20 = false := by kernel_rfl
@[simp] theorem isIface_20 : isIface Tryz.prog 20 = true := by kernel_rfl
@[simp] theorem ty_21 : ty Tryz.prog 21 = some (false, 1) := by kernel_rfl
@[simp] theorem zc_21 : zc Tryz.prog 21 = some [Value.int IntKind.i32 (0)] := by kernel_rfl
@[simp] theorem convI_21 : convI Tryz.prog 21 = some IntKind.i32 := by kernel_rfl
@[simp] theorem isConcrete_21 : isConcrete Tryz.prog 21 = true := by kernel_rfl
@[simp] theorem ty_22 : ty Tryz.prog 22 = some (false, 1) := by kernel_rfl
@[simp] theorem zc_22 : zc Tryz.prog 22 = some [Value.slice none 0 0] := by kernel_rfl
@[simp] theorem rowInfo_22 : rowInfo Tryz.prog 22 = some (9, 1, 16, [Value.string { data := { toList := [] } }]) := by kernel_rfl
@[simp] theorem isConcrete_22 : isConcrete Tryz.prog 22 = true := by kernel_rfl
@[simp] theorem ty_23 : ty Tryz.prog 23 = some (false, 1) := by kernel_rfl
@[simp] theorem zc_23 : zc Tryz.prog 23 = some [Value.int IntKind.u32 (0)] := by kernel_rfl
@[simp] theorem convI_23 : convI Tryz.prog 23 = some IntKind.u32 := by kernel_rfl
@[simp] theorem isConcrete_23 : isConcrete Tryz.prog 23 = true := by kernel_rfl
@[simp] theorem ty_24 : ty Tryz.prog 24 = some (false, 1) := by kernel_rfl
@[simp] theorem zc_24 : zc Tryz.prog 24 = some [Value.nilFunc] := by kernel_rfl
@[simp] theorem isConcrete_24 : isConcrete Tryz.prog 24 = true := by kernel_rfl
@[simp] theorem ty_25 : ty Tryz.prog 25 = some (false, 1) := by kernel_rfl
@[simp] theorem zc_25 : zc Tryz.prog 25 = some [Value.nilFunc] := by kernel_rfl
@[simp] theorem isConcrete_25 : isConcrete Tryz.prog 25 = true := by kernel_rfl
@[simp] theorem ty_26 : ty Tryz.prog 26 = some (false, 1) := by kernel_rfl
@[simp] theorem zc_26 : zc Tryz.prog 26 = some [Value.slice none 0 0] := by kernel_rfl
@[simp] theorem rowInfo_26 : rowInfo Tryz.prog 26 = some (56, 4, 40, [Value.int IntKind.u32 (0), Value.int IntKind.i64 (0), Value.int IntKind.i64 (0), Value.string { data := { toList := [] } }]) := by kernel_rfl
@[simp] theorem isConcrete_26 : isConcrete Tryz.prog 26 = true := by kernel_rfl
@[simp] theorem ty_27 : ty Tryz.prog 27 = some (false, 1) := by kernel_rfl
@[simp] theorem zc_27 : zc Tryz.prog 27 = some [Value.nilFunc] := by kernel_rfl
@[simp] theorem isConcrete_27 : isConcrete Tryz.prog 27 = true := by kernel_rfl
@[simp] theorem ty_28 : ty Tryz.prog 28 = some (false, 1) := by kernel_rfl
@[simp] theorem zc_28 : zc Tryz.prog 28 = some [Value.slice none 0 0] := by kernel_rfl
@[simp] theorem rowInfo_28 : rowInfo Tryz.prog 28 = some (23, 1, 4, [Value.int IntKind.u32 (0)]) := by kernel_rfl
@[simp] theorem isConcrete_28 : isConcrete Tryz.prog 28 = true := by kernel_rfl
@[simp] theorem ty_29 : ty Tryz.prog 29 = some (false, 1) := by kernel_rfl
@[simp] theorem zc_29 : zc Tryz.prog 29 = some [Value.nilFunc] := by kernel_rfl
@[simp] theorem isConcrete_29 : isConcrete Tryz.prog 29 = true := by kernel_rfl
@[simp] theorem ty_30 : ty Tryz.prog 30 = some (false, 1) := by kernel_rfl
@[simp] theorem zc_30 : zc Tryz.prog 30 = some [Value.slice none 0 0] := by kernel_rfl
@[simp] theorem rowInfo_30 : rowInfo Tryz.prog 30 = some (5, 1, 1, [Value.int IntKind.u8 (0)]) := by kernel_rfl
@[simp] theorem isBytes_30 : isBytes Tryz.prog 30 = true := by kernel_rfl
@[simp] theorem isConcrete_30 : isConcrete Tryz.prog 30 = true := by kernel_rfl
@[simp] theorem ty_31 : ty Tryz.prog 31 = some (false, 1) := by kernel_rfl
@[simp] theorem zc_31 : zc Tryz.prog 31 = some [Value.int IntKind.i64 (0)] := by kernel_rfl
@[simp] theorem convI_31 : convI Tryz.prog 31 = some IntKind.i64 := by kernel_rfl
@[simp] theorem isConcrete_31 : isConcrete Tryz.prog 31 = true := by kernel_rfl
@[simp] theorem ty_32 : ty Tryz.prog 32 = some (false, 1) := by kernel_rfl
@[simp] theorem zc_32 : zc Tryz.prog 32 = none := by kernel_rfl
@[simp] theorem isConcrete_32 : isConcrete Tryz.prog 32 = true := by kernel_rfl
@[simp] theorem ty_33 : ty Tryz.prog 33 = some (false, 1) := by kernel_rfl
@[simp] theorem zc_33 : zc Tryz.prog 33 = some [Value.nilFunc] := by kernel_rfl
@[simp] theorem isConcrete_33 : isConcrete Tryz.prog 33 = true := by kernel_rfl
@[simp] theorem ty_34 : ty Tryz.prog 34 = some (true, 3) := by kernel_rfl
@[simp] theorem zc_34 : zc Tryz.prog 34 = some [Value.string { data := { toList := [] } }, Value.int IntKind.i64 (0), Value.int IntKind.i64 (0)] := by kernel_rfl
@[simp] theorem isConcrete_34 : isConcrete Tryz.prog 34 = true := by kernel_rfl
@[simp] theorem places_34 : places Tryz.prog 34 = some [(0, 1), (1, 1), (2, 1)] := by kernel_rfl
@[simp] theorem eqKinds_34 : eqKinds Tryz.prog 34 = some [(0, true), (1, false), (2, false)] := by kernel_rfl
@[simp] theorem ty_35 : ty Tryz.prog 35 = some (true, 3) := by kernel_rfl
@[simp] theorem zc_35 : zc Tryz.prog 35 = some [Value.string { data := { toList := [] } }, Value.int IntKind.i64 (0), Value.int IntKind.i64 (0)] := by kernel_rfl
@[simp] theorem isConcrete_35 : isConcrete Tryz.prog 35 = true := by kernel_rfl
@[simp] theorem places_35 : places Tryz.prog 35 = some [(0, 1), (1, 1), (2, 1)] := by kernel_rfl
@[simp] theorem eqKinds_35 : eqKinds Tryz.prog 35 = some [(0, true), (1, false), (2, false)] := by kernel_rfl
@[simp] theorem ty_36 : ty Tryz.prog 36 = some (false, 1) := by kernel_rfl
@[simp] theorem zc_36 : zc Tryz.prog 36 = some [Value.nilFunc] := by kernel_rfl
@[simp] theorem isConcrete_36 : isConcrete Tryz.prog 36 = true := by kernel_rfl
@[simp] theorem ty_37 : ty Tryz.prog 37 = some (false, 1) := by kernel_rfl
@[simp] theorem zc_37 : zc Tryz.prog 37 = some [Value.nilFunc] := by kernel_rfl
@[simp] theorem isConcrete_37 : isConcrete Tryz.prog 37 = true := by kernel_rfl
@[simp] theorem ty_38 : ty Tryz.prog 38 = some (false, 1) := by kernel_rfl
@[simp] theorem zc_38 : zc Tryz.prog 38 = some [Value.slice none 0 0] := by kernel_rfl
@[simp] theorem rowInfo_38 : rowInfo Tryz.prog 38 = some (73, 1, 2, [Value.int IntKind.u16 (0)]) := by kernel_rfl
@[simp] theorem isConcrete_38 : isConcrete Tryz.prog 38 = true := by kernel_rfl
@[simp] theorem ty_39 : ty Tryz.prog 39 = some (false, 1) := by kernel_rfl
@[simp] theorem zc_39 : zc Tryz.prog 39 = some [Value.slice none 0 0] := by kernel_rfl
@[simp] theorem rowInfo_39 : rowInfo Tryz.prog 39 = some (3, 1, 8, [Value.int IntKind.i64 (0)]) := by kernel_rfl
@[simp] theorem isConcrete_39 : isConcrete Tryz.prog 39 = true := by kernel_rfl
@[simp] theorem ty_40 : ty Tryz.prog 40 = some (false, 1) := by kernel_rfl
@[simp] theorem zc_40 : zc Tryz.prog 40 = some [Value.map none] := by kernel_rfl
@[simp] theorem isConcrete_40 : isConcrete Tryz.prog 40 = true := by kernel_rfl
@[simp] theorem mapInfo_40 : mapInfo Tryz.prog 40 = some (some IntKind.i64, Value.bool false) := by kernel_rfl
@[simp] theorem ty_41 : ty Tryz.prog 41 = some (false, 1) := by kernel_rfl
@[simp] theorem zc_41 : zc Tryz.prog 41 = some [Value.nilFunc] := by kernel_rfl
@[simp] theorem isConcrete_41 : isConcrete Tryz.prog 41 = true := by kernel_rfl
@[simp] theorem ty_42 : ty Tryz.prog 42 = some (false, 1) := by kernel_rfl
@[simp] theorem zc_42 : zc Tryz.prog 42 = some [Value.nilFunc] := by kernel_rfl
@[simp] theorem isConcrete_42 : isConcrete Tryz.prog 42 = true := by kernel_rfl
@[simp] theorem ty_43 : ty Tryz.prog 43 = some (false, 1) := by kernel_rfl
@[simp] theorem zc_43 : zc Tryz.prog 43 = none := by kernel_rfl
@[simp] theorem isConcrete_43 : isConcrete Tryz.prog 43 = true := by kernel_rfl
@[simp] theorem ty_44 : ty Tryz.prog 44 = some (false, 1) := by kernel_rfl
@[simp] theorem zc_44 : zc Tryz.prog 44 = some [Value.nilFunc] := by kernel_rfl
@[simp] theorem isConcrete_44 : isConcrete Tryz.prog 44 = true := by kernel_rfl
@[simp] theorem ty_45 : ty Tryz.prog 45 = some (false, 1) := by kernel_rfl
@[simp] theorem zc_45 : zc Tryz.prog 45 = some [Value.nilFunc] := by kernel_rfl
@[simp] theorem isConcrete_45 : isConcrete Tryz.prog 45 = true := by kernel_rfl
@[simp] theorem ty_46 : ty Tryz.prog 46 = some (false, 1) := by kernel_rfl
@[simp] theorem zc_46 : zc Tryz.prog 46 = some [Value.nilFunc] := by kernel_rfl
@[simp] theorem isConcrete_46 : isConcrete Tryz.prog 46 = true := by kernel_rfl
@[simp] theorem ty_47 : ty Tryz.prog 47 = some (true, 2) := by kernel_rfl
@[simp] theorem zc_47 : zc Tryz.prog 47 = some [Value.int IntKind.i64 (0), Value.string { data := { toList := [] } }] := by kernel_rfl
@[simp] theorem isConcrete_47 : isConcrete Tryz.prog 47 = true := by kernel_rfl
@[simp] theorem places_47 : places Tryz.prog 47 = some [(0, 1), (1, 1)] := by kernel_rfl
@[simp] theorem eqKinds_47 : eqKinds Tryz.prog 47 = some [(0, false), (1, true)] := by kernel_rfl
@[simp] theorem ty_48 : ty Tryz.prog 48 = some (true, 2) := by kernel_rfl
@[simp] theorem zc_48 : zc Tryz.prog 48 = some [Value.int IntKind.i64 (0), Value.string { data := { toList := [] } }] := by kernel_rfl
@[simp] theorem isConcrete_48 : isConcrete Tryz.prog 48 = true := by kernel_rfl
@[simp] theorem places_48 : places Tryz.prog 48 = some [(0, 1), (1, 1)] := by kernel_rfl
@[simp] theorem eqKinds_48 : eqKinds Tryz.prog 48 = some [(0, false), (1, true)] := by kernel_rfl
@[simp] theorem ty_49 : ty Tryz.prog 49 = some (false, 1) := by kernel_rfl
@[simp] theorem zc_49 : zc Tryz.prog 49 = some [Value.slice none 0 0] := by kernel_rfl
@[simp] theorem rowInfo_49 : rowInfo Tryz.prog 49 = some (48, 2, 24, [Value.int IntKind.i64 (0), Value.string { data := { toList := [] } }]) := by kernel_rfl
@[simp] theorem isConcrete_49 : isConcrete Tryz.prog 49 = true := by kernel_rfl
@[simp] theorem ty_50 : ty Tryz.prog 50 = some (false, 1) := by kernel_rfl
@[simp] theorem zc_50 : zc Tryz.prog 50 = some [Value.nilFunc] := by kernel_rfl
@[simp] theorem isConcrete_50 : isConcrete Tryz.prog 50 = true := by kernel_rfl
@[simp] theorem ty_51 : ty Tryz.prog 51 = some (false, 1) := by kernel_rfl
@[simp] theorem zc_51 : zc Tryz.prog 51 = some [Value.nilFunc] := by kernel_rfl
@[simp] theorem isConcrete_51 : isConcrete Tryz.prog 51 = true := by kernel_rfl
@[simp] theorem ty_52 : ty Tryz.prog 52 = some (false, 1) := by kernel_rfl
@[simp] theorem zc_52 : zc Tryz.prog 52 = some [Value.nilFunc] := by kernel_rfl
@[simp] theorem isConcrete_52 : isConcrete Tryz.prog 52 = true := by kernel_rfl
@[simp] theorem ty_53 : ty Tryz.prog 53 = some (false, 1) := by kernel_rfl
@[simp] theorem zc_53 : zc Tryz.prog 53 = some [Value.nilFunc] := by kernel_rfl
@[simp] theorem isConcrete_53 : isConcrete Tryz.prog 53 = true := by kernel_rfl
@[simp] theorem ty_54 : ty Tryz.prog 54 = some (false, 1) := by kernel_rfl
@[simp] theorem zc_54 : zc Tryz.prog 54 = some [Value.nilFunc] := by kernel_rfl
@[simp] theorem isConcrete_54 : isConcrete Tryz.prog 54 = true := by kernel_rfl
@[simp] theorem ty_55 : ty Tryz.prog 55 = some (true, 4) := by kernel_rfl
@[simp] theorem zc_55 : zc Tryz.prog 55 = some [Value.int IntKind.u32 (0), Value.int IntKind.i64 (0), Value.int IntKind.i64 (0), Value.string { data := { toList := [] } }] := by kernel_rfl
@[simp] theorem isConcrete_55 : isConcrete Tryz.prog 55 = true := by kernel_rfl
@[simp] theorem places_55 : places Tryz.prog 55 = some [(0, 1), (1, 1), (2, 1), (3, 1)] := by kernel_rfl
@[simp] theorem eqKinds_55 : eqKinds Tryz.prog 55 = some [(0, false), (1, false), (2, false), (3, true)] := by kernel_rfl
@[simp] theorem ty_56 : ty Tryz.prog 56 = some (true, 4) := by kernel_rfl
@[simp] theorem zc_56 : zc Tryz.prog 56 = some [Value.int IntKind.u32 (0), Value.int IntKind.i64 (0), Value.int IntKind.i64 (0), Value.string { data := { toList := [] } }] := by kernel_rfl
@[simp] theorem isConcrete_56 : isConcrete Tryz.prog 56 = true := by kernel_rfl
@[simp] theorem places_56 : places Tryz.prog 56 = some [(0, 1), (1, 1), (2, 1), (3, 1)] := by kernel_rfl
@[simp] theorem eqKinds_56 : eqKinds Tryz.prog 56 = some [(0, false), (1, false), (2, false), (3, true)] := by kernel_rfl
@[simp] theorem ty_57 : ty Tryz.prog 57 = some (false, 1) := by kernel_rfl
@[simp] theorem zc_57 : zc Tryz.prog 57 = some [Value.nilFunc] := by kernel_rfl
@[simp] theorem isConcrete_57 : isConcrete Tryz.prog 57 = true := by kernel_rfl
@[simp] theorem ty_58 : ty Tryz.prog 58 = some (false, 1) := by kernel_rfl
@[simp] theorem zc_58 : zc Tryz.prog 58 = none := by kernel_rfl
@[simp] theorem isConcrete_58 : isConcrete Tryz.prog 58 = true := by kernel_rfl
@[simp] theorem ty_59 : ty Tryz.prog 59 = some (false, 1) := by kernel_rfl
@[simp] theorem zc_59 : zc Tryz.prog 59 = some [Value.nilFunc] := by kernel_rfl
@[simp] theorem isConcrete_59 : isConcrete Tryz.prog 59 = true := by kernel_rfl
@[simp] theorem ty_60 : ty Tryz.prog 60 = some (false, 1) := by kernel_rfl
@[simp] theorem zc_60 : zc Tryz.prog 60 = some [Value.slice none 0 0] := by kernel_rfl
@[simp] theorem rowInfo_60 : rowInfo Tryz.prog 60 = some (26, 1, 24, [Value.slice none 0 0]) := by kernel_rfl
@[simp] theorem isConcrete_60 : isConcrete Tryz.prog 60 = true := by kernel_rfl
@[simp] theorem ty_61 : ty Tryz.prog 61 = some (false, 1) := by kernel_rfl
@[simp] theorem zc_61 : zc Tryz.prog 61 = some [Value.nilFunc] := by kernel_rfl
@[simp] theorem isConcrete_61 : isConcrete Tryz.prog 61 = true := by kernel_rfl
@[simp] theorem ty_62 : ty Tryz.prog 62 = some (false, 1) := by kernel_rfl
@[simp] theorem zc_62 : zc Tryz.prog 62 = some [Value.pointer none] := by kernel_rfl
@[simp] theorem isConcrete_62 : isConcrete Tryz.prog 62 = true := by kernel_rfl
@[simp] theorem isPtr_62 : isPtr Tryz.prog 62 = true := by kernel_rfl
@[simp] theorem ty_63 : ty Tryz.prog 63 = some (true, 2) := by kernel_rfl
@[simp] theorem zc_63 : zc Tryz.prog 63 = some [Value.pointer none, Value.slice none 0 0] := by kernel_rfl
@[simp] theorem isConcrete_63 : isConcrete Tryz.prog 63 = true := by kernel_rfl
@[simp] theorem places_63 : places Tryz.prog 63 = some [(0, 1), (1, 1)] := by kernel_rfl
@[simp] theorem ty_64 : ty Tryz.prog 64 = some (true, 2) := by kernel_rfl
@[simp] theorem zc_64 : zc Tryz.prog 64 = some [Value.pointer none, Value.slice none 0 0] := by kernel_rfl
@[simp] theorem isConcrete_64 : isConcrete Tryz.prog 64 = true := by kernel_rfl
@[simp] theorem places_64 : places Tryz.prog 64 = some [(0, 1), (1, 1)] := by kernel_rfl
@[simp] theorem ty_65 : ty Tryz.prog 65 = some (false, 1) := by kernel_rfl
@[simp] theorem zc_65 : zc Tryz.prog 65 = none := by kernel_rfl
@[simp] theorem isConcrete_65 : isConcrete Tryz.prog 65 = true := by kernel_rfl
@[simp] theorem ty_66 : ty Tryz.prog 66 = some (false, 1) := by kernel_rfl
@[simp] theorem zc_66 : zc Tryz.prog 66 = some [Value.nilFunc] := by kernel_rfl
@[simp] theorem isConcrete_66 : isConcrete Tryz.prog 66 = true := by kernel_rfl
@[simp] theorem ty_67 : ty Tryz.prog 67 = some (false, 1) := by kernel_rfl
@[simp] theorem zc_67 : zc Tryz.prog 67 = some [Value.nilIface] := by kernel_rfl
@[simp] theorem isConcrete_67 : isConcrete Tryz.prog 67 = false := by kernel_rfl
@[simp] theorem isIface_67 : isIface Tryz.prog 67 = true := by kernel_rfl
@[simp] theorem ty_68 : ty Tryz.prog 68 = some (false, 1) := by kernel_rfl
@[simp] theorem zc_68 : zc Tryz.prog 68 = some [Value.nilIface] := by kernel_rfl
@[simp] theorem isConcrete_68 : isConcrete Tryz.prog 68 = false := by kernel_rfl
@[simp] theorem isIface_68 : isIface Tryz.prog 68 = true := by kernel_rfl
@[simp] theorem ty_69 : ty Tryz.prog 69 = some (false, 1) := by kernel_rfl
@[simp] theorem zc_69 : zc Tryz.prog 69 = none := by kernel_rfl
@[simp] theorem isConcrete_69 : isConcrete Tryz.prog 69 = true := by kernel_rfl
@[simp] theorem ty_70 : ty Tryz.prog 70 = some (false, 1) := by kernel_rfl
@[simp] theorem zc_70 : zc Tryz.prog 70 = some [Value.nilFunc] := by kernel_rfl
@[simp] theorem isConcrete_70 : isConcrete Tryz.prog 70 = true := by kernel_rfl
@[simp] theorem ty_71 : ty Tryz.prog 71 = some (false, 1) := by kernel_rfl
@[simp] theorem zc_71 : zc Tryz.prog 71 = some [Value.nilFunc] := by kernel_rfl
@[simp] theorem isConcrete_71 : isConcrete Tryz.prog 71 = true := by kernel_rfl
@[simp] theorem ty_72 : ty Tryz.prog 72 = some (false, 1) := by kernel_rfl
@[simp] theorem zc_72 : zc Tryz.prog 72 = some [Value.nilFunc] := by kernel_rfl
@[simp] theorem isConcrete_72 : isConcrete Tryz.prog 72 = true := by kernel_rfl
@[simp] theorem ty_73 : ty Tryz.prog 73 = some (false, 1) := by kernel_rfl
@[simp] theorem zc_73 : zc Tryz.prog 73 = some [Value.int IntKind.u16 (0)] := by kernel_rfl
@[simp] theorem convI_73 : convI Tryz.prog 73 = some IntKind.u16 := by kernel_rfl
@[simp] theorem isConcrete_73 : isConcrete Tryz.prog 73 = true := by kernel_rfl
@[simp] theorem ty_74 : ty Tryz.prog 74 = some (false, 1) := by kernel_rfl
@[simp] theorem zc_74 : zc Tryz.prog 74 = some [Value.map none] := by kernel_rfl
@[simp] theorem isConcrete_74 : isConcrete Tryz.prog 74 = true := by kernel_rfl
@[simp] theorem mapInfo_74 : mapInfo Tryz.prog 74 = some (some IntKind.i64, Value.string { data := { toList := [] } }) := by kernel_rfl
@[simp] theorem ty_75 : ty Tryz.prog 75 = some (false, 1) := by kernel_rfl
@[simp] theorem zc_75 : zc Tryz.prog 75 = none := by kernel_rfl
@[simp] theorem isConcrete_75 : isConcrete Tryz.prog 75 = true := by kernel_rfl
@[simp] theorem ty_76 : ty Tryz.prog 76 = some (false, 1) := by kernel_rfl
@[simp] theorem zc_76 : zc Tryz.prog 76 = some [Value.int IntKind.u64 (0)] := by kernel_rfl
@[simp] theorem convI_76 : convI Tryz.prog 76 = some IntKind.u64 := by kernel_rfl
@[simp] theorem isConcrete_76 : isConcrete Tryz.prog 76 = true := by kernel_rfl
@[simp] theorem ty_77 : ty Tryz.prog 77 = some (false, 1) := by kernel_rfl
@[simp] theorem zc_77 : zc Tryz.prog 77 = none := by kernel_rfl
@[simp] theorem isConcrete_77 : isConcrete Tryz.prog 77 = true := by kernel_rfl
@[simp] theorem ty_78 : ty Tryz.prog 78 = some (false, 1) := by kernel_rfl
@[simp] theorem zc_78 : zc Tryz.prog 78 = some [Value.nilFunc] := by kernel_rfl
@[simp] theorem isConcrete_78 : isConcrete Tryz.prog 78 = true := by kernel_rfl
@[simp] theorem ty_79 : ty Tryz.prog 79 = some (false, 1) := by kernel_rfl
@[simp] theorem zc_79 : zc Tryz.prog 79 = some [Value.nilFunc] := by kernel_rfl
@[simp] theorem isConcrete_79 : isConcrete Tryz.prog 79 = true := by kernel_rfl
@[simp] theorem ty_80 : ty Tryz.prog 80 = some (false, 1) := by kernel_rfl
@[simp] theorem zc_80 : zc Tryz.prog 80 = some [Value.nilFunc] := by kernel_rfl
@[simp] theorem isConcrete_80 : isConcrete Tryz.prog 80 = true := by kernel_rfl
@[simp] theorem ty_81 : ty Tryz.prog 81 = some (false, 1) := by kernel_rfl
@[simp] theorem zc_81 : zc Tryz.prog 81 = some [Value.pointer none] := by kernel_rfl
@[simp] theorem isConcrete_81 : isConcrete Tryz.prog 81 = true := by kernel_rfl
@[simp] theorem isPtr_81 : isPtr Tryz.prog 81 = true := by kernel_rfl
@[simp] theorem ty_82 : ty Tryz.prog 82 = some (false, 1) := by kernel_rfl
@[simp] theorem zc_82 : zc Tryz.prog 82 = some [Value.map none] := by kernel_rfl
@[simp] theorem isConcrete_82 : isConcrete Tryz.prog 82 = true := by kernel_rfl
@[simp] theorem mapInfo_82 : mapInfo Tryz.prog 82 = some (some IntKind.u32, Value.nilFunc) := by kernel_rfl
@[simp] theorem ty_83 : ty Tryz.prog 83 = some (false, 1) := by kernel_rfl
@[simp] theorem zc_83 : zc Tryz.prog 83 = some [Value.nilFunc] := by kernel_rfl
@[simp] theorem isConcrete_83 : isConcrete Tryz.prog 83 = true := by kernel_rfl
@[simp] theorem ty_84 : ty Tryz.prog 84 = some (true, 10) := by kernel_rfl
@[simp] theorem zc_84 : zc Tryz.prog 84 = some [Value.slice none 0 0, Value.int IntKind.u32 (0), Value.slice none 0 0, Value.slice none 0 0, Value.slice none 0 0, Value.slice none 0 0, Value.bool false, Value.int IntKind.i64 (0), Value.bool false, Value.map none] := by kernel_rfl
@[simp] theorem isConcrete_84 : isConcrete Tryz.prog 84 = true := by kernel_rfl
@[simp] theorem places_84 : places Tryz.prog 84 = some [(0, 1), (1, 1), (2, 1), (3, 1), (4, 1), (5, 1), (6, 1), (7, 1), (8, 1), (9, 1)] := by kernel_rfl
@[simp] theorem ty_85 : ty Tryz.prog 85 = some (true, 10) := by kernel_rfl
@[simp] theorem zc_85 : zc Tryz.prog 85 = some [Value.slice none 0 0, Value.int IntKind.u32 (0), Value.slice none 0 0, Value.slice none 0 0, Value.slice none 0 0, Value.slice none 0 0, Value.bool false, Value.int IntKind.i64 (0), Value.bool false, Value.map none] := by kernel_rfl
@[simp] theorem isConcrete_85 : isConcrete Tryz.prog 85 = true := by kernel_rfl
@[simp] theorem places_85 : places Tryz.prog 85 = some [(0, 1), (1, 1), (2, 1), (3, 1), (4, 1), (5, 1), (6, 1), (7, 1), (8, 1), (9, 1)] := by kernel_rfl
@[simp] theorem ty_86 : ty Tryz.prog 86 = some (false, 1) := by kernel_rfl
@[simp] theorem zc_86 : zc Tryz.prog 86 = some [Value.nilFunc] := by kernel_rfl
@[simp] theorem isConcrete_86 : isConcrete Tryz.prog 86 = true := by kernel_rfl
@[simp] theorem ty_87 : ty Tryz.prog 87 = some (false, 1) := by kernel_rfl
@[simp] theorem zc_87 : zc Tryz.prog 87 = some [Value.nilFunc] := by kernel_rfl
@[simp] theorem isConcrete_87 : isConcrete Tryz.prog 87 = true := by kernel_rfl
@[simp] theorem ty_88 : ty Tryz.prog 88 = some (false, 1) := by kernel_rfl
@[simp] theorem zc_88 : zc Tryz.prog 88 = none := by kernel_rfl
@[simp] theorem isConcrete_88 : isConcrete Tryz.prog 88 = true := by kernel_rfl
@[simp] theorem ty_89 : ty Tryz.prog 89 = some (false, 1) := by kernel_rfl
@[simp] theorem zc_89 : zc Tryz.prog 89 = some [Value.nilFunc] := by kernel_rfl
@[simp] theorem isConcrete_89 : isConcrete Tryz.prog 89 = true := by kernel_rfl
@[simp] theorem ty_90 : ty Tryz.prog 90 = some (false, 1) := by kernel_rfl
@[simp] theorem zc_90 : zc Tryz.prog 90 = some [Value.nilFunc] := by kernel_rfl
@[simp] theorem isConcrete_90 : isConcrete Tryz.prog 90 = true := by kernel_rfl
@[simp] theorem ty_91 : ty Tryz.prog 91 = some (false, 1) := by kernel_rfl
@[simp] theorem zc_91 : zc Tryz.prog 91 = some [Value.nilFunc] := by kernel_rfl
@[simp] theorem isConcrete_91 : isConcrete Tryz.prog 91 = true := by kernel_rfl
@[simp] theorem ty_92 : ty Tryz.prog 92 = some (false, 1) := by kernel_rfl
@[simp] theorem zc_92 : zc Tryz.prog 92 = some [Value.nilFunc] := by kernel_rfl
@[simp] theorem isConcrete_92 : isConcrete Tryz.prog 92 = true := by kernel_rfl
@[simp] theorem ty_93 : ty Tryz.prog 93 = some (false, 1) := by kernel_rfl
@[simp] theorem zc_93 : zc Tryz.prog 93 = some [Value.nilFunc] := by kernel_rfl
@[simp] theorem isConcrete_93 : isConcrete Tryz.prog 93 = true := by kernel_rfl
@[simp] theorem ty_94 : ty Tryz.prog 94 = some (false, 1) := by kernel_rfl
@[simp] theorem zc_94 : zc Tryz.prog 94 = none := by kernel_rfl
@[simp] theorem isConcrete_94 : isConcrete Tryz.prog 94 = true := by kernel_rfl
@[simp] theorem ty_95 : ty Tryz.prog 95 = some (false, 1) := by kernel_rfl
@[simp] theorem zc_95 : zc Tryz.prog 95 = some [Value.nilFunc] := by kernel_rfl
@[simp] theorem isConcrete_95 : isConcrete Tryz.prog 95 = true := by kernel_rfl
@[simp] theorem ty_96 : ty Tryz.prog 96 = some (false, 1) := by kernel_rfl
@[simp] theorem zc_96 : zc Tryz.prog 96 = some [Value.int IntKind.u64 (0)] := by kernel_rfl
@[simp] theorem convI_96 : convI Tryz.prog 96 = some IntKind.u64 := by kernel_rfl
@[simp] theorem isConcrete_96 : isConcrete Tryz.prog 96 = true := by kernel_rfl
@[simp] theorem ty_97 : ty Tryz.prog 97 = some (false, 1) := by kernel_rfl
@[simp] theorem zc_97 : zc Tryz.prog 97 = some [Value.nilFunc] := by kernel_rfl
@[simp] theorem isConcrete_97 : isConcrete Tryz.prog 97 = true := by kernel_rfl
@[simp] theorem ty_98 : ty Tryz.prog 98 = some (false, 1) := by kernel_rfl
@[simp] theorem zc_98 : zc Tryz.prog 98 = some [Value.pointer none] := by kernel_rfl
@[simp] theorem isConcrete_98 : isConcrete Tryz.prog 98 = true := by kernel_rfl
@[simp] theorem isPtr_98 : isPtr Tryz.prog 98 = true := by kernel_rfl
@[simp] theorem ty_99 : ty Tryz.prog 99 = some (false, 1) := by kernel_rfl
@[simp] theorem zc_99 : zc Tryz.prog 99 = none := by kernel_rfl
@[simp] theorem isConcrete_99 : isConcrete Tryz.prog 99 = true := by kernel_rfl
@[simp] theorem ty_100 : ty Tryz.prog 100 = some (false, 1) := by kernel_rfl
@[simp] theorem zc_100 : zc Tryz.prog 100 = some [Value.nilFunc] := by kernel_rfl
@[simp] theorem isConcrete_100 : isConcrete Tryz.prog 100 = true := by kernel_rfl
@[simp] theorem ty_101 : ty Tryz.prog 101 = some (false, 1) := by kernel_rfl
@[simp] theorem zc_101 : zc Tryz.prog 101 = none := by kernel_rfl
@[simp] theorem isConcrete_101 : isConcrete Tryz.prog 101 = true := by kernel_rfl
@[simp] theorem ty_102 : ty Tryz.prog 102 = some (false, 1) := by kernel_rfl
@[simp] theorem zc_102 : zc Tryz.prog 102 = some [Value.nilFunc] := by kernel_rfl
@[simp] theorem isConcrete_102 : isConcrete Tryz.prog 102 = true := by kernel_rfl
@[simp] theorem ty_103 : ty Tryz.prog 103 = some (false, 1) := by kernel_rfl
@[simp] theorem zc_103 : zc Tryz.prog 103 = some [Value.nilFunc] := by kernel_rfl
@[simp] theorem isConcrete_103 : isConcrete Tryz.prog 103 = true := by kernel_rfl
@[simp] theorem ty_104 : ty Tryz.prog 104 = some (false, 1) := by kernel_rfl
@[simp] theorem zc_104 : zc Tryz.prog 104 = some [Value.nilFunc] := by kernel_rfl
@[simp] theorem isConcrete_104 : isConcrete Tryz.prog 104 = true := by kernel_rfl
@[simp] theorem ty_105 : ty Tryz.prog 105 = some (true, 0) := by kernel_rfl
@[simp] theorem zc_105 : zc Tryz.prog 105 = some [] := by kernel_rfl
@[simp] theorem isConcrete_105 : isConcrete Tryz.prog 105 = true := by kernel_rfl
@[simp] theorem places_105 : places Tryz.prog 105 = some [] := by kernel_rfl
@[simp] theorem eqKinds_105 : eqKinds Tryz.prog 105 = some [] := by kernel_rfl
@[simp] theorem ty_106 : ty Tryz.prog 106 = some (true, 0) := by kernel_rfl
@[simp] theorem zc_106 : zc Tryz.prog 106 = some [] := by kernel_rfl
@[simp] theorem isConcrete_106 : isConcrete Tryz.prog 106 = true := by kernel_rfl
@[simp] theorem places_106 : places Tryz.prog 106 = some [] := by kernel_rfl
@[simp] theorem eqKinds_106 : eqKinds Tryz.prog 106 = some [] := by kernel_rfl
@[simp] theorem ty_107 : ty Tryz.prog 107 = some (false, 1) := by kernel_rfl
@[simp] theorem zc_107 : zc Tryz.prog 107 = none := by kernel_rfl
@[simp] theorem isConcrete_107 : isConcrete Tryz.prog 107 = true := by kernel_rfl
@[simp] theorem ty_108 : ty Tryz.prog 108 = some (false, 1) := by kernel_rfl
@[simp] theorem zc_108 : zc Tryz.prog 108 = some [Value.nilFunc] := by kernel_rfl
@[simp] theorem isConcrete_108 : isConcrete Tryz.prog 108 = true := by kernel_rfl
@[simp] theorem ty_109 : ty Tryz.prog 109 = some (false, 1) := by kernel_rfl
@[simp] theorem zc_109 : zc Tryz.prog 109 = some [Value.nilFunc] := by kernel_rfl
@[simp] theorem isConcrete_109 : isConcrete Tryz.prog 109 = true := by kernel_rfl
@[simp] theorem ty_110 : ty Tryz.prog 110 = some (false, 1) := by kernel_rfl
@[simp] theorem zc_110 : zc Tryz.prog 110 = some [Value.nilFunc] := by kernel_rfl
@[simp] theorem isConcrete_110 : isConcrete Tryz.prog 110 = true := by kernel_rfl
@[simp] theorem ty_111 : ty Tryz.prog 111 = some (false, 1) := by kernel_rfl
@[simp] theorem zc_111 : zc Tryz.prog 111 = some [Value.nilFunc] := by kernel_rfl
@[simp] theorem isConcrete_111 : isConcrete Tryz.prog 111 = true := by kernel_rfl
@[simp] theorem ty_112 : ty Tryz.prog 112 = some (false, 1) := by kernel_rfl
@[simp] theorem zc_112 : zc Tryz.prog 112 = none := by kernel_rfl
@[simp] theorem isConcrete_112 : isConcrete Tryz.prog 112 = true := by kernel_rfl
@[simp] theorem ty_113 : ty Tryz.prog 113 = some (false, 1) := by kernel_rfl
@[simp] theorem zc_113 : zc Tryz.prog 113 = some [Value.nilFunc] := by kernel_rfl
@[simp] theorem isConcrete_113 : isConcrete Tryz.prog 113 = true := by kernel_rfl
@[simp] theorem ty_114 : ty Tryz.prog 114 = some (false, 1) := by kernel_rfl
@[simp] theorem zc_114 : zc Tryz.prog 114 = some [Value.nilFunc] := by kernel_rfl
@[simp] theorem isConcrete_114 : isConcrete Tryz.prog 114 = true := by kernel_rfl
@[simp] theorem ty_115 : ty Tryz.prog 115 = some (false, 1) := by kernel_rfl
@[simp] theorem zc_115 : zc Tryz.prog 115 = none := by kernel_rfl
@[simp] theorem isConcrete_115 : isConcrete Tryz.prog 115 = true := by kernel_rfl
@[simp] theorem ty_116 : ty Tryz.prog 116 = some (false, 1) := by kernel_rfl
@[simp] theorem zc_116 : zc Tryz.prog 116 = some [Value.nilFunc] := by kernel_rfl
@[simp] theorem isConcrete_116 : isConcrete Tryz.prog 116 = true := by kernel_rfl
@[simp] theorem ty_117 : ty Tryz.prog 117 = some (false, 1) := by kernel_rfl
@[simp] theorem zc_117 : zc Tryz.prog 117 = some [Value.nilFunc] := by kernel_rfl
@[simp] theorem isConcrete_117 : isConcrete Tryz.prog 117 = true := by kernel_rfl
@[simp] theorem ty_118 : ty Tryz.prog 118 = some (false, 1) := by kernel_rfl
@[simp] theorem zc_118 : zc Tryz.prog 118 = some [Value.nilFunc] := by kernel_rfl
@[simp] theorem isConcrete_118 : isConcrete Tryz.prog 118 = true := by kernel_rfl
@[simp] theorem ty_119 : ty Tryz.prog 119 = some (false, 1) := by kernel_rfl
@[simp] theorem zc_119 : zc Tryz.prog 119 = some [Value.pointer none] := by kernel_rfl
@[simp] theorem isConcrete_119 : isConcrete Tryz.prog 119 = true := by kernel_rfl
@[simp] theorem ty_120 : ty Tryz.prog 120 = some (false, 1) := by kernel_rfl
@[simp] theorem zc_120 : zc Tryz.prog 120 = some [Value.nilFunc] := by kernel_rfl
@[simp] theorem isConcrete_120 : isConcrete Tryz.prog 120 = true := by kernel_rfl
@[simp] theorem ty_121 : ty Tryz.prog 121 = some (false, 1) := by kernel_rfl
@[simp] theorem zc_121 : zc Tryz.prog 121 = some [Value.nilFunc] := by kernel_rfl
@[simp] theorem isConcrete_121 : isConcrete Tryz.prog 121 = true := by kernel_rfl
@[simp] theorem ty_122 : ty Tryz.prog 122 = some (false, 1) := by kernel_rfl
@[simp] theorem zc_122 : zc Tryz.prog 122 = some [Value.nilFunc] := by kernel_rfl
@[simp] theorem isConcrete_122 : isConcrete Tryz.prog 122 = true := by kernel_rfl
@[simp] theorem ty_123 : ty Tryz.prog 123 = some (false, 1) := by kernel_rfl
@[simp] theorem zc_123 : zc Tryz.prog 123 = none := by kernel_rfl
@[simp] theorem isConcrete_123 : isConcrete Tryz.prog 123 = true := by kernel_rfl
@[simp] theorem ty_124 : ty Tryz.prog 124 = some (false, 1) := by kernel_rfl
@[simp] theorem zc_124 : zc Tryz.prog 124 = some [Value.nilFunc] := by kernel_rfl
@[simp] theorem isConcrete_124 : isConcrete Tryz.prog 124 = true := by kernel_rfl
@[simp] theorem ty_125 : ty Tryz.prog 125 = some (false, 1) := by kernel_rfl
@[simp] theorem zc_125 : zc Tryz.prog 125 = some [Value.nilFunc] := by kernel_rfl
@[simp] theorem isConcrete_125 : isConcrete Tryz.prog 125 = true := by kernel_rfl
@[simp] theorem ty_126 : ty Tryz.prog 126 = some (true, 256) := by kernel_rfl
@[simp] theorem arrInfo_126 : arrInfo Tryz.prog 126 = some (256, 1) := by kernel_rfl
@[simp] theorem isConcrete_126 : isConcrete Tryz.prog 126 = true := by kernel_rfl
@[simp] theorem ty_127 : ty Tryz.prog 127 = some (true, 256) := by kernel_rfl
@[simp] theorem arrInfo_127 : arrInfo Tryz.prog 127 = some (256, 1) := by kernel_rfl
@[simp] theorem isConcrete_127 : isConcrete Tryz.prog 127 = true := by kernel_rfl
@[simp] theorem ty_128 : ty Tryz.prog 128 = some (false, 1) := by kernel_rfl
@[simp] theorem zc_128 : zc Tryz.prog 128 = none := by kernel_rfl
@[simp] theorem isConcrete_128 : isConcrete Tryz.prog 128 = true := by kernel_rfl
@[simp] theorem ty_129 : ty Tryz.prog 129 = some (false, 1) := by kernel_rfl
@[simp] theorem zc_129 : zc Tryz.prog 129 = some [Value.nilFunc] := by kernel_rfl
@[simp] theorem isConcrete_129 : isConcrete Tryz.prog 129 = true := by kernel_rfl
@[simp] theorem ty_130 : ty Tryz.prog 130 = some (false, 1) := by kernel_rfl
@[simp] theorem zc_130 : zc Tryz.prog 130 = some [Value.nilFunc] := by kernel_rfl
@[simp] theorem isConcrete_130 : isConcrete Tryz.prog 130 = true := by kernel_rfl
@[simp] theorem ty_131 : ty Tryz.prog 131 = some (false, 1) := by kernel_rfl
@[simp] theorem zc_131 : zc Tryz.prog 131 = some [Value.pointer none] := by kernel_rfl
@[simp] theorem isConcrete_131 : isConcrete Tryz.prog 131 = true := by kernel_rfl
@[simp] theorem isPtr_131 : isPtr Tryz.prog 131 = true := by kernel_rfl
@[simp] theorem ty_132 : ty Tryz.prog 132 = some (false, 1) := by kernel_rfl
@[simp] theorem zc_132 : zc Tryz.prog 132 = some [Value.nilFunc] := by kernel_rfl
@[simp] theorem isConcrete_132 : isConcrete Tryz.prog 132 = true := by kernel_rfl
@[simp] theorem ty_133 : ty Tryz.prog 133 = some (false, 1) := by kernel_rfl
@[simp] theorem zc_133 : zc Tryz.prog 133 = some [Value.nilFunc] := by kernel_rfl
@[simp] theorem isConcrete_133 : isConcrete Tryz.prog 133 = true := by kernel_rfl
@[simp] theorem ty_134 : ty Tryz.prog 134 = some (false, 1) := by kernel_rfl
@[simp] theorem zc_134 : zc Tryz.prog 134 = some [Value.nilFunc] := by kernel_rfl
@[simp] theorem isConcrete_134 : isConcrete Tryz.prog 134 = true := by kernel_rfl
@[simp] theorem ty_135 : ty Tryz.prog 135 = some (false, 1) := by kernel_rfl
@[simp] theorem zc_135 : zc Tryz.prog 135 = some [Value.nilFunc] := by kernel_rfl
@[simp] theorem isConcrete_135 : isConcrete Tryz.prog 135 = true := by kernel_rfl
@[simp] theorem ty_136 : ty Tryz.prog 136 = some (true, 24) := by kernel_rfl
@[simp] theorem zc_136 : zc Tryz.prog 136 = some [Value.int IntKind.u8 (0), Value.int IntKind.u8 (0), Value.int IntKind.u8 (0), Value.int IntKind.u8 (0), Value.int IntKind.u8 (0), Value.int IntKind.u8 (0), Value.int IntKind.u8 (0), Value.int IntKind.u8 (0), Value.int IntKind.u8 (0), Value.int IntKind.u8 (0), Value.int IntKind.u8 (0), Value.int IntKind.u8 (0), Value.int IntKind.u8 (0), Value.int IntKind.u8 (0), Value.int IntKind.u8 (0), Value.int IntKind.u8 (0), Value.int IntKind.u8 (0), Value.int IntKind.u8 (0), Value.int IntKind.u8 (0), Value.int IntKind.u8 (0), Value.int IntKind.u8 (0), Value.int IntKind.u8 (0), Value.int IntKind.u8 (0), Value.int IntKind.u8 (0)] := by kernel_rfl
@[simp] theorem arrInfo_136 : arrInfo Tryz.prog 136 = some (24, 1) := by kernel_rfl
@[simp] theorem isConcrete_136 : isConcrete Tryz.prog 136 = true := by kernel_rfl
@[simp] theorem ty_137 : ty Tryz.prog 137 = some (false, 1) := by kernel_rfl
@[simp] theorem zc_137 : zc Tryz.prog 137 = some [Value.nilFunc] := by kernel_rfl
@[simp] theorem isConcrete_137 : isConcrete Tryz.prog 137 = true := by kernel_rfl
@[simp] theorem ty_138 : ty Tryz.prog 138 = some (false, 1) := by kernel_rfl
@[simp] theorem zc_138 : zc Tryz.prog 138 = some [Value.nilFunc] := by kernel_rfl
@[simp] theorem isConcrete_138 : isConcrete Tryz.prog 138 = true := by kernel_rfl
@[simp] theorem ty_139 : ty Tryz.prog 139 = some (false, 1) := by kernel_rfl
@[simp] theorem zc_139 : zc Tryz.prog 139 = none := by kernel_rfl
@[simp] theorem isConcrete_139 : isConcrete Tryz.prog 139 = true := by kernel_rfl
@[simp] theorem ty_140 : ty Tryz.prog 140 = some (false, 1) := by kernel_rfl
@[simp] theorem zc_140 : zc Tryz.prog 140 = some [Value.nilFunc] := by kernel_rfl
@[simp] theorem isConcrete_140 : isConcrete Tryz.prog 140 = true := by kernel_rfl
@[simp] theorem ty_141 : ty Tryz.prog 141 = some (false, 1) := by kernel_rfl
@[simp] theorem zc_141 : zc Tryz.prog 141 = some [Value.nilFunc] := by kernel_rfl
@[simp] theorem isConcrete_141 : isConcrete Tryz.prog 141 = true := by kernel_rfl
@[simp] theorem ty_142 : ty Tryz.prog 142 = some (false, 1) := by kernel_rfl
@[simp] theorem zc_142 : zc Tryz.prog 142 = none := by kernel_rfl
@[simp] theorem isConcrete_142 : isConcrete Tryz.prog 142 = true := by kernel_rfl
@[simp] theorem ty_143 : ty Tryz.prog 143 = some (false, 1) := by kernel_rfl
@[simp] theorem zc_143 : zc Tryz.prog 143 = some [Value.nilFunc] := by kernel_rfl
@[simp] theorem isConcrete_143 : isConcrete Tryz.prog 143 = true := by kernel_rfl
@[simp] theorem ty_144 : ty Tryz.prog 144 = some (false, 1) := by kernel_rfl
@[simp] theorem zc_144 : zc Tryz.prog 144 = some [Value.nilFunc] := by kernel_rfl
@[simp] theorem isConcrete_144 : isConcrete Tryz.prog 144 = true := by kernel_rfl
@[simp] theorem ty_145 : ty Tryz.prog 145 = some (false, 1) := by kernel_rfl
@[simp] theorem zc_145 : zc Tryz.prog 145 = some [Value.int IntKind.i64 (0)] := by kernel_rfl
@[simp] theorem convI_145 : convI Tryz.prog 145 = some IntKind.i64 := by kernel_rfl
@[simp] theorem isConcrete_145 : isConcrete Tryz.prog 145 = true := by kernel_rfl
@[simp] theorem ty_146 : ty Tryz.prog 146 = some (false, 1) := by kernel_rfl
@[simp] theorem zc_146 : zc Tryz.prog 146 = some [Value.nilFunc] := by kernel_rfl
@[simp] theorem isConcrete_146 : isConcrete Tryz.prog 146 = true := by kernel_rfl
@[simp] theorem ty_147 : ty Tryz.prog 147 = some (false, 1) := by kernel_rfl
@[simp] theorem zc_147 : zc Tryz.prog 147 = some [Value.pointer none] := by kernel_rfl
@[simp] theorem isConcrete_147 : isConcrete Tryz.prog 147 = true := by kernel_rfl
@[simp] theorem isPtr_147 : isPtr Tryz.prog 147 = true := by kernel_rfl
@[simp] theorem ty_148 : ty Tryz.prog 148 = some (false, 1) := by kernel_rfl
@[simp] theorem zc_148 : zc Tryz.prog 148 = some [Value.nilFunc] := by kernel_rfl
@[simp] theorem isConcrete_148 : isConcrete Tryz.prog 148 = true := by kernel_rfl
@[simp] theorem ty_149 : ty Tryz.prog 149 = some (false, 1) := by kernel_rfl
@[simp] theorem zc_149 : zc Tryz.prog 149 = some [Value.nilFunc] := by kernel_rfl
@[simp] theorem isConcrete_149 : isConcrete Tryz.prog 149 = true := by kernel_rfl
@[simp] theorem ty_150 : ty Tryz.prog 150 = some (false, 1) := by kernel_rfl
@[simp] theorem zc_150 : zc Tryz.prog 150 = some [Value.nilFunc] := by kernel_rfl
@[simp] theorem isConcrete_150 : isConcrete Tryz.prog 150 = true := by kernel_rfl
@[simp] theorem ty_151 : ty Tryz.prog 151 = some (false, 1) := by kernel_rfl
@[simp] theorem zc_151 : zc Tryz.prog 151 = some [Value.nilFunc] := by kernel_rfl
@[simp] theorem isConcrete_151 : isConcrete Tryz.prog 151 = true := by kernel_rfl
@[simp] theorem ty_152 : ty Tryz.prog 152 = some (false, 1) := by kernel_rfl
@[simp] theorem zc_152 : zc Tryz.prog 152 = some [Value.nilFunc] := by kernel_rfl
@[simp] theorem isConcrete_152 : isConcrete Tryz.prog 152 = true := by kernel_rfl
@[simp] theorem ty_153 : ty Tryz.prog 153 = some (true, 20) := by kernel_rfl
@[simp] theorem zc_153 : zc Tryz.prog 153 = some [Value.int IntKind.u64 (0), Value.int IntKind.u64 (0), Value.int IntKind.u64 (0), Value.int IntKind.u64 (0), Value.int IntKind.u64 (0), Value.int IntKind.u64 (0), Value.int IntKind.u64 (0), Value.int IntKind.u64 (0), Value.int IntKind.u64 (0), Value.int IntKind.u64 (0), Value.int IntKind.u64 (0), Value.int IntKind.u64 (0), Value.int IntKind.u64 (0), Value.int IntKind.u64 (0), Value.int IntKind.u64 (0), Value.int IntKind.u64 (0), Value.int IntKind.u64 (0), Value.int IntKind.u64 (0), Value.int IntKind.u64 (0), Value.int IntKind.u64 (0)] := by kernel_rfl
@[simp] theorem arrInfo_153 : arrInfo Tryz.prog 153 = some (20, 1) := by kernel_rfl
@[simp] theorem isConcrete_153 : isConcrete Tryz.prog 153 = true := by kernel_rfl
@[simp] theorem ty_154 : ty Tryz.prog 154 = some (true, 65) := by kernel_rfl
@[simp] theorem zc_154 : zc Tryz.prog 154 = some [Value.int IntKind.u8 (0), Value.int IntKind.u8 (0), Value.int IntKind.u8 (0), Value.int IntKind.u8 (0), Value.int IntKind.u8 (0), Value.int IntKind.u8 (0), Value.int IntKind.u8 (0), Value.int IntKind.u8 (0), Value.int IntKind.u8 (0), Value.int IntKind.u8 (0), Value.int IntKind.u8 (0), Value.int IntKind.u8 (0), Value.int IntKind.u8 (0), Value.int IntKind.u8 (0), Value.int IntKind.u8 (0), Value.int IntKind.u8 (0), Value.int IntKind.u8 (0), Value.int IntKind.u8 (0), Value.int IntKind.u8 (0), Value.int IntKind.u8 (0), Value.int IntKind.u8 (0), Value.int IntKind.u8 (0), Value.int IntKind.u8 (0), Value.int IntKind.u8 (0), Value.int IntKind.u8 (0), Value.int IntKind.u8 (0), Value.int IntKind.u8 (0), Value.int IntKind.u8 (0), Value.int IntKind.u8 (0), Value.int IntKind.u8 (0), Value.int IntKind.u8 (0), Value.int IntKind.u8 (0), Value.int IntKind.u8 (0), Value.int IntKind.u8 (0), Value.int IntKind.u8 (0), Value.int IntKind.u8 (0), Value.int IntKind.u8 (0), Value.int IntKind.u8 0, Value.int IntKind.u8 0, Value.int IntKind.u8 0, Value.int IntKind.u8 0, Value.int IntKind.u8 0, Value.int IntKind.u8 0, Value.int IntKind.u8 0, Value.int IntKind.u8 0, Value.int IntKind.u8 0, Value.int IntKind.u8 0, Value.int IntKind.u8 0, Value.int IntKind.u8 0, Value.int IntKind.u8 0, Value.int IntKind.u8 0, Value.int IntKind.u8 0, Value.int IntKind.u8 0, Value.int IntKind.u8 0, Value.int IntKind.u8 0, Value.int IntKind.u8 0, Value.int IntKind.u8 0, Value.int IntKind.u8 0, Value.int IntKind.u8 0, Value.int IntKind.u8 0, Value.int IntKind.u8 0, Value.int IntKind.u8 0, Value.int IntKind.u8 0, Value.int IntKind.u8 0, Value.int IntKind.u8 0] := by kernel_rfl
@[simp] theorem arrInfo_154 : arrInfo Tryz.prog 154 = some (65, 1) := by kernel_rfl
@[simp] theorem isConcrete_154 : isConcrete Tryz.prog 154 = true := by kernel_rfl
@[simp] theorem ty_155 : ty Tryz.prog 155 = some (false, 1) := by kernel_rfl
@[simp] theorem zc_155 : zc Tryz.prog 155 = some [Value.nilFunc] := by kernel_rfl
@[simp] theorem isConcrete_155 : isConcrete Tryz.prog 155 = true := by kernel_rfl
@[simp] theorem ty_156 : ty Tryz.prog 156 = some (false, 1) := by kernel_rfl
@[simp] theorem zc_156 : zc Tryz.prog 156 = some [Value.nilFunc] := by kernel_rfl
@[simp] theorem isConcrete_156 : isConcrete Tryz.prog 156 = true := by kernel_rfl
@[simp] theorem ty_157 : ty Tryz.prog 157 = some (false, 1) := by kernel_rfl
@[simp] theorem zc_157 : zc Tryz.prog 157 = some [Value.nilFunc] := by kernel_rfl
@[simp] theorem isConcrete_157 : isConcrete Tryz.prog 157 = true := by kernel_rfl
@[simp] theorem ty_158 : ty Tryz.prog 158 = some (true, 3) := by kernel_rfl
@[simp] theorem zc_158 : zc Tryz.prog 158 = some [Value.string { data := { toList := [] } }, Value.string { data := { toList := [] } }, Value.nilIface] := by kernel_rfl
@[simp] theorem isConcrete_158 : isConcrete Tryz.prog 158 = true := by kernel_rfl
@[simp] theorem places_158 : places Tryz.prog 158 = some [(0, 1), (1, 1), (2, 1)] := by kernel_rfl
@[simp] theorem ty_159 : ty Tryz.prog 159 = some (true, 3) := by kernel_rfl
@[simp] theorem zc_159 : zc Tryz.prog 159 = some [Value.string { data := { toList := [] } }, Value.string { data := { toList := [] } }, Value.nilIface] := by kernel_rfl
@[simp] theorem isConcrete_159 : isConcrete Tryz.prog 159 = true := by kernel_rfl
@[simp] theorem places_159 : places Tryz.prog 159 = some [(0, 1), (1, 1), (2, 1)] := by kernel_rfl
@[simp] theorem ty_160 : ty Tryz.prog 160 = some (false, 1) := by kernel_rfl
@[simp] theorem zc_160 : zc Tryz.prog 160 = some [Value.nilFunc] := by kernel_rfl
@[simp] theorem isConcrete_160 : isConcrete Tryz.prog 160 = true := by kernel_rfl
@[simp] theorem ty_161 : ty Tryz.prog 161 = some (false, 1) := by kernel_rfl
@[simp] theorem zc_161 : zc Tryz.prog 161 = some [Value.nilFunc] := by kernel_rfl
@[simp] theorem isConcrete_161 : isConcrete Tryz.prog 161 = true := by kernel_rfl
@[simp] theorem ty_162 : ty Tryz.prog 162 = some (true, 256) := by kernel_rfl
@[simp] theorem arrInfo_162 : arrInfo Tryz.prog 162 = some (256, 1) := by kernel_rfl
@[simp] theorem isConcrete_162 : isConcrete Tryz.prog 162 = true := by kernel_rfl
@[simp] theorem ty_163 : ty Tryz.prog 163 = some (true, 2) := by kernel_rfl
@[simp] theorem zc_163 : zc Tryz.prog 163 = some [Value.int IntKind.u8 (0), Value.int IntKind.u8 (0)] := by kernel_rfl
@[simp] theorem isConcrete_163 : isConcrete Tryz.prog 163 = true := by kernel_rfl
@[simp] theorem places_163 : places Tryz.prog 163 = some [(0, 1), (1, 1)] := by kernel_rfl
@[simp] theorem eqKinds_163 : eqKinds Tryz.prog 163 = some [(0, false), (1, false)] := by kernel_rfl
@[simp] theorem ty_164 : ty Tryz.prog 164 = some (true, 2) := by kernel_rfl
@[simp] theorem zc_164 : zc Tryz.prog 164 = some [Value.int IntKind.u8 (0), Value.int IntKind.u8 (0)] := by kernel_rfl
@[simp] theorem isConcrete_164 : isConcrete Tryz.prog 164 = true := by kernel_rfl
@[simp] theorem places_164 : places Tryz.prog 164 = some [(0, 1), (1, 1)] := by kernel_rfl
@[simp] theorem eqKinds_164 : eqKinds Tryz.prog 164 = some [(0, false), (1, false)] := by kernel_rfl
@[simp] theorem ty_165 : ty Tryz.prog 165 = some (true, 32) := by kernel_rfl
@[simp] theorem zc_165 : zc Tryz.prog 165 = some [Value.int IntKind.u8 (0), Value.int IntKind.u8 (0), Value.int IntKind.u8 (0), Value.int IntKind.u8 (0), Value.int IntKind.u8 (0), Value.int IntKind.u8 (0), Value.int IntKind.u8 (0), Value.int IntKind.u8 (0), Value.int IntKind.u8 (0), Value.int IntKind.u8 (0), Value.int IntKind.u8 (0), Value.int IntKind.u8 (0), Value.int IntKind.u8 (0), Value.int IntKind.u8 (0), Value.int IntKind.u8 (0), Value.int IntKind.u8 (0), Value.int IntKind.u8 (0), Value.int IntKind.u8 (0), Value.int IntKind.u8 (0), Value.int IntKind.u8 (0), Value.int IntKind.u8 (0), Value.int IntKind.u8 (0), Value.int IntKind.u8 (0), Value.int IntKind.u8 (0), Value.int IntKind.u8 (0), Value.int IntKind.u8 (0), Value.int IntKind.u8 (0), Value.int IntKind.u8 (0), Value.int IntKind.u8 (0), Value.int IntKind.u8 (0), Value.int IntKind.u8 (0), Value.int IntKind.u8 (0)] := by kernel_rfl
@[simp] theorem arrInfo_165 : arrInfo Tryz.prog 165 = some (16, 2) := by kernel_rfl
@[simp] theorem isConcrete_165 : isConcrete Tryz.prog 165 = true := by kernel_rfl
@[simp] theorem ty_166 : ty Tryz.prog 166 = some (false, 1) := by kernel_rfl
@[simp] theorem zc_166 : zc Tryz.prog 166 = some [Value.nilFunc] := by kernel_rfl
@[simp] theorem isConcrete_166 : isConcrete Tryz.prog 166 = true := by kernel_rfl
@[simp] theorem ty_167 : ty Tryz.prog 167 = some (false, 1) := by kernel_rfl
@[simp] theorem zc_167 : zc Tryz.prog 167 = some [Value.pointer none] := by kernel_rfl
@[simp] theorem isConcrete_167 : isConcrete Tryz.prog 167 = true := by kernel_rfl
@[simp] theorem isPtr_167 : isPtr Tryz.prog 167 = true := by kernel_rfl
@[simp] theorem ty_168 : ty Tryz.prog 168 = some (true, 1) := by kernel_rfl
@[simp] theorem zc_168 : zc Tryz.prog 168 = some [Value.string { data := { toList := [] } }] := by kernel_rfl
@[simp] theorem isConcrete_168 : isConcrete Tryz.prog 168 = true := by kernel_rfl
@[simp] theorem places_168 : places Tryz.prog 168 = some [(0, 1)] := by kernel_rfl
@[simp] theorem eqKinds_168 : eqKinds Tryz.prog 168 = some [(0, true)] := by kernel_rfl
@[simp] theorem ty_169 : ty Tryz.prog 169 = some (true, 1) := by kernel_rfl
@[simp] theorem zc_169 : zc Tryz.prog 169 = some [Value.string { data := { toList := [] } }] := by kernel_rfl
@[simp] theorem isConcrete_169 : isConcrete Tryz.prog 169 = true := by kernel_rfl
@[simp] theorem places_169 : places Tryz.prog 169 = some [(0, 1)] := by kernel_rfl
@[simp] theorem eqKinds_169 : eqKinds Tryz.prog 169 = some [(0, true)] := by kernel_rfl
@[simp] theorem ty_170 : ty Tryz.prog 170 = some (false, 1) := by kernel_rfl
@[simp] theorem zc_170 : zc Tryz.prog 170 = some [Value.nilFunc] := by kernel_rfl
@[simp] theorem isConcrete_170 : isConcrete Tryz.prog 170 = true := by kernel_rfl
@[simp] theorem ty_171 : ty Tryz.prog 171 = some (true, 32) := by kernel_rfl
@[simp] theorem zc_171 : zc Tryz.prog 171 = some [Value.int IntKind.u8 (0), Value.int IntKind.u8 (0), Value.int IntKind.u8 (0), Value.int IntKind.u8 (0), Value.int IntKind.u8 (0), Value.int IntKind.u8 (0), Value.int IntKind.u8 (0), Value.int IntKind.u8 (0), Value.int IntKind.u8 (0), Value.int IntKind.u8 (0), Value.int IntKind.u8 (0), Value.int IntKind.u8 (0), Value.int IntKind.u8 (0), Value.int IntKind.u8 (0), Value.int IntKind.u8 (0), Value.int IntKind.u8 (0), Value.int IntKind.u8 (0), Value.int IntKind.u8 (0), Value.int IntKind.u8 (0), Value.int IntKind.u8 (0), Value.int IntKind.u8 (0), Value.int IntKind.u8 (0), Value.int IntKind.u8 (0), Value.int IntKind.u8 (0), Value.int IntKind.u8 (0), Value.int IntKind.u8 (0), Value.int IntKind.u8 (0), Value.int IntKind.u8 (0), Value.int IntKind.u8 (0), Value.int IntKind.u8 (0), Value.int IntKind.u8 (0), Value.int IntKind.u8 (0)] := by kernel_rfl
@[simp] theorem arrInfo_171 : arrInfo Tryz.prog 171 = some (32, 1) := by kernel_rfl
@[simp] theorem isConcrete_171 : isConcrete Tryz.prog 171 = true := by kernel_rfl
@[simp] theorem ty_172 : ty Tryz.prog 172 = some (true, 64) := by kernel_rfl
@[simp] theorem zc_172 : zc Tryz.prog 172 = some [Value.int IntKind.u8 (0), Value.int IntKind.u8 (0), Value.int IntKind.u8 (0), Value.int IntKind.u8 (0), Value.int IntKind.u8 (0), Value.int IntKind.u8 (0), Value.int IntKind.u8 (0), Value.int IntKind.u8 (0), Value.int IntKind.u8 (0), Value.int IntKind.u8 (0), Value.int IntKind.u8 (0), Value.int IntKind.u8 (0), Value.int IntKind.u8 (0), Value.int IntKind.u8 (0), Value.int IntKind.u8 (0), Value.int IntKind.u8 (0), Value.int IntKind.u8 (0), Value.int IntKind.u8 (0), Value.int IntKind.u8 (0), Value.int IntKind.u8 (0), Value.int IntKind.u8 (0), Value.int IntKind.u8 (0), Value.int IntKind.u8 (0), Value.int IntKind.u8 (0), Value.int IntKind.u8 (0), Value.int IntKind.u8 (0), Value.int IntKind.u8 (0), Value.int IntKind.u8 (0), Value.int IntKind.u8 (0), Value.int IntKind.u8 (0), Value.int IntKind.u8 (0), Value.int IntKind.u8 (0), Value.int IntKind.u8 (0), Value.int IntKind.u8 (0), Value.int IntKind.u8 (0), Value.int IntKind.u8 (0), Value.int IntKind.u8 (0), Value.int IntKind.u8 0, Value.int IntKind.u8 0, Value.int IntKind.u8 0, Value.int IntKind.u8 0, Value.int IntKind.u8 0, Value.int IntKind.u8 0, Value.int IntKind.u8 0, Value.int IntKind.u8 0, Value.int IntKind.u8 0, Value.int IntKind.u8 0, Value.int IntKind.u8 0, Value.int IntKind.u8 0, Value.int IntKind.u8 0, Value.int IntKind.u8 0, Value.int IntKind.u8 0, Value.int IntKind.u8 0, Value.int IntKind.u8 0, Value.int IntKind.u8 0, Value.int IntKind.u8 0, Value.int IntKind.u8 0, Value.int IntKind.u8 0, Value.int IntKind.u8 0, Value.int IntKind.u8 0, Value.int IntKind.u8 0, Value.int IntKind.u8 0, Value.int IntKind.u8 0, Value.int IntKind.u8 0] := by kernel_rfl
@[simp] theorem arrInfo_172 : arrInfo Tryz.prog 172 = some (64, 1) := by kernel_rfl
@[simp] theorem isConcrete_172 : isConcrete Tryz.prog 172 = true := by kernel_rfl
@[simp] theorem ty_173 : ty Tryz.prog 173 = some (false, 1) := by kernel_rfl
@[simp] theorem zc_173 : zc Tryz.prog 173 = some [Value.nilFunc] := by kernel_rfl
@[simp] theorem isConcrete_173 : isConcrete Tryz.prog 173 = true := by kernel_rfl
@[simp] theorem ty_174 : ty Tryz.prog 174 = some (true, 4) := by kernel_rfl
@[simp] theorem zc_174 : zc Tryz.prog 174 = some [Value.pointer none, Value.pointer none, Value.pointer none, Value.string { data := { toList := [] } }] := by kernel_rfl
@[simp] theorem isConcrete_174 : isConcrete Tryz.prog 174 = true := by kernel_rfl
@[simp] theorem places_174 : places Tryz.prog 174 = some [(0, 1), (1, 1), (2, 1), (3, 1)] := by kernel_rfl
@[simp] theorem ty_175 : ty Tryz.prog 175 = some (true, 4) := by kernel_rfl
@[simp] theorem zc_175 : zc Tryz.prog 175 = some [Value.pointer none, Value.pointer none, Value.pointer none, Value.string { data := { toList := [] } }] := by kernel_rfl
@[simp] theorem isConcrete_175 : isConcrete Tryz.prog 175 = true := by kernel_rfl
@[simp] theorem places_175 : places Tryz.prog 175 = some [(0, 1), (1, 1), (2, 1), (3, 1)] := by kernel_rfl
@[simp] theorem ty_176 : ty Tryz.prog 176 = some (true, 0) := by kernel_rfl
@[simp] theorem zc_176 : zc Tryz.prog 176 = some [] := by kernel_rfl
@[simp] theorem arrInfo_176 : arrInfo Tryz.prog 176 = some (0, 1) := by kernel_rfl
@[simp] theorem isConcrete_176 : isConcrete Tryz.prog 176 = true := by kernel_rfl
@[simp] theorem ty_177 : ty Tryz.prog 177 = some (true, 0) := by kernel_rfl
@[simp] theorem zc_177 : zc Tryz.prog 177 = some [] := by kernel_rfl
@[simp] theorem isConcrete_177 : isConcrete Tryz.prog 177 = true := by kernel_rfl
@[simp] theorem places_177 : places Tryz.prog 177 = some [(0, 0)] := by kernel_rfl
@[simp] theorem ty_178 : ty Tryz.prog 178 = some (true, 0) := by kernel_rfl
@[simp] theorem zc_178 : zc Tryz.prog 178 = some [] := by kernel_rfl
@[simp] theorem isConcrete_178 : isConcrete Tryz.prog 178 = true := by kernel_rfl
@[simp] theorem places_178 : places Tryz.prog 178 = some [(0, 0)] := by kernel_rfl
@[simp] theorem ty_179 : ty Tryz.prog 179 = some (false, 1) := by kernel_rfl
@[simp] theorem zc_179 : zc Tryz.prog 179 = some [Value.int IntKind.u8 (0)] := by kernel_rfl
@[simp] theorem convI_179 : convI Tryz.prog 179 = some IntKind.u8 := by kernel_rfl
@[simp] theorem isConcrete_179 : isConcrete Tryz.prog 179 = true := by kernel_rfl
@[simp] theorem ty_180 : ty Tryz.prog 180 = some (false, 1) := by kernel_rfl
@[simp] theorem zc_180 : zc Tryz.prog 180 = some [Value.int IntKind.u8 (0)] := by kernel_rfl
@[simp] theorem convI_180 : convI Tryz.prog 180 = some IntKind.u8 := by kernel_rfl
@[simp] theorem isConcrete_180 : isConcrete Tryz.prog 180 = true := by kernel_rfl
@[simp] theorem ty_181 : ty Tryz.prog 181 = some (false, 1) := by kernel_rfl
@[simp] theorem zc_181 : zc Tryz.prog 181 = some [Value.nilFunc] := by kernel_rfl
@[simp] theorem isConcrete_181 : isConcrete Tryz.prog 181 = true := by kernel_rfl
@[simp] theorem ty_182 : ty Tryz.prog 182 = some (false, 1) := by kernel_rfl
@[simp] theorem zc_182 : zc Tryz.prog 182 = some [Value.int IntKind.i32 (0)] := by kernel_rfl
@[simp] theorem convI_182 : convI Tryz.prog 182 = some IntKind.i32 := by kernel_rfl
@[simp] theorem isConcrete_182 : isConcrete Tryz.prog 182 = true := by kernel_rfl
@[simp] theorem ty_183 : ty Tryz.prog 183 = some (false, 1) := by kernel_rfl
@[simp] theorem zc_183 : zc Tryz.prog 183 = some [Value.int IntKind.i32 (0)] := by kernel_rfl
@[simp] theorem convI_183 : convI Tryz.prog 183 = some IntKind.i32 := by kernel_rfl
@[simp] theorem isConcrete_183 : isConcrete Tryz.prog 183 = true := by kernel_rfl
@[simp] theorem ty_184 : ty Tryz.prog 184 = some (true, 11) := by kernel_rfl
@[simp] theorem zc_184 : zc Tryz.prog 184 = some [Value.int IntKind.u64 (0), Value.int IntKind.u64 (0), Value.int IntKind.u32 (0), Value.int IntKind.u8 (0), Value.int IntKind.u8 (0), Value.int IntKind.u8 (0), Value.int IntKind.u8 (0), Value.nilFunc, Value.pointer none, Value.int IntKind.i32 (0), Value.int IntKind.i32 (0)] := by kernel_rfl
@[simp] theorem isConcrete_184 : isConcrete Tryz.prog 184 = true := by kernel_rfl
@[simp] theorem places_184 : places Tryz.prog 184 = some [(0, 1), (1, 1), (2, 1), (3, 1), (4, 1), (5, 1), (6, 1), (7, 1), (8, 1), (9, 1), (10, 1)] := by kernel_rfl
@[simp] theorem ty_185 : ty Tryz.prog 185 = some (true, 11) := by kernel_rfl
@[simp] theorem zc_185 : zc Tryz.prog 185 = some [Value.int IntKind.u64 (0), Value.int IntKind.u64 (0), Value.int IntKind.u32 (0), Value.int IntKind.u8 (0), Value.int IntKind.u8 (0), Value.int IntKind.u8 (0), Value.int IntKind.u8 (0), Value.nilFunc, Value.pointer none, Value.int IntKind.i32 (0), Value.int IntKind.i32 (0)] := by kernel_rfl
@[simp] theorem isConcrete_185 : isConcrete Tryz.prog 185 = true := by kernel_rfl
@[simp] theorem places_185 : places Tryz.prog 185 = some [(0, 1), (1, 1), (2, 1), (3, 1), (4, 1), (5, 1), (6, 1), (7, 1), (8, 1), (9, 1), (10, 1)] := by kernel_rfl
@[simp] theorem fieldOff_7_0 : fieldOff Tryz.prog 7 0 = some 0 := by kernel_rfl
@[simp] theorem fieldPart_7_0 : fieldPart Tryz.prog 7 0 = some (false, 1, 0) := by kernel_rfl
@[simp] theorem fieldOff_7_1 : fieldOff Tryz.prog 7 1 = some 1 := by kernel_rfl
@[simp] theorem fieldPart_7_1 : fieldPart Tryz.prog 7 1 = some (false, 1, 1) := by kernel_rfl
@[simp] theorem fieldOff_7_2 : fieldOff Tryz.prog 7 2 = some 2 := by kernel_rfl
@[simp] theorem fieldPart_7_2 : fieldPart Tryz.prog 7 2 = some (false, 1, 2) := by kernel_rfl
@[simp] theorem fieldOff_7_3 : fieldOff Tryz.prog 7 3 = some 3 := by kernel_rfl
@[simp] theorem fieldPart_7_3 : fieldPart Tryz.prog 7 3 = some (false, 1, 3) := by kernel_rfl
@[simp] theorem fieldOff_8_0 : fieldOff Tryz.prog 8 0 = some 0 := by kernel_rfl
@[simp] theorem fieldPart_8_0 : fieldPart Tryz.prog 8 0 = some (false, 1, 0) := by kernel_rfl
@[simp] theorem fieldOff_8_1 : fieldOff Tryz.prog 8 1 = some 1 := by kernel_rfl
@[simp] theorem fieldPart_8_1 : fieldPart Tryz.prog 8 1 = some (false, 1, 1) := by kernel_rfl
@[simp] theorem fieldOff_8_2 : fieldOff Tryz.prog 8 2 = some 2 := by kernel_rfl
@[simp] theorem fieldPart_8_2 : fieldPart Tryz.prog 8 2 = some (false, 1, 2) := by kernel_rfl
@[simp] theorem fieldOff_8_3 : fieldOff Tryz.prog 8 3 = some 3 := by kernel_rfl
@[simp] theorem fieldPart_8_3 : fieldPart Tryz.prog 8 3 = some (false, 1, 3) := by kernel_rfl
@[simp] theorem fieldOff_13_0 : fieldOff Tryz.prog 13 0 = some 0 := by kernel_rfl
@[simp] theorem fieldPart_13_0 : fieldPart Tryz.prog 13 0 = some (false, 1, 0) := by kernel_rfl
@[simp] theorem fieldOff_13_1 : fieldOff Tryz.prog 13 1 = some 1 := by kernel_rfl
@[simp] theorem fieldPart_13_1 : fieldPart Tryz.prog 13 1 = some (false, 1, 1) := by kernel_rfl
@[simp] theorem fieldOff_14_0 : fieldOff Tryz.prog 14 0 = some 0 := by kernel_rfl
@[simp] theorem fieldPart_14_0 : fieldPart Tryz.prog 14 0 = some (false, 1, 0) := by kernel_rfl
@[simp] theorem fieldOff_14_1 : fieldOff Tryz.prog 14 1 = some 1 := by kernel_rfl
@[simp] theorem fieldPart_14_1 : fieldPart Tryz.prog 14 1 = some (false, 1, 1) := by kernel_rfl
@[simp] theorem fieldOff_18_0 : fieldOff Tryz.prog 18 0 = some 0 := by kernel_rfl
@[simp] theorem fieldPart_18_0 : fieldPart Tryz.prog 18 0 = some (false, 1, 0) := by kernel_rfl
@[simp] theorem fieldOff_19_0 : fieldOff Tryz.prog 19 0 = some 0 := by kernel_rfl
@[simp] theorem fieldPart_19_0 : fieldPart Tryz.prog 19 0 = some (false, 1, 0) := by kernel_rfl
@[simp] theorem fieldOff_34_0 : fieldOff Tryz.prog 34 0 = some 0 := by kernel_rfl
@[simp] theorem fieldPart_34_0 : fieldPart Tryz.prog 34 0 = some (false, 1, 0) := by kernel_rfl
@[simp] theorem fieldOff_34_1 : fieldOff Tryz.prog 34 1 = some 1 := by kernel_rfl
@[simp] theorem fieldPart_34_1 : fieldPart Tryz.prog 34 1 = some (false, 1, 1) := by kernel_rfl
@[simp] theorem fieldOff_34_2 : fieldOff Tryz.prog 34 2 = some 2 := by kernel_rfl
@[simp] theorem fieldPart_34_2 : fieldPart Tryz.prog 34 2 = some (false, 1, 2) := by kernel_rfl
@[simp] theorem fieldOff_35_0 : fieldOff Tryz.prog 35 0 = some 0 := by kernel_rfl
@[simp] theorem fieldPart_35_0 : fieldPart Tryz.prog 35 0 = some (false, 1, 0) := by kernel_rfl
@[simp] theorem fieldOff_35_1 : fieldOff Tryz.prog 35 1 = some 1 := by kernel_rfl
@[simp] theorem fieldPart_35_1 : fieldPart Tryz.prog 35 1 = some (false, 1, 1) := by kernel_rfl
@[simp] theorem fieldOff_35_2 : fieldOff Tryz.prog 35 2 = some 2 := by kernel_rfl
@[simp] theorem fieldPart_35_2 : fieldPart Tryz.prog 35 2 = some (false, 1, 2) := by kernel_rfl
@[simp] theorem fieldOff_47_0 : fieldOff Tryz.prog 47 0 = some 0 := by kernel_rfl
@[simp] theorem fieldPart_47_0 : fieldPart Tryz.prog 47 0 = some (false, 1, 0) := by kernel_rfl
@[simp] theorem fieldOff_47_1 : fieldOff Tryz.prog 47 1 = some 1 := by kernel_rfl
@[simp] theorem fieldPart_47_1 : fieldPart Tryz.prog 47 1 = some (false, 1, 1) := by kernel_rfl
@[simp] theorem fieldOff_48_0 : fieldOff Tryz.prog 48 0 = some 0 := by kernel_rfl
@[simp] theorem fieldPart_48_0 : fieldPart Tryz.prog 48 0 = some (false, 1, 0) := by kernel_rfl
@[simp] theorem fieldOff_48_1 : fieldOff Tryz.prog 48 1 = some 1 := by kernel_rfl
@[simp] theorem fieldPart_48_1 : fieldPart Tryz.prog 48 1 = some (false, 1, 1) := by kernel_rfl
@[simp] theorem fieldOff_55_0 : fieldOff Tryz.prog 55 0 = some 0 := by kernel_rfl
@[simp] theorem fieldPart_55_0 : fieldPart Tryz.prog 55 0 = some (false, 1, 0) := by kernel_rfl
@[simp] theorem fieldOff_55_1 : fieldOff Tryz.prog 55 1 = some 1 := by kernel_rfl
@[simp] theorem fieldPart_55_1 : fieldPart Tryz.prog 55 1 = some (false, 1, 1) := by kernel_rfl
@[simp] theorem fieldOff_55_2 : fieldOff Tryz.prog 55 2 = some 2 := by kernel_rfl
@[simp] theorem fieldPart_55_2 : fieldPart Tryz.prog 55 2 = some (false, 1, 2) := by kernel_rfl
@[simp] theorem fieldOff_55_3 : fieldOff Tryz.prog 55 3 = some 3 := by kernel_rfl
@[simp] theorem fieldPart_55_3 : fieldPart Tryz.prog 55 3 = some (false, 1, 3) := by kernel_rfl
@[simp] theorem fieldOff_56_0 : fieldOff Tryz.prog 56 0 = some 0 := by kernel_rfl
@[simp] theorem fieldPart_56_0 : fieldPart Tryz.prog 56 0 = some (false, 1, 0) := by kernel_rfl
@[simp] theorem fieldOff_56_1 : fieldOff Tryz.prog 56 1 = some 1 := by kernel_rfl
@[simp] theorem fieldPart_56_1 : fieldPart Tryz.prog 56 1 = some (false, 1, 1) := by kernel_rfl
@[simp] theorem fieldOff_56_2 : fieldOff Tryz.prog 56 2 = some 2 := by kernel_rfl
@[simp] theorem fieldPart_56_2 : fieldPart Tryz.prog 56 2 = some (false, 1, 2) := by kernel_rfl
@[simp] theorem fieldOff_56_3 : fieldOff Tryz.prog 56 3 = some 3 := by kernel_rfl
@[simp] theorem fieldPart_56_3 : fieldPart Tryz.prog 56 3 = some (false, 1, 3) := by kernel_rfl
@[simp] theorem fieldOff_63_0 : fieldOff Tryz.prog 63 0 = some 0 := by kernel_rfl
@[simp] theorem fieldPart_63_0 : fieldPart Tryz.prog 63 0 = some (false, 1, 0) := by kernel_rfl
@[simp] theorem fieldOff_63_1 : fieldOff Tryz.prog 63 1 = some 1 := by kernel_rfl
@[simp] theorem fieldPart_63_1 : fieldPart Tryz.prog 63 1 = some (false, 1, 1) := by kernel_rfl
@[simp] theorem fieldOff_64_0 : fieldOff Tryz.prog 64 0 = some 0 := by kernel_rfl
@[simp] theorem fieldPart_64_0 : fieldPart Tryz.prog 64 0 = some (false, 1, 0) := by kernel_rfl
@[simp] theorem fieldOff_64_1 : fieldOff Tryz.prog 64 1 = some 1 := by kernel_rfl
@[simp] theorem fieldPart_64_1 : fieldPart Tryz.prog 64 1 = some (false, 1, 1) := by kernel_rfl
@[simp] theorem fieldOff_84_0 : fieldOff Tryz.prog 84 0 = some 0 := by kernel_rfl
@[simp] theorem fieldPart_84_0 : fieldPart Tryz.prog 84 0 = some (false, 1, 0) := by kernel_rfl
@[simp] theorem fieldOff_84_1 : fieldOff Tryz.prog 84 1 = some 1 := by kernel_rfl
@[simp] theorem fieldPart_84_1 : fieldPart Tryz.prog 84 1 = some (false, 1, 1) := by kernel_rfl
@[simp] theorem fieldOff_84_2 : fieldOff Tryz.prog 84 2 = some 2 := by kernel_rfl
@[simp] theorem fieldPart_84_2 : fieldPart Tryz.prog 84 2 = some (false, 1, 2) := by kernel_rfl
@[simp] theorem fieldOff_84_3 : fieldOff Tryz.prog 84 3 = some 3 := by kernel_rfl
@[simp] theorem fieldPart_84_3 : fieldPart Tryz.prog 84 3 = some (false, 1, 3) := by kernel_rfl
@[simp] theorem fieldOff_84_4 : fieldOff Tryz.prog 84 4 = some 4 := by kernel_rfl
@[simp] theorem fieldPart_84_4 : fieldPart Tryz.prog 84 4 = some (false, 1, 4) := by kernel_rfl
@[simp] theorem fieldOff_84_5 : fieldOff Tryz.prog 84 5 = some 5 := by kernel_rfl
@[simp] theorem fieldPart_84_5 : fieldPart Tryz.prog 84 5 = some (false, 1, 5) := by kernel_rfl
@[simp] theorem fieldOff_84_6 : fieldOff Tryz.prog 84 6 = some 6 := by kernel_rfl
@[simp] theorem fieldPart_84_6 : fieldPart Tryz.prog 84 6 = some (false, 1, 6) := by kernel_rfl
@[simp] theorem fieldOff_84_7 : fieldOff Tryz.prog 84 7 = some 7 := by kernel_rfl
@[simp] theorem fieldPart_84_7 : fieldPart Tryz.prog 84 7 = some (false, 1, 7) := by kernel_rfl
@[simp] theorem fieldOff_84_8 : fieldOff Tryz.prog 84 8 = some 8 := by kernel_rfl
@[simp] theorem fieldPart_84_8 : fieldPart Tryz.prog 84 8 = some (false, 1, 8) := by kernel_rfl
@[simp] theorem fieldOff_84_9 : fieldOff Tryz.prog 84 9 = some 9 := by kernel_rfl
@[simp] theorem fieldPart_84_9 : fieldPart Tryz.prog 84 9 = some (false, 1, 9) := by kernel_rfl
@[simp] theorem fieldOff_85_0 : fieldOff Tryz.prog 85 0 = some 0 := by kernel_rfl
@[simp] theorem fieldPart_85_0 : fieldPart Tryz.prog 85 0 = some (false, 1, 0) := by kernel_rfl
@[simp] theorem fieldOff_85_1 : fieldOff Tryz.prog 85 1 = some 1 := by kernel_rfl
@[simp] theorem fieldPart_85_1 : fieldPart Tryz.prog 85 1 = some (false, 1, 1) := by kernel_rfl
@[simp] theorem fieldOff_85_2 : fieldOff Tryz.prog 85 2 = some 2 := by kernel_rfl
@[simp] theorem fieldPart_85_2 : fieldPart Tryz.prog 85 2 = some (false, 1, 2) := by kernel_rfl
@[simp] theorem fieldOff_85_3 : fieldOff Tryz.prog 85 3 = some 3 := by kernel_rfl
@[simp] theorem fieldPart_85_3 : fieldPart Tryz.prog 85 3 = some (false, 1, 3) := by kernel_rfl
@[simp] theorem fieldOff_85_4 : fieldOff Tryz.prog 85 4 = some 4 := by kernel_rfl
@[simp] theorem fieldPart_85_4 : fieldPart Tryz.prog 85 4 = some (false, 1, 4) := by kernel_rfl
@[simp] theorem fieldOff_85_5 : fieldOff Tryz.prog 85 5 = some 5 := by kernel_rfl
@[simp] theorem fieldPart_85_5 : fieldPart Tryz.prog 85 5 = some (false, 1, 5) := by kernel_rfl
@[simp] theorem fieldOff_85_6 : fieldOff Tryz.prog 85 6 = some 6 := by kernel_rfl
@[simp] theorem fieldPart_85_6 : fieldPart Tryz.prog 85 6 = some (false, 1, 6) := by kernel_rfl
@[simp] theorem fieldOff_85_7 : fieldOff Tryz.prog 85 7 = some 7 := by kernel_rfl
@[simp] theorem fieldPart_85_7 : fieldPart Tryz.prog 85 7 = some (false, 1, 7) := by kernel_rfl
@[simp] theorem fieldOff_85_8 : fieldOff Tryz.prog 85 8 = some 8 := by kernel_rfl
@[simp] theorem fieldPart_85_8 : fieldPart Tryz.prog 85 8 = some (false, 1, 8) := by kernel_rfl
@[simp] theorem fieldOff_85_9 : fieldOff Tryz.prog 85 9 = some 9 := by kernel_rfl
@[simp] theorem fieldPart_85_9 : fieldPart Tryz.prog 85 9 = some (false, 1, 9) := by kernel_rfl
@[simp] theorem fieldOff_158_0 : fieldOff Tryz.prog 158 0 = some 0 := by kernel_rfl
@[simp] theorem fieldPart_158_0 : fieldPart Tryz.prog 158 0 = some (false, 1, 0) := by kernel_rfl
@[simp] theorem fieldOff_158_1 : fieldOff Tryz.prog 158 1 = some 1 := by kernel_rfl
@[simp] theorem fieldPart_158_1 : fieldPart Tryz.prog 158 1 = some (false, 1, 1) := by kernel_rfl
@[simp] theorem fieldOff_158_2 : fieldOff Tryz.prog 158 2 = some 2 := by kernel_rfl
@[simp] theorem fieldPart_158_2 : fieldPart Tryz.prog 158 2 = some (false, 1, 2) := by kernel_rfl
@[simp] theorem fieldOff_159_0 : fieldOff Tryz.prog 159 0 = some 0 := by kernel_rfl
@[simp] theorem fieldPart_159_0 : fieldPart Tryz.prog 159 0 = some (false, 1, 0) := by kernel_rfl
@[simp] theorem fieldOff_159_1 : fieldOff Tryz.prog 159 1 = some 1 := by kernel_rfl
@[simp] theorem fieldPart_159_1 : fieldPart Tryz.prog 159 1 = some (false, 1, 1) := by kernel_rfl
@[simp] theorem fieldOff_159_2 : fieldOff Tryz.prog 159 2 = some 2 := by kernel_rfl
@[simp] theorem fieldPart_159_2 : fieldPart Tryz.prog 159 2 = some (false, 1, 2) := by kernel_rfl
@[simp] theorem fieldOff_163_0 : fieldOff Tryz.prog 163 0 = some 0 := by kernel_rfl
@[simp] theorem fieldPart_163_0 : fieldPart Tryz.prog 163 0 = some (false, 1, 0) := by kernel_rfl
@[simp] theorem fieldOff_163_1 : fieldOff Tryz.prog 163 1 = some 1 := by kernel_rfl
@[simp] theorem fieldPart_163_1 : fieldPart Tryz.prog 163 1 = some (false, 1, 1) := by kernel_rfl
@[simp] theorem fieldOff_164_0 : fieldOff Tryz.prog 164 0 = some 0 := by kernel_rfl
@[simp] theorem fieldPart_164_0 : fieldPart Tryz.prog 164 0 = some (false, 1, 0) := by kernel_rfl
@[simp] theorem fieldOff_164_1 : fieldOff Tryz.prog 164 1 = some 1 := by kernel_rfl
@[simp] theorem fieldPart_164_1 : fieldPart Tryz.prog 164 1 = some (false, 1, 1) := by kernel_rfl
@[simp] theorem fieldOff_168_0 : fieldOff Tryz.prog 168 0 = some 0 := by kernel_rfl
@[simp] theorem fieldPart_168_0 : fieldPart Tryz.prog 168 0 = some (false, 1, 0) := by kernel_rfl
@[simp] theorem fieldOff_169_0 : fieldOff Tryz.prog 169 0 = some 0 := by kernel_rfl
@[simp] theorem fieldPart_169_0 : fieldPart Tryz.prog 169 0 = some (false, 1, 0) := by kernel_rfl
@[simp] theorem fieldOff_174_0 : fieldOff Tryz.prog 174 0 = some 0 := by kernel_rfl
@[simp] theorem fieldPart_174_0 : fieldPart Tryz.prog 174 0 = some (false, 1, 0) := by kernel_rfl
@[simp] theorem fieldOff_174_1 : fieldOff Tryz.prog 174 1 = some 1 := by kernel_rfl
@[simp] theorem fieldPart_174_1 : fieldPart Tryz.prog 174 1 = some (false, 1, 1) := by kernel_rfl
@[simp] theorem fieldOff_174_2 : fieldOff Tryz.prog 174 2 = some 2 := by kernel_rfl
@[simp] theorem fieldPart_174_2 : fieldPart Tryz.prog 174 2 = some (false, 1, 2) := by kernel_rfl
@[simp] theorem fieldOff_174_3 : fieldOff Tryz.prog 174 3 = some 3 := by kernel_rfl
@[simp] theorem fieldPart_174_3 : fieldPart Tryz.prog 174 3 = some (false, 1, 3) := by kernel_rfl
@[simp] theorem fieldOff_175_0 : fieldOff Tryz.prog 175 0 = some 0 := by kernel_rfl
@[simp] theorem fieldPart_175_0 : fieldPart Tryz.prog 175 0 = some (false, 1, 0) := by kernel_rfl
@[simp] theorem fieldOff_175_1 : fieldOff Tryz.prog 175 1 = some 1 := by kernel_rfl
@[simp] theorem fieldPart_175_1 : fieldPart Tryz.prog 175 1 = some (false, 1, 1) := by kernel_rfl
@[simp] theorem fieldOff_175_2 : fieldOff Tryz.prog 175 2 = some 2 := by kernel_rfl
@[simp] theorem fieldPart_175_2 : fieldPart Tryz.prog 175 2 = some (false, 1, 2) := by kernel_rfl
@[simp] theorem fieldOff_175_3 : fieldOff Tryz.prog 175 3 = some 3 := by kernel_rfl
@[simp] theorem fieldPart_175_3 : fieldPart Tryz.prog 175 3 = some (false, 1, 3) := by kernel_rfl
@[simp] theorem fieldPart_177_0 : fieldPart Tryz.prog 177 0 = some (true, 0, 0) := by kernel_rfl
@[simp] theorem fieldPart_178_0 : fieldPart Tryz.prog 178 0 = some (true, 0, 0) := by kernel_rfl
@[simp] theorem fieldOff_184_0 : fieldOff Tryz.prog 184 0 = some 0 := by kernel_rfl
@[simp] theorem fieldPart_184_0 : fieldPart Tryz.prog 184 0 = some (false, 1, 0) := by kernel_rfl
@[simp] theorem fieldOff_184_1 : fieldOff Tryz.prog 184 1 = some 1 := by kernel_rfl
@[simp] theorem fieldPart_184_1 : fieldPart Tryz.prog 184 1 = some (false, 1, 1) := by kernel_rfl
@[simp] theorem fieldOff_184_2 : fieldOff Tryz.prog 184 2 = some 2 := by kernel_rfl
@[simp] theorem fieldPart_184_2 : fieldPart Tryz.prog 184 2 = some (false, 1, 2) := by kernel_rfl
@[simp] theorem fieldOff_184_3 : fieldOff Tryz.prog 184 3 = some 3 := by kernel_rfl
@[simp] theorem fieldPart_184_3 : fieldPart Tryz.prog 184 3 = some (false, 1, 3) := by kernel_rfl
@[simp] theorem fieldOff_184_4 : fieldOff Tryz.prog 184 4 = some 4 := by kernel_rfl
@[simp] theorem fieldPart_184_4 : fieldPart Tryz.prog 184 4 = some (false, 1, 4) := by kernel_rfl
@[simp] theorem fieldOff_184_5 : fieldOff Tryz.prog 184 5 = some 5 := by kernel_rfl
@[simp] theorem fieldPart_184_5 : fieldPart Tryz.prog 184 5 = some (false, 1, 5) := by kernel_rfl
@[simp] theorem fieldOff_184_6 : fieldOff Tryz.prog 184 6 = some 6 := by kernel_rfl
@[simp] theorem fieldPart_184_6 : fieldPart Tryz.prog 184 6 = some (false, 1, 6) := by kernel_rfl
@[simp] theorem fieldOff_184_7 : fieldOff Tryz.prog 184 7 = some 7 := by kernel_rfl
@[simp] theorem fieldPart_184_7 : fieldPart Tryz.prog 184 7 = some (false, 1, 7) := by kernel_rfl
@[simp] theorem fieldOff_184_8 : fieldOff Tryz.prog 184 8 = some 8 := by kernel_rfl
@[simp] theorem fieldPart_184_8 : fieldPart Tryz.prog 184 8 = some (false, 1, 8) := by kernel_rfl
@[simp] theorem fieldOff_184_9 : fieldOff Tryz.prog 184 9 = some 9 := by kernel_rfl
@[simp] theorem fieldPart_184_9 : fieldPart Tryz.prog 184 9 = some (false, 1, 9) := by kernel_rfl
@[simp] theorem fieldOff_184_10 : fieldOff Tryz.prog 184 10 = some 10 := by kernel_rfl
@[simp] theorem fieldPart_184_10 : fieldPart Tryz.prog 184 10 = some (false, 1, 10) := by kernel_rfl
@[simp] theorem fieldOff_185_0 : fieldOff Tryz.prog 185 0 = some 0 := by kernel_rfl
@[simp] theorem fieldPart_185_0 : fieldPart Tryz.prog 185 0 = some (false, 1, 0) := by kernel_rfl
@[simp] theorem fieldOff_185_1 : fieldOff Tryz.prog 185 1 = some 1 := by kernel_rfl
@[simp] theorem fieldPart_185_1 : fieldPart Tryz.prog 185 1 = some (false, 1, 1) := by kernel_rfl
@[simp] theorem fieldOff_185_2 : fieldOff Tryz.prog 185 2 = some 2 := by kernel_rfl
@[simp] theorem fieldPart_185_2 : fieldPart Tryz.prog 185 2 = some (false, 1, 2) := by kernel_rfl
@[simp] theorem fieldOff_185_3 : fieldOff Tryz.prog 185 3 = some 3 := by kernel_rfl
@[simp] theorem fieldPart_185_3 : fieldPart Tryz.prog 185 3 = some (false, 1, 3) := by kernel_rfl
@[simp] theorem fieldOff_185_4 : fieldOff Tryz.prog 185 4 = some 4 := by kernel_rfl
@[simp] theorem fieldPart_185_4 : fieldPart Tryz.prog 185 4 = some (false, 1, 4) := by kernel_rfl
@[simp] theorem fieldOff_185_5 : fieldOff Tryz.prog 185 5 = some 5 := by kernel_rfl
@[simp] theorem fieldPart_185_5 : fieldPart Tryz.prog 185 5 = some (false, 1, 5) := by kernel_rfl
@[simp] theorem fieldOff_185_6 : fieldOff Tryz.prog 185 6 = some 6 := by kernel_rfl
@[simp] theorem fieldPart_185_6 : fieldPart Tryz.prog 185 6 = some (false, 1, 6) := by kernel_rfl
@[simp] theorem fieldOff_185_7 : fieldOff Tryz.prog 185 7 = some 7 := by kernel_rfl
@[simp] theorem fieldPart_185_7 : fieldPart Tryz.prog 185 7 = some (false, 1, 7) := by kernel_rfl
@[simp] theorem fieldOff_185_8 : fieldOff Tryz.prog 185 8 = some 8 := by kernel_rfl
@[simp] theorem fieldPart_185_8 : fieldPart Tryz.prog 185 8 = some (false, 1, 8) := by kernel_rfl
@[simp] theorem fieldOff_185_9 : fieldOff Tryz.prog 185 9 = some 9 := by kernel_rfl
@[simp] theorem fieldPart_185_9 : fieldPart Tryz.prog 185 9 = some (false, 1, 9) := by kernel_rfl
@[simp] theorem fieldOff_185_10 : fieldOff Tryz.prog 185 10 = some 10 := by kernel_rfl
@[simp] theorem fieldPart_185_10 : fieldPart Tryz.prog 185 10 = some (false, 1, 10) := by kernel_rfl
@[simp] theorem callable_2 : callable Tryz.prog 2 = true := by kernel_rfl
@[simp] theorem callable_3 : callable Tryz.prog 3 = true := by kernel_rfl
@[simp] theorem callable_4 : callable Tryz.prog 4 = true := by kernel_rfl
@[simp] theorem callable_5 : callable Tryz.prog 5 = true := by kernel_rfl
@[simp] theorem callable_6 : callable Tryz.prog 6 = true := by kernel_rfl
@[simp] theorem callable_7 : callable Tryz.prog 7 = true := by kernel_rfl
@[simp] theorem callable_8 : callable Tryz.prog 8 = true := by kernel_rfl
@[simp] theorem callable_9 : callable Tryz.prog 9 = true := by kernel_rfl
@[simp] theorem callable_10 : callable Tryz.prog 10 = true := by kernel_rfl
@[simp] theorem callable_11 : callable Tryz.prog 11 = true := by kernel_rfl
@[simp] theorem callable_12 : callable Tryz.prog 12 = true := by kernel_rfl
@[simp] theorem callable_13 : callable Tryz.prog 13 = true := by kernel_rfl
@[simp] theorem callable_14 : callable Tryz.prog 14 = true := by kernel_rfl
@[simp] theorem callable_15 : callable Tryz.prog 15 = true := by kernel_rfl
@[simp] theorem callable_16 : callable Tryz.prog 16 = true := by kernel_rfl
@[simp] theorem callable_17 : callable Tryz.prog 17 = true := by kernel_rfl
@[simp] theorem callable_18 : callable Tryz.prog 18 = true := by kernel_rfl
@[simp] theorem callable_19 : callable Tryz.prog 19 = true := by kernel_rfl
@[simp] theorem callable_20 : callable Tryz.prog 20 = true := by kernel_rfl
@[simp] theorem callable_21 : callable Tryz.prog 21 = true := by kernel_rfl
@[simp] theorem callable_22 : callable Tryz.prog 22 = true := by kernel_rfl
@[simp] theorem callable_23 : callable Tryz.prog 23 = true := by kernel_rfl
@[simp] theorem callable_24 : callable Tryz.prog 24 = true := by kernel_rfl
@[simp] theorem callable_25 : callable Tryz.prog 25 = true := by kernel_rfl
@[simp] theorem callable_26 : callable Tryz.prog 26 = true := by kernel_rfl
@[simp] theorem callable_27 : callable Tryz.prog 27 = true := by kernel_rfl
@[simp] theorem callable_28 : callable Tryz.prog 28 = true := by kernel_rfl
@[simp] theorem callable_29 : callable Tryz.prog 29 = true := by kernel_rfl
@[simp] theorem callable_30 : callable Tryz.prog 30 = true := by kernel_rfl
@[simp] theorem callable_31 : callable Tryz.prog 31 = true := by kernel_rfl
@[simp] theorem callable_32 : callable Tryz.prog 32 = true := by kernel_rfl
@[simp] theorem callable_33 : callable Tryz.prog 33 = true := by kernel_rfl
@[simp] theorem callable_34 : callable Tryz.prog 34 = true := by kernel_rfl
@[simp] theorem callable_35 : callable Tryz.prog 35 = true := by kernel_rfl
@[simp] theorem callable_36 : callable Tryz.prog 36 = true := by kernel_rfl
@[simp] theorem callable_37 : callable Tryz.prog 37 = true := by kernel_rfl
@[simp] theorem callable_38 : callable Tryz.prog 38 = true := by kernel_rfl
@[simp] theorem callable_39 : callable Tryz.prog 39 = true := by kernel_rfl
@[simp] theorem callable_40 : callable Tryz.prog 40 = true := by kernel_rfl
@[simp] theorem callable_41 : callable Tryz.prog 41 = true := by kernel_rfl
@[simp] theorem callable_42 : callable Tryz.prog 42 = true := by kernel_rfl
@[simp] theorem callable_43 : callable Tryz.prog 43 = true := by kernel_rfl
@[simp] theorem callable_44 : callable Tryz.prog 44 = true := by kernel_rfl
@[simp] theorem callable_45 : callable Tryz.prog 45 = true := by kernel_rfl
@[simp] theorem callable_46 : callable Tryz.prog 46 = true := by kernel_rfl
@[simp] theorem callable_47 : callable Tryz.prog 47 = true := by kernel_rfl
@[simp] theorem callable_48 : callable Tryz.prog 48 = true := by kernel_rfl
@[simp] theorem callable_49 : callable Tryz.prog 49 = true := by kernel_rfl
@[simp] theorem callable_50 : callable Tryz.prog 50 = true := by kernel_rfl
@[simp] theorem callable_51 : callable Tryz.prog 51 = true := by kernel_rfl
@[simp] theorem callable_52 : callable Tryz.prog 52 = true := by kernel_rfl
@[simp] theorem callable_53 : callable Tryz.prog 53 = true := by kernel_rfl
@[simp] theorem callable_54 : callable Tryz.prog 54 = true := by kernel_rfl
@[simp] theorem callable_55 : callable Tryz.prog 55 = true := by kernel_rfl
@[simp] theorem callable_56 : callable Tryz.prog 56 = true := by kernel_rfl
@[simp] theorem callable_57 : callable Tryz.prog 57 = true := by kernel_rfl
@[simp] theorem callable_58 : callable Tryz.prog 58 = true := by kernel_rfl
@[simp] theorem callable_59 : callable Tryz.prog 59 = true := by kernel_rfl
@[simp] theorem callable_60 : callable Tryz.prog 60 = true := by kernel_rfl
@[simp] theorem callable_61 : callable Tryz.prog 61 = true := by kernel_rfl
@[simp] theorem callable_62 : callable Tryz.prog 62 = true := by kernel_rfl
@[simp] theorem callable_63 : callable Tryz.prog 63 = true := by kernel_rfl
@[simp] theorem callable_64 : callable Tryz.prog 64 = true := by kernel_rfl
@[simp] theorem callable_67 : callable Tryz.prog 67 = true := by kernel_rfl
@[simp] theorem callable_68 : callable Tryz.prog 68 = true := by kernel_rfl
@[simp] theorem callable_69 : callable Tryz.prog 69 = true := by kernel_rfl
@[simp] theorem callable_70 : callable Tryz.prog 70 = true := by kernel_rfl
@[simp] theorem callable_71 : callable Tryz.prog 71 = true := by kernel_rfl
@[simp] theorem callable_72 : callable Tryz.prog 72 = true := by kernel_rfl
@[simp] theorem callable_73 : callable Tryz.prog 73 = true := by kernel_rfl
@[simp] theorem callable_74 : callable Tryz.prog 74 = true := by kernel_rfl
@[simp] theorem callable_75 : callable Tryz.prog 75 = true := by kernel_rfl
@[simp] theorem callable_76 : callable Tryz.prog 76 = true := by kernel_rfl
@[simp] theorem callable_77 : callable Tryz.prog 77 = true := by kernel_rfl
@[simp] theorem callable_78 : callable Tryz.prog 78 = true := by kernel_rfl
@[simp] theorem callable_79 : callable Tryz.prog 79 = true := by kernel_rfl
@[simp] theorem callable_80 : callable Tryz.prog 80 = true := by kernel_rfl
@[simp] theorem callable_81 : callable Tryz.prog 81 = true := by kernel_rfl
@[simp] theorem callable_82 : callable Tryz.prog 82 = true := by kernel_rfl
@[simp] theorem callable_83 : callable Tryz.prog 83 = true := by kernel_rfl
@[simp] theorem callable_85 : callable Tryz.prog 85 = true := by kernel_rfl
@[simp] theorem callable_86 : callable Tryz.prog 86 = true := by kernel_rfl
@[simp] theorem callable_87 : callable Tryz.prog 87 = true := by kernel_rfl
@[simp] theorem callable_88 : callable Tryz.prog 88 = true := by kernel_rfl
@[simp] theorem callable_89 : callable Tryz.prog 89 = true := by kernel_rfl
@[simp] theorem callable_90 : callable Tryz.prog 90 = true := by kernel_rfl
@[simp] theorem callable_91 : callable Tryz.prog 91 = true := by kernel_rfl
@[simp] theorem callable_92 : callable Tryz.prog 92 = true := by kernel_rfl
@[simp] theorem callable_93 : callable Tryz.prog 93 = true := by kernel_rfl
@[simp] theorem callable_94 : callable Tryz.prog 94 = true := by kernel_rfl
@[simp] theorem callable_95 : callable Tryz.prog 95 = true := by kernel_rfl
@[simp] theorem callable_96 : callable Tryz.prog 96 = true := by kernel_rfl
@[simp] theorem callable_97 : callable Tryz.prog 97 = true := by kernel_rfl
@[simp] theorem callable_98 : callable Tryz.prog 98 = true := by kernel_rfl
@[simp] theorem callable_99 : callable Tryz.prog 99 = true := by kernel_rfl
@[simp] theorem callable_100 : callable Tryz.prog 100 = true := by kernel_rfl
@[simp] theorem callable_101 : callable Tryz.prog 101 = true := by kernel_rfl
@[simp] theorem callable_102 : callable Tryz.prog 102 = true := by kernel_rfl
@[simp] theorem callable_103 : callable Tryz.prog 103 = true := by kernel_rfl
@[simp] theorem callable_104 : callable Tryz.prog 104 = true := by kernel_rfl
@[simp] theorem callable_105 : callable Tryz.prog 105 = true := by kernel_rfl
@[simp] theorem callable_106 : callable Tryz.prog 106 = true := by kernel_rfl
@[simp] theorem callable_107 : callable Tryz.prog 107 = true := by kernel_rfl
@[simp] theorem callable_108 : callable Tryz.prog 108 = true := by kernel_rfl
@[simp] theorem callable_109 : callable Tryz.prog 109 = true := by kernel_rfl
@[simp] theorem callable_110 : callable Tryz.prog 110 = true := by kernel_rfl
@[simp] theorem callable_111 : callable Tryz.prog 111 = true := by kernel_rfl
@[simp] theorem callable_112 : callable Tryz.prog 112 = true := by kernel_rfl
@[simp] theorem callable_113 : callable Tryz.prog 113 = true := by kernel_rfl
@[simp] theorem callable_115 : callable Tryz.prog 115 = true := by kernel_rfl
@[simp] theorem callable_116 : callable Tryz.prog 116 = true := by kernel_rfl
@[simp] theorem callable_117 : callable Tryz.prog 117 = true := by kernel_rfl
@[simp] theorem callable_118 : callable Tryz.prog 118 = true := by kernel_rfl
@[simp] theorem callable_119 : callable Tryz.prog 119 = true := by kernel_rfl
@[simp] theorem callable_120 : callable Tryz.prog 120 = true := by kernel_rfl
@[simp] theorem callable_121 : callable Tryz.prog 121 = true := by kernel_rfl
@[simp] theorem callable_123 : callable Tryz.prog 123 = true := by kernel_rfl
@[simp] theorem callable_124 : callable Tryz.prog 124 = true := by kernel_rfl
@[simp] theorem callable_154 : callable Tryz.prog 154 = true := by kernel_rfl
@[simp] theorem extra_0 : toUnsafe Tryz.prog 62 119 = true := by kernel_rfl
@[simp] theorem extra_1 : toUnsafe Tryz.prog 119 62 = false := by kernel_rfl
@[simp] theorem extra_2 : fromUnsafe Tryz.prog 119 62 64 2 0 = true := by kernel_rfl
@[simp] theorem extra_3 : fromUnsafe Tryz.prog 62 119 64 2 0 = false := by kernel_rfl
@[simp] theorem extra_4 : noEscape Tryz.prog 65 = true := by kernel_rfl
@[simp] theorem extra_5 : callable Tryz.prog 65 = false := by kernel_rfl
@[simp] theorem extra_6 : byteRows Tryz.prog 98 5 = true := by kernel_rfl
@[simp] theorem extra_7 : emptyAgg Tryz.prog 106 = true := by kernel_rfl
end Go.Proofs.YtddngfpgeifffaaGreatDoor
