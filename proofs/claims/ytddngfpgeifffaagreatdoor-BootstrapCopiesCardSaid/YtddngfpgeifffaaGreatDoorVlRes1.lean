/- A part of the proof: Res1. -/
import Derived.Test.YtddngfpgeifffaaGreatDoorProg
import Derived.KernelRfl
set_option linter.unusedVariables false
set_option linter.unusedSimpArgs false
/- What each function returns, and how many places its frame has. -/
namespace Go.Proofs.YtddngfpgeifffaaGreatDoor
open Go Go.Proofs
@[simp] theorem res_3 : Tryz.f3.results.toList = [.tmp 4] := by kernel_rfl
@[simp] theorem nt_3 : Tryz.f3.ntmps = 66 := by kernel_rfl
@[simp] theorem res_4 : Tryz.f4.results.toList = [.tmp 6] := by kernel_rfl
@[simp] theorem nt_4 : Tryz.f4.ntmps = 222 := by kernel_rfl
@[simp] theorem res_5 : Tryz.f5.results.toList = [.tmp 0] := by kernel_rfl
@[simp] theorem nt_5 : Tryz.f5.ntmps = 44 := by kernel_rfl
@[simp] theorem res_6 : Tryz.f6.results.toList = [.tmp 6] := by kernel_rfl
@[simp] theorem nt_6 : Tryz.f6.ntmps = 32 := by kernel_rfl
@[simp] theorem res_7 : Tryz.f7.results.toList = [.tmp 4] := by kernel_rfl
@[simp] theorem nt_7 : Tryz.f7.ntmps = 16 := by kernel_rfl
@[simp] theorem res_8 : Tryz.f8.results.toList = [.tmp 4] := by kernel_rfl
@[simp] theorem nt_8 : Tryz.f8.ntmps = 37 := by kernel_rfl
@[simp] theorem res_9 : Tryz.f9.results.toList = [.tmp 4, .tmp 5] := by kernel_rfl
@[simp] theorem nt_9 : Tryz.f9.ntmps = 55 := by kernel_rfl
@[simp] theorem res_10 : Tryz.f10.results.toList = [.cell 6 35] := by kernel_rfl
@[simp] theorem nt_10 : Tryz.f10.ntmps = 26 := by kernel_rfl
@[simp] theorem res_11 : Tryz.f11.results.toList = [.tmp 0] := by kernel_rfl
@[simp] theorem nt_11 : Tryz.f11.ntmps = 26 := by kernel_rfl
@[simp] theorem res_12 : Tryz.f12.results.toList = [.tmp 4] := by kernel_rfl
@[simp] theorem nt_12 : Tryz.f12.ntmps = 51 := by kernel_rfl
@[simp] theorem res_13 : Tryz.f13.results.toList = [.tmp 4] := by kernel_rfl
@[simp] theorem nt_13 : Tryz.f13.ntmps = 16 := by kernel_rfl
@[simp] theorem res_14 : Tryz.f14.results.toList = [.cell 4 9, .cell 5 39, .cell 6 31] := by kernel_rfl
@[simp] theorem nt_14 : Tryz.f14.ntmps = 79 := by kernel_rfl
@[simp] theorem res_15 : Tryz.f15.results.toList = [.tmp 4] := by kernel_rfl
@[simp] theorem nt_15 : Tryz.f15.ntmps = 125 := by kernel_rfl
@[simp] theorem res_16 : Tryz.f16.results.toList = [.cell 8 35] := by kernel_rfl
@[simp] theorem nt_16 : Tryz.f16.ntmps = 106 := by kernel_rfl
@[simp] theorem res_17 : Tryz.f17.results.toList = [.tmp 4] := by kernel_rfl
@[simp] theorem nt_17 : Tryz.f17.ntmps = 8 := by kernel_rfl
@[simp] theorem res_18 : Tryz.f18.results.toList = [.tmp 4] := by kernel_rfl
@[simp] theorem nt_18 : Tryz.f18.ntmps = 6 := by kernel_rfl
@[simp] theorem res_19 : Tryz.f19.results.toList = [.tmp 2] := by kernel_rfl
@[simp] theorem nt_19 : Tryz.f19.ntmps = 8 := by kernel_rfl
@[simp] theorem res_20 : Tryz.f20.results.toList = [.tmp 4, .tmp 5] := by kernel_rfl
@[simp] theorem nt_20 : Tryz.f20.ntmps = 50 := by kernel_rfl
@[simp] theorem res_21 : Tryz.f21.results.toList = [.tmp 4] := by kernel_rfl
@[simp] theorem nt_21 : Tryz.f21.ntmps = 24 := by kernel_rfl
@[simp] theorem res_22 : Tryz.f22.results.toList = [.tmp 2, .tmp 3] := by kernel_rfl
@[simp] theorem nt_22 : Tryz.f22.ntmps = 48 := by kernel_rfl
@[simp] theorem res_23 : Tryz.f23.results.toList = [.tmp 4, .tmp 5] := by kernel_rfl
@[simp] theorem nt_23 : Tryz.f23.ntmps = 19 := by kernel_rfl
@[simp] theorem res_24 : Tryz.f24.results.toList = [.tmp 2] := by kernel_rfl
@[simp] theorem nt_24 : Tryz.f24.ntmps = 14 := by kernel_rfl
@[simp] theorem res_25 : Tryz.f25.results.toList = [.cell 8 35] := by kernel_rfl
@[simp] theorem nt_25 : Tryz.f25.ntmps = 17 := by kernel_rfl
@[simp] theorem res_26 : Tryz.f26.results.toList = [.tmp 4] := by kernel_rfl
@[simp] theorem nt_26 : Tryz.f26.ntmps = 20 := by kernel_rfl
@[simp] theorem res_27 : Tryz.f27.results.toList = [.tmp 4, .tmp 5] := by kernel_rfl
@[simp] theorem nt_27 : Tryz.f27.ntmps = 30 := by kernel_rfl
@[simp] theorem res_28 : Tryz.f28.results.toList = [] := by kernel_rfl
@[simp] theorem nt_28 : Tryz.f28.ntmps = 25 := by kernel_rfl
@[simp] theorem res_29 : Tryz.f29.results.toList = [.tmp 2] := by kernel_rfl
@[simp] theorem nt_29 : Tryz.f29.ntmps = 8 := by kernel_rfl
@[simp] theorem res_30 : Tryz.f30.results.toList = [.tmp 0] := by kernel_rfl
@[simp] theorem nt_30 : Tryz.f30.ntmps = 3 := by kernel_rfl
@[simp] theorem res_31 : Tryz.f31.results.toList = [.cell 4 31] := by kernel_rfl
@[simp] theorem nt_31 : Tryz.f31.ntmps = 59 := by kernel_rfl
@[simp] theorem res_32 : Tryz.f32.results.toList = [.tmp 4] := by kernel_rfl
@[simp] theorem nt_32 : Tryz.f32.ntmps = 18 := by kernel_rfl
@[simp] theorem res_33 : Tryz.f33.results.toList = [] := by kernel_rfl
@[simp] theorem nt_33 : Tryz.f33.ntmps = 51 := by kernel_rfl
@[simp] theorem res_34 : Tryz.f34.results.toList = [.cell 2 56, .tmp 3] := by kernel_rfl
@[simp] theorem nt_34 : Tryz.f34.ntmps = 107 := by kernel_rfl
@[simp] theorem res_35 : Tryz.f35.results.toList = [.tmp 2] := by kernel_rfl
@[simp] theorem nt_35 : Tryz.f35.ntmps = 20 := by kernel_rfl
@[simp] theorem res_36 : Tryz.f36.results.toList = [.tmp 2] := by kernel_rfl
@[simp] theorem nt_36 : Tryz.f36.ntmps = 35 := by kernel_rfl
@[simp] theorem res_37 : Tryz.f37.results.toList = [.tmp 2, .tmp 3] := by kernel_rfl
@[simp] theorem nt_37 : Tryz.f37.ntmps = 9 := by kernel_rfl
@[simp] theorem res_38 : Tryz.f38.results.toList = [.tmp 0] := by kernel_rfl
@[simp] theorem nt_38 : Tryz.f38.ntmps = 1 := by kernel_rfl
@[simp] theorem res_39 : Tryz.f39.results.toList = [.tmp 2] := by kernel_rfl
@[simp] theorem nt_39 : Tryz.f39.ntmps = 26 := by kernel_rfl
@[simp] theorem res_40 : Tryz.f40.results.toList = [.tmp 2] := by kernel_rfl
@[simp] theorem nt_40 : Tryz.f40.ntmps = 17 := by kernel_rfl
@[simp] theorem res_41 : Tryz.f41.results.toList = [] := by kernel_rfl
@[simp] theorem nt_41 : Tryz.f41.ntmps = 20 := by kernel_rfl
@[simp] theorem res_42 : Tryz.f42.results.toList = [.tmp 4, .tmp 5] := by kernel_rfl
@[simp] theorem nt_42 : Tryz.f42.ntmps = 17 := by kernel_rfl
@[simp] theorem res_43 : Tryz.f43.results.toList = [.tmp 4, .tmp 5] := by kernel_rfl
@[simp] theorem nt_43 : Tryz.f43.ntmps = 51 := by kernel_rfl
@[simp] theorem res_44 : Tryz.f44.results.toList = [] := by kernel_rfl
@[simp] theorem nt_44 : Tryz.f44.ntmps = 30 := by kernel_rfl
@[simp] theorem res_45 : Tryz.f45.results.toList = [.tmp 4] := by kernel_rfl
@[simp] theorem nt_45 : Tryz.f45.ntmps = 8 := by kernel_rfl
@[simp] theorem res_46 : Tryz.f46.results.toList = [.tmp 4] := by kernel_rfl
@[simp] theorem nt_46 : Tryz.f46.ntmps = 8 := by kernel_rfl
@[simp] theorem res_47 : Tryz.f47.results.toList = [.tmp 4] := by kernel_rfl
@[simp] theorem nt_47 : Tryz.f47.ntmps = 8 := by kernel_rfl
@[simp] theorem res_48 : Tryz.f48.results.toList = [.tmp 4] := by kernel_rfl
@[simp] theorem nt_48 : Tryz.f48.ntmps = 11 := by kernel_rfl
@[simp] theorem res_49 : Tryz.f49.results.toList = [] := by kernel_rfl
@[simp] theorem nt_49 : Tryz.f49.ntmps = 6 := by kernel_rfl
@[simp] theorem res_50 : Tryz.f50.results.toList = [.tmp 4] := by kernel_rfl
@[simp] theorem nt_50 : Tryz.f50.ntmps = 11 := by kernel_rfl
@[simp] theorem res_51 : Tryz.f51.results.toList = [.tmp 4] := by kernel_rfl
@[simp] theorem nt_51 : Tryz.f51.ntmps = 8 := by kernel_rfl
@[simp] theorem res_52 : Tryz.f52.results.toList = [.tmp 4] := by kernel_rfl
@[simp] theorem nt_52 : Tryz.f52.ntmps = 8 := by kernel_rfl
@[simp] theorem res_53 : Tryz.f53.results.toList = [] := by kernel_rfl
@[simp] theorem nt_53 : Tryz.f53.ntmps = 14 := by kernel_rfl
@[simp] theorem res_54 : Tryz.f54.results.toList = [] := by kernel_rfl
@[simp] theorem nt_54 : Tryz.f54.ntmps = 219 := by kernel_rfl
@[simp] theorem res_55 : Tryz.f55.results.toList = [.tmp 2] := by kernel_rfl
@[simp] theorem nt_55 : Tryz.f55.ntmps = 6 := by kernel_rfl
@[simp] theorem res_56 : Tryz.f56.results.toList = [.tmp 2] := by kernel_rfl
@[simp] theorem nt_56 : Tryz.f56.ntmps = 5 := by kernel_rfl
@[simp] theorem res_57 : Tryz.f57.results.toList = [.tmp 2, .tmp 3, .tmp 4] := by kernel_rfl
@[simp] theorem nt_57 : Tryz.f57.ntmps = 57 := by kernel_rfl
@[simp] theorem res_58 : Tryz.f58.results.toList = [.tmp 3] := by kernel_rfl
@[simp] theorem nt_58 : Tryz.f58.ntmps = 15 := by kernel_rfl
@[simp] theorem res_59 : Tryz.f59.results.toList = [.tmp 4] := by kernel_rfl
@[simp] theorem nt_59 : Tryz.f59.ntmps = 8 := by kernel_rfl
@[simp] theorem res_60 : Tryz.f60.results.toList = [.tmp 2, .tmp 3] := by kernel_rfl
@[simp] theorem nt_60 : Tryz.f60.ntmps = 17 := by kernel_rfl
@[simp] theorem res_61 : Tryz.f61.results.toList = [.tmp 4] := by kernel_rfl
@[simp] theorem nt_61 : Tryz.f61.ntmps = 43 := by kernel_rfl
@[simp] theorem res_62 : Tryz.f62.results.toList = [.tmp 6, .tmp 7] := by kernel_rfl
@[simp] theorem nt_62 : Tryz.f62.ntmps = 26 := by kernel_rfl
@[simp] theorem res_63 : Tryz.f63.results.toList = [.tmp 4] := by kernel_rfl
@[simp] theorem nt_63 : Tryz.f63.ntmps = 17 := by kernel_rfl
@[simp] theorem res_64 : Tryz.f64.results.toList = [.tmp 2] := by kernel_rfl
@[simp] theorem nt_64 : Tryz.f64.ntmps = 17 := by kernel_rfl
@[simp] theorem res_65 : Tryz.f65.results.toList = [] := by kernel_rfl
@[simp] theorem nt_65 : Tryz.f65.ntmps = 1 := by kernel_rfl
@[simp] theorem res_66 : Tryz.f66.results.toList = [] := by kernel_rfl
@[simp] theorem nt_66 : Tryz.f66.ntmps = 1 := by kernel_rfl
@[simp] theorem res_67 : Tryz.f67.results.toList = [] := by kernel_rfl
@[simp] theorem nt_67 : Tryz.f67.ntmps = 21 := by kernel_rfl
@[simp] theorem res_68 : Tryz.f68.results.toList = [.tmp 2] := by kernel_rfl
@[simp] theorem nt_68 : Tryz.f68.ntmps = 10 := by kernel_rfl
@[simp] theorem res_69 : Tryz.f69.results.toList = [.tmp 2] := by kernel_rfl
@[simp] theorem nt_69 : Tryz.f69.ntmps = 32 := by kernel_rfl
@[simp] theorem res_70 : Tryz.f70.results.toList = [.tmp 4] := by kernel_rfl
@[simp] theorem nt_70 : Tryz.f70.ntmps = 34 := by kernel_rfl
@[simp] theorem res_71 : Tryz.f71.results.toList = [.tmp 4] := by kernel_rfl
@[simp] theorem nt_71 : Tryz.f71.ntmps = 9 := by kernel_rfl
@[simp] theorem res_72 : Tryz.f72.results.toList = [.tmp 4] := by kernel_rfl
@[simp] theorem nt_72 : Tryz.f72.ntmps = 32 := by kernel_rfl
@[simp] theorem res_73 : Tryz.f73.results.toList = [.tmp 4] := by kernel_rfl
@[simp] theorem nt_73 : Tryz.f73.ntmps = 17 := by kernel_rfl
@[simp] theorem res_74 : Tryz.f74.results.toList = [.tmp 4] := by kernel_rfl
@[simp] theorem nt_74 : Tryz.f74.ntmps = 23 := by kernel_rfl
@[simp] theorem res_75 : Tryz.f75.results.toList = [.cell 2 127, .tmp 3] := by kernel_rfl
@[simp] theorem nt_75 : Tryz.f75.ntmps = 21 := by kernel_rfl
@[simp] theorem res_76 : Tryz.f76.results.toList = [.tmp 4] := by kernel_rfl
@[simp] theorem nt_76 : Tryz.f76.ntmps = 16 := by kernel_rfl
@[simp] theorem res_77 : Tryz.f77.results.toList = [.tmp 4] := by kernel_rfl
@[simp] theorem nt_77 : Tryz.f77.ntmps = 22 := by kernel_rfl
@[simp] theorem res_78 : Tryz.f78.results.toList = [.tmp 4] := by kernel_rfl
@[simp] theorem nt_78 : Tryz.f78.ntmps = 23 := by kernel_rfl
@[simp] theorem res_79 : Tryz.f79.results.toList = [.tmp 4] := by kernel_rfl
@[simp] theorem nt_79 : Tryz.f79.ntmps = 34 := by kernel_rfl
@[simp] theorem res_80 : Tryz.f80.results.toList = [.tmp 6, .tmp 7] := by kernel_rfl
@[simp] theorem nt_80 : Tryz.f80.ntmps = 172 := by kernel_rfl
@[simp] theorem res_81 : Tryz.f81.results.toList = [.tmp 10] := by kernel_rfl
@[simp] theorem nt_81 : Tryz.f81.ntmps = 43 := by kernel_rfl
@[simp] theorem res_82 : Tryz.f82.results.toList = [.tmp 4] := by kernel_rfl
@[simp] theorem nt_82 : Tryz.f82.ntmps = 25 := by kernel_rfl
@[simp] theorem res_83 : Tryz.f83.results.toList = [.tmp 2] := by kernel_rfl
@[simp] theorem nt_83 : Tryz.f83.ntmps = 10 := by kernel_rfl
@[simp] theorem res_84 : Tryz.f84.results.toList = [] := by kernel_rfl
@[simp] theorem nt_84 : Tryz.f84.ntmps = 2 := by kernel_rfl
@[simp] theorem res_85 : Tryz.f85.results.toList = [.tmp 4] := by kernel_rfl
@[simp] theorem nt_85 : Tryz.f85.ntmps = 8 := by kernel_rfl
@[simp] theorem res_86 : Tryz.f86.results.toList = [.tmp 2] := by kernel_rfl
@[simp] theorem nt_86 : Tryz.f86.ntmps = 15 := by kernel_rfl
@[simp] theorem res_87 : Tryz.f87.results.toList = [.tmp 2] := by kernel_rfl
@[simp] theorem nt_87 : Tryz.f87.ntmps = 15 := by kernel_rfl
@[simp] theorem res_88 : Tryz.f88.results.toList = [] := by kernel_rfl
@[simp] theorem nt_88 : Tryz.f88.ntmps = 167 := by kernel_rfl
@[simp] theorem res_89 : Tryz.f89.results.toList = [.tmp 10, .tmp 11] := by kernel_rfl
@[simp] theorem nt_89 : Tryz.f89.ntmps = 102 := by kernel_rfl
@[simp] theorem res_90 : Tryz.f90.results.toList = [.tmp 4] := by kernel_rfl
@[simp] theorem nt_90 : Tryz.f90.ntmps = 10 := by kernel_rfl
@[simp] theorem res_91 : Tryz.f91.results.toList = [.tmp 2, .tmp 3] := by kernel_rfl
@[simp] theorem nt_91 : Tryz.f91.ntmps = 19 := by kernel_rfl
@[simp] theorem res_92 : Tryz.f92.results.toList = [.tmp 4] := by kernel_rfl
@[simp] theorem nt_92 : Tryz.f92.ntmps = 9 := by kernel_rfl
@[simp] theorem res_93 : Tryz.f93.results.toList = [.tmp 2, .tmp 3] := by kernel_rfl
@[simp] theorem nt_93 : Tryz.f93.ntmps = 51 := by kernel_rfl
@[simp] theorem res_94 : Tryz.f94.results.toList = [.tmp 2] := by kernel_rfl
@[simp] theorem nt_94 : Tryz.f94.ntmps = 5 := by kernel_rfl
@[simp] theorem res_95 : Tryz.f95.results.toList = [.tmp 2] := by kernel_rfl
@[simp] theorem nt_95 : Tryz.f95.ntmps = 94 := by kernel_rfl
@[simp] theorem res_96 : Tryz.f96.results.toList = [.tmp 4] := by kernel_rfl
@[simp] theorem nt_96 : Tryz.f96.ntmps = 11 := by kernel_rfl
@[simp] theorem res_97 : Tryz.f97.results.toList = [.tmp 4] := by kernel_rfl
@[simp] theorem nt_97 : Tryz.f97.ntmps = 11 := by kernel_rfl
@[simp] theorem res_98 : Tryz.f98.results.toList = [.tmp 6] := by kernel_rfl
@[simp] theorem nt_98 : Tryz.f98.ntmps = 16 := by kernel_rfl
@[simp] theorem res_99 : Tryz.f99.results.toList = [.tmp 6] := by kernel_rfl
@[simp] theorem nt_99 : Tryz.f99.ntmps = 16 := by kernel_rfl
@[simp] theorem res_100 : Tryz.f100.results.toList = [.tmp 2] := by kernel_rfl
@[simp] theorem nt_100 : Tryz.f100.ntmps = 11 := by kernel_rfl
@[simp] theorem res_101 : Tryz.f101.results.toList = [.tmp 4] := by kernel_rfl
@[simp] theorem nt_101 : Tryz.f101.ntmps = 143 := by kernel_rfl
@[simp] theorem res_102 : Tryz.f102.results.toList = [.tmp 2] := by kernel_rfl
@[simp] theorem nt_102 : Tryz.f102.ntmps = 6 := by kernel_rfl
@[simp] theorem res_103 : Tryz.f103.results.toList = [.tmp 2] := by kernel_rfl
@[simp] theorem nt_103 : Tryz.f103.ntmps = 25 := by kernel_rfl
@[simp] theorem res_104 : Tryz.f104.results.toList = [.tmp 2] := by kernel_rfl
@[simp] theorem nt_104 : Tryz.f104.ntmps = 4 := by kernel_rfl
@[simp] theorem res_105 : Tryz.f105.results.toList = [.tmp 2] := by kernel_rfl
@[simp] theorem nt_105 : Tryz.f105.ntmps = 8 := by kernel_rfl
@[simp] theorem res_106 : Tryz.f106.results.toList = [.tmp 2] := by kernel_rfl
@[simp] theorem nt_106 : Tryz.f106.ntmps = 8 := by kernel_rfl
@[simp] theorem res_107 : Tryz.f107.results.toList = [.tmp 2, .tmp 3] := by kernel_rfl
@[simp] theorem nt_107 : Tryz.f107.ntmps = 117 := by kernel_rfl
@[simp] theorem res_108 : Tryz.f108.results.toList = [.tmp 4] := by kernel_rfl
@[simp] theorem nt_108 : Tryz.f108.ntmps = 187 := by kernel_rfl
@[simp] theorem res_109 : Tryz.f109.results.toList = [.tmp 2] := by kernel_rfl
@[simp] theorem nt_109 : Tryz.f109.ntmps = 6 := by kernel_rfl
@[simp] theorem res_110 : Tryz.f110.results.toList = [.tmp 2] := by kernel_rfl
@[simp] theorem nt_110 : Tryz.f110.ntmps = 18 := by kernel_rfl
@[simp] theorem res_111 : Tryz.f111.results.toList = [.tmp 2] := by kernel_rfl
@[simp] theorem nt_111 : Tryz.f111.ntmps = 7 := by kernel_rfl
@[simp] theorem res_112 : Tryz.f112.results.toList = [.tmp 2] := by kernel_rfl
@[simp] theorem nt_112 : Tryz.f112.ntmps = 5 := by kernel_rfl
@[simp] theorem res_113 : Tryz.f113.results.toList = [.tmp 4] := by kernel_rfl
@[simp] theorem nt_113 : Tryz.f113.ntmps = 8 := by kernel_rfl
@[simp] theorem res_114 : Tryz.f114.results.toList = [] := by kernel_rfl
@[simp] theorem nt_114 : Tryz.f114.ntmps = 2 := by kernel_rfl
@[simp] theorem res_115 : Tryz.f115.results.toList = [.tmp 2] := by kernel_rfl
@[simp] theorem nt_115 : Tryz.f115.ntmps = 6 := by kernel_rfl
@[simp] theorem res_116 : Tryz.f116.results.toList = [.tmp 4] := by kernel_rfl
@[simp] theorem nt_116 : Tryz.f116.ntmps = 81 := by kernel_rfl
@[simp] theorem res_117 : Tryz.f117.results.toList = [.tmp 2] := by kernel_rfl
@[simp] theorem nt_117 : Tryz.f117.ntmps = 14 := by kernel_rfl
@[simp] theorem res_118 : Tryz.f118.results.toList = [.tmp 2] := by kernel_rfl
@[simp] theorem nt_118 : Tryz.f118.ntmps = 14 := by kernel_rfl
@[simp] theorem res_119 : Tryz.f119.results.toList = [.tmp 4] := by kernel_rfl
@[simp] theorem nt_119 : Tryz.f119.ntmps = 8 := by kernel_rfl
@[simp] theorem res_120 : Tryz.f120.results.toList = [.tmp 2] := by kernel_rfl
@[simp] theorem nt_120 : Tryz.f120.ntmps = 17 := by kernel_rfl
@[simp] theorem res_121 : Tryz.f121.results.toList = [.tmp 2] := by kernel_rfl
@[simp] theorem nt_121 : Tryz.f121.ntmps = 5 := by kernel_rfl
@[simp] theorem res_122 : Tryz.f122.results.toList = [] := by kernel_rfl
@[simp] theorem nt_122 : Tryz.f122.ntmps = 2 := by kernel_rfl
@[simp] theorem res_123 : Tryz.f123.results.toList = [.tmp 2, .tmp 3] := by kernel_rfl
@[simp] theorem nt_123 : Tryz.f123.ntmps = 39 := by kernel_rfl
@[simp] theorem res_124 : Tryz.f124.results.toList = [.tmp 4] := by kernel_rfl
@[simp] theorem nt_124 : Tryz.f124.ntmps = 54 := by kernel_rfl
@[simp] theorem res_125 : Tryz.f125.results.toList = [] := by kernel_rfl
@[simp] theorem nt_125 : Tryz.f125.ntmps = 1 := by kernel_rfl
@[simp] theorem res_126 : Tryz.f126.results.toList = [] := by kernel_rfl
@[simp] theorem nt_126 : Tryz.f126.ntmps = 1 := by kernel_rfl
@[simp] theorem res_127 : Tryz.f127.results.toList = [] := by kernel_rfl
@[simp] theorem nt_127 : Tryz.f127.ntmps = 1 := by kernel_rfl
@[simp] theorem res_128 : Tryz.f128.results.toList = [] := by kernel_rfl
@[simp] theorem nt_128 : Tryz.f128.ntmps = 1 := by kernel_rfl
@[simp] theorem res_129 : Tryz.f129.results.toList = [] := by kernel_rfl
@[simp] theorem nt_129 : Tryz.f129.ntmps = 1 := by kernel_rfl
@[simp] theorem res_130 : Tryz.f130.results.toList = [] := by kernel_rfl
@[simp] theorem nt_130 : Tryz.f130.ntmps = 1 := by kernel_rfl
@[simp] theorem res_131 : Tryz.f131.results.toList = [] := by kernel_rfl
@[simp] theorem nt_131 : Tryz.f131.ntmps = 1 := by kernel_rfl
@[simp] theorem res_132 : Tryz.f132.results.toList = [] := by kernel_rfl
@[simp] theorem nt_132 : Tryz.f132.ntmps = 1 := by kernel_rfl
@[simp] theorem res_133 : Tryz.f133.results.toList = [] := by kernel_rfl
@[simp] theorem nt_133 : Tryz.f133.ntmps = 1 := by kernel_rfl
@[simp] theorem res_134 : Tryz.f134.results.toList = [] := by kernel_rfl
@[simp] theorem nt_134 : Tryz.f134.ntmps = 1 := by kernel_rfl
@[simp] theorem res_135 : Tryz.f135.results.toList = [] := by kernel_rfl
@[simp] theorem nt_135 : Tryz.f135.ntmps = 1 := by kernel_rfl
@[simp] theorem res_136 : Tryz.f136.results.toList = [] := by kernel_rfl
@[simp] theorem nt_136 : Tryz.f136.ntmps = 1 := by kernel_rfl
@[simp] theorem res_137 : Tryz.f137.results.toList = [] := by kernel_rfl
@[simp] theorem nt_137 : Tryz.f137.ntmps = 1 := by kernel_rfl
@[simp] theorem res_138 : Tryz.f138.results.toList = [] := by kernel_rfl
@[simp] theorem nt_138 : Tryz.f138.ntmps = 1 := by kernel_rfl
@[simp] theorem res_139 : Tryz.f139.results.toList = [] := by kernel_rfl
@[simp] theorem nt_139 : Tryz.f139.ntmps = 1 := by kernel_rfl
@[simp] theorem res_140 : Tryz.f140.results.toList = [] := by kernel_rfl
@[simp] theorem nt_140 : Tryz.f140.ntmps = 1 := by kernel_rfl
@[simp] theorem res_141 : Tryz.f141.results.toList = [] := by kernel_rfl
@[simp] theorem nt_141 : Tryz.f141.ntmps = 1 := by kernel_rfl
@[simp] theorem res_142 : Tryz.f142.results.toList = [] := by kernel_rfl
@[simp] theorem nt_142 : Tryz.f142.ntmps = 1 := by kernel_rfl
@[simp] theorem res_143 : Tryz.f143.results.toList = [] := by kernel_rfl
@[simp] theorem nt_143 : Tryz.f143.ntmps = 1 := by kernel_rfl
@[simp] theorem res_144 : Tryz.f144.results.toList = [] := by kernel_rfl
@[simp] theorem nt_144 : Tryz.f144.ntmps = 1 := by kernel_rfl
@[simp] theorem res_145 : Tryz.f145.results.toList = [] := by kernel_rfl
@[simp] theorem nt_145 : Tryz.f145.ntmps = 0 := by kernel_rfl
@[simp] theorem res_146 : Tryz.f146.results.toList = [] := by kernel_rfl
@[simp] theorem nt_146 : Tryz.f146.ntmps = 0 := by kernel_rfl
@[simp] theorem res_147 : Tryz.f147.results.toList = [] := by kernel_rfl
@[simp] theorem nt_147 : Tryz.f147.ntmps = 0 := by kernel_rfl
@[simp] theorem res_148 : Tryz.f148.results.toList = [] := by kernel_rfl
@[simp] theorem nt_148 : Tryz.f148.ntmps = 0 := by kernel_rfl
@[simp] theorem res_149 : Tryz.f149.results.toList = [] := by kernel_rfl
@[simp] theorem nt_149 : Tryz.f149.ntmps = 0 := by kernel_rfl
@[simp] theorem res_150 : Tryz.f150.results.toList = [] := by kernel_rfl
@[simp] theorem nt_150 : Tryz.f150.ntmps = 0 := by kernel_rfl
@[simp] theorem res_151 : Tryz.f151.results.toList = [] := by kernel_rfl
@[simp] theorem nt_151 : Tryz.f151.ntmps = 0 := by kernel_rfl
@[simp] theorem res_152 : Tryz.f152.results.toList = [] := by kernel_rfl
@[simp] theorem nt_152 : Tryz.f152.ntmps = 0 := by kernel_rfl
@[simp] theorem res_153 : Tryz.f153.results.toList = [] := by kernel_rfl
@[simp] theorem nt_153 : Tryz.f153.ntmps = 0 := by kernel_rfl
@[simp] theorem res_154 : Tryz.f154.results.toList = [] := by kernel_rfl
@[simp] theorem nt_154 : Tryz.f154.ntmps = 11 := by kernel_rfl
end Go.Proofs.YtddngfpgeifffaaGreatDoor
