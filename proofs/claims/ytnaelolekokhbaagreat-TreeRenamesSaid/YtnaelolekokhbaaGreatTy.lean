import Derived.Test.YtnaelolekokhbaaGreatAxLift
import Derived.Test.YtnaelolekokhbaaGreatAxFast
import Derived.Test.YtnaelolekokhbaaGreatProg
namespace Go.AX
open Go.Proofs Go.RowKit
noncomputable def TE : Env := envOf Tryz.prog
theorem ld_9 (s : St) (x o : Nat) : loadA TE s 9 (.ptr x o) = ldC s x o := ld_gen (by kernel_rfl)
theorem st_9 (s : St) (x o : Nat) (v : AV) (h1 : v.cells = [v]) (h2 : v.one = true) : storeA TE s 9 (.ptr x o) v = stC s x o v := st_gen (by kernel_rfl) h1 h2
theorem ld_3 (s : St) (x o : Nat) : loadA TE s 3 (.ptr x o) = ldC s x o := ld_gen (by kernel_rfl)
theorem st_3 (s : St) (x o : Nat) (v : AV) (h1 : v.cells = [v]) (h2 : v.one = true) : storeA TE s 3 (.ptr x o) v = stC s x o v := st_gen (by kernel_rfl) h1 h2
theorem ld_4 (s : St) (x o : Nat) : loadA TE s 4 (.ptr x o) = ldC s x o := ld_gen (by kernel_rfl)
theorem st_4 (s : St) (x o : Nat) (v : AV) (h1 : v.cells = [v]) (h2 : v.one = true) : storeA TE s 4 (.ptr x o) v = stC s x o v := st_gen (by kernel_rfl) h1 h2
theorem ld_5 (s : St) (x o : Nat) : loadA TE s 5 (.ptr x o) = ldC s x o := ld_gen (by kernel_rfl)
theorem st_5 (s : St) (x o : Nat) (v : AV) (h1 : v.cells = [v]) (h2 : v.one = true) : storeA TE s 5 (.ptr x o) v = stC s x o v := st_gen (by kernel_rfl) h1 h2
theorem ld_59 (s : St) (x o : Nat) : loadA TE s 59 (.ptr x o) = ldC s x o := ld_gen (by kernel_rfl)
theorem st_59 (s : St) (x o : Nat) (v : AV) (h1 : v.cells = [v]) (h2 : v.one = true) : storeA TE s 59 (.ptr x o) v = stC s x o v := st_gen (by kernel_rfl) h1 h2
theorem ld_98 (s : St) (x o : Nat) : loadA TE s 98 (.ptr x o) = ldC s x o := ld_gen (by kernel_rfl)
theorem st_98 (s : St) (x o : Nat) (v : AV) (h1 : v.cells = [v]) (h2 : v.one = true) : storeA TE s 98 (.ptr x o) v = stC s x o v := st_gen (by kernel_rfl) h1 h2
theorem ld_21 (s : St) (x o : Nat) : loadA TE s 21 (.ptr x o) = ldC s x o := ld_gen (by kernel_rfl)
theorem st_21 (s : St) (x o : Nat) (v : AV) (h1 : v.cells = [v]) (h2 : v.one = true) : storeA TE s 21 (.ptr x o) v = stC s x o v := st_gen (by kernel_rfl) h1 h2
theorem ld_51 (s : St) (x o : Nat) : loadA TE s 51 (.ptr x o) = ldC s x o := ld_gen (by kernel_rfl)
theorem st_51 (s : St) (x o : Nat) (v : AV) (h1 : v.cells = [v]) (h2 : v.one = true) : storeA TE s 51 (.ptr x o) v = stC s x o v := st_gen (by kernel_rfl) h1 h2
theorem ld_22 (s : St) (x o : Nat) : loadA TE s 22 (.ptr x o) = ldC s x o := ld_gen (by kernel_rfl)
theorem st_22 (s : St) (x o : Nat) (v : AV) (h1 : v.cells = [v]) (h2 : v.one = true) : storeA TE s 22 (.ptr x o) v = stC s x o v := st_gen (by kernel_rfl) h1 h2
theorem ld_64 (s : St) (x o : Nat) : loadA TE s 64 (.ptr x o) = ldC s x o := ld_gen (by kernel_rfl)
theorem st_64 (s : St) (x o : Nat) (v : AV) (h1 : v.cells = [v]) (h2 : v.one = true) : storeA TE s 64 (.ptr x o) v = stC s x o v := st_gen (by kernel_rfl) h1 h2
theorem ld_36 (s : St) (x o : Nat) : loadA TE s 36 (.ptr x o) = ldC s x o := ld_gen (by kernel_rfl)
theorem st_36 (s : St) (x o : Nat) (v : AV) (h1 : v.cells = [v]) (h2 : v.one = true) : storeA TE s 36 (.ptr x o) v = stC s x o v := st_gen (by kernel_rfl) h1 h2
theorem ld_70 (s : St) (x o : Nat) : loadA TE s 70 (.ptr x o) = ldC s x o := ld_gen (by kernel_rfl)
theorem st_70 (s : St) (x o : Nat) (v : AV) (h1 : v.cells = [v]) (h2 : v.one = true) : storeA TE s 70 (.ptr x o) v = stC s x o v := st_gen (by kernel_rfl) h1 h2
theorem ld_35 (s : St) (x o : Nat) : loadA TE s 35 (.ptr x o) = ldC s x o := ld_gen (by kernel_rfl)
theorem st_35 (s : St) (x o : Nat) (v : AV) (h1 : v.cells = [v]) (h2 : v.one = true) : storeA TE s 35 (.ptr x o) v = stC s x o v := st_gen (by kernel_rfl) h1 h2
theorem ld_74 (s : St) (x o : Nat) : loadA TE s 74 (.ptr x o) = ldC s x o := ld_gen (by kernel_rfl)
theorem st_74 (s : St) (x o : Nat) (v : AV) (h1 : v.cells = [v]) (h2 : v.one = true) : storeA TE s 74 (.ptr x o) v = stC s x o v := st_gen (by kernel_rfl) h1 h2
theorem ld_113 (s : St) (x o : Nat) : loadA TE s 113 (.ptr x o) = ldC s x o := ld_gen (by kernel_rfl)
theorem st_113 (s : St) (x o : Nat) (v : AV) (h1 : v.cells = [v]) (h2 : v.one = true) : storeA TE s 113 (.ptr x o) v = stC s x o v := st_gen (by kernel_rfl) h1 h2
theorem ld_94 (s : St) (x o : Nat) : loadA TE s 94 (.ptr x o) = ldC s x o := ld_gen (by kernel_rfl)
theorem st_94 (s : St) (x o : Nat) (v : AV) (h1 : v.cells = [v]) (h2 : v.one = true) : storeA TE s 94 (.ptr x o) v = stC s x o v := st_gen (by kernel_rfl) h1 h2
theorem ld_20 (s : St) (x o : Nat) : loadA TE s 20 (.ptr x o) = ldC s x o := ld_gen (by kernel_rfl)
theorem st_20 (s : St) (x o : Nat) (v : AV) (h1 : v.cells = [v]) (h2 : v.one = true) : storeA TE s 20 (.ptr x o) v = stC s x o v := st_gen (by kernel_rfl) h1 h2
theorem ld_137 (s : St) (x o : Nat) : loadA TE s 137 (.ptr x o) = ldC s x o := ld_gen (by kernel_rfl)
theorem st_137 (s : St) (x o : Nat) (v : AV) (h1 : v.cells = [v]) (h2 : v.one = true) : storeA TE s 137 (.ptr x o) v = stC s x o v := st_gen (by kernel_rfl) h1 h2
theorem ld_115 (s : St) (x o : Nat) : loadA TE s 115 (.ptr x o) = ldC s x o := ld_gen (by kernel_rfl)
theorem st_115 (s : St) (x o : Nat) (v : AV) (h1 : v.cells = [v]) (h2 : v.one = true) : storeA TE s 115 (.ptr x o) v = stC s x o v := st_gen (by kernel_rfl) h1 h2
theorem ld_24 (s : St) (x o : Nat) : loadA TE s 24 (.ptr x o) = ldC s x o := ld_gen (by kernel_rfl)
theorem st_24 (s : St) (x o : Nat) (v : AV) (h1 : v.cells = [v]) (h2 : v.one = true) : storeA TE s 24 (.ptr x o) v = stC s x o v := st_gen (by kernel_rfl) h1 h2
theorem ld_69 (s : St) (x o : Nat) : loadA TE s 69 (.ptr x o) = ldC s x o := ld_gen (by kernel_rfl)
theorem st_69 (s : St) (x o : Nat) (v : AV) (h1 : v.cells = [v]) (h2 : v.one = true) : storeA TE s 69 (.ptr x o) v = stC s x o v := st_gen (by kernel_rfl) h1 h2
theorem ld_33 (s : St) (x o : Nat) : loadA TE s 33 (.ptr x o) = ldC s x o := ld_gen (by kernel_rfl)
theorem st_33 (s : St) (x o : Nat) (v : AV) (h1 : v.cells = [v]) (h2 : v.one = true) : storeA TE s 33 (.ptr x o) v = stC s x o v := st_gen (by kernel_rfl) h1 h2
theorem fn_3 : TE.fn.get 3 = some Tryz.f3 := by kernel_rfl
theorem fn_4 : TE.fn.get 4 = some Tryz.f4 := by kernel_rfl
theorem fn_5 : TE.fn.get 5 = some Tryz.f5 := by kernel_rfl
theorem fn_6 : TE.fn.get 6 = some Tryz.f6 := by kernel_rfl
theorem fn_7 : TE.fn.get 7 = some Tryz.f7 := by kernel_rfl
theorem fn_8 : TE.fn.get 8 = some Tryz.f8 := by kernel_rfl
theorem fn_9 : TE.fn.get 9 = some Tryz.f9 := by kernel_rfl
theorem fn_10 : TE.fn.get 10 = some Tryz.f10 := by kernel_rfl
theorem fn_11 : TE.fn.get 11 = some Tryz.f11 := by kernel_rfl
theorem fn_12 : TE.fn.get 12 = some Tryz.f12 := by kernel_rfl
theorem fn_13 : TE.fn.get 13 = some Tryz.f13 := by kernel_rfl
theorem fn_14 : TE.fn.get 14 = some Tryz.f14 := by kernel_rfl
theorem fn_15 : TE.fn.get 15 = some Tryz.f15 := by kernel_rfl
theorem fn_16 : TE.fn.get 16 = some Tryz.f16 := by kernel_rfl
theorem fn_17 : TE.fn.get 17 = some Tryz.f17 := by kernel_rfl
theorem fn_18 : TE.fn.get 18 = some Tryz.f18 := by kernel_rfl
theorem fn_19 : TE.fn.get 19 = some Tryz.f19 := by kernel_rfl
theorem fn_20 : TE.fn.get 20 = some Tryz.f20 := by kernel_rfl
theorem fn_21 : TE.fn.get 21 = some Tryz.f21 := by kernel_rfl
theorem fn_22 : TE.fn.get 22 = some Tryz.f22 := by kernel_rfl
theorem fn_23 : TE.fn.get 23 = some Tryz.f23 := by kernel_rfl
theorem fn_24 : TE.fn.get 24 = some Tryz.f24 := by kernel_rfl
theorem fn_25 : TE.fn.get 25 = some Tryz.f25 := by kernel_rfl
theorem fn_26 : TE.fn.get 26 = some Tryz.f26 := by kernel_rfl
theorem fn_27 : TE.fn.get 27 = some Tryz.f27 := by kernel_rfl
theorem fn_28 : TE.fn.get 28 = some Tryz.f28 := by kernel_rfl
theorem fn_29 : TE.fn.get 29 = some Tryz.f29 := by kernel_rfl
theorem fn_30 : TE.fn.get 30 = some Tryz.f30 := by kernel_rfl
theorem fn_31 : TE.fn.get 31 = some Tryz.f31 := by kernel_rfl
theorem fn_32 : TE.fn.get 32 = some Tryz.f32 := by kernel_rfl
theorem fn_33 : TE.fn.get 33 = some Tryz.f33 := by kernel_rfl
theorem fn_34 : TE.fn.get 34 = some Tryz.f34 := by kernel_rfl
theorem fn_35 : TE.fn.get 35 = some Tryz.f35 := by kernel_rfl
theorem fn_36 : TE.fn.get 36 = some Tryz.f36 := by kernel_rfl
theorem fn_37 : TE.fn.get 37 = some Tryz.f37 := by kernel_rfl
theorem fn_38 : TE.fn.get 38 = some Tryz.f38 := by kernel_rfl
theorem fn_39 : TE.fn.get 39 = some Tryz.f39 := by kernel_rfl
theorem fn_40 : TE.fn.get 40 = some Tryz.f40 := by kernel_rfl
theorem fn_41 : TE.fn.get 41 = some Tryz.f41 := by kernel_rfl
theorem fn_42 : TE.fn.get 42 = some Tryz.f42 := by kernel_rfl
theorem fn_43 : TE.fn.get 43 = some Tryz.f43 := by kernel_rfl
theorem fn_44 : TE.fn.get 44 = some Tryz.f44 := by kernel_rfl
theorem fn_45 : TE.fn.get 45 = some Tryz.f45 := by kernel_rfl
theorem fn_46 : TE.fn.get 46 = some Tryz.f46 := by kernel_rfl
theorem fn_47 : TE.fn.get 47 = some Tryz.f47 := by kernel_rfl
theorem fn_48 : TE.fn.get 48 = some Tryz.f48 := by kernel_rfl
theorem fn_49 : TE.fn.get 49 = some Tryz.f49 := by kernel_rfl
theorem fn_50 : TE.fn.get 50 = some Tryz.f50 := by kernel_rfl
theorem fn_51 : TE.fn.get 51 = some Tryz.f51 := by kernel_rfl
theorem fn_52 : TE.fn.get 52 = some Tryz.f52 := by kernel_rfl
theorem fn_53 : TE.fn.get 53 = some Tryz.f53 := by kernel_rfl
theorem fn_54 : TE.fn.get 54 = some Tryz.f54 := by kernel_rfl
theorem fn_55 : TE.fn.get 55 = some Tryz.f55 := by kernel_rfl
theorem fn_56 : TE.fn.get 56 = some Tryz.f56 := by kernel_rfl
theorem fn_57 : TE.fn.get 57 = some Tryz.f57 := by kernel_rfl
theorem fn_58 : TE.fn.get 58 = some Tryz.f58 := by kernel_rfl
theorem fn_59 : TE.fn.get 59 = some Tryz.f59 := by kernel_rfl
theorem fn_60 : TE.fn.get 60 = some Tryz.f60 := by kernel_rfl
theorem fn_61 : TE.fn.get 61 = some Tryz.f61 := by kernel_rfl
theorem fn_62 : TE.fn.get 62 = some Tryz.f62 := by kernel_rfl
theorem fn_63 : TE.fn.get 63 = some Tryz.f63 := by kernel_rfl
theorem fn_64 : TE.fn.get 64 = some Tryz.f64 := by kernel_rfl
theorem fn_65 : TE.fn.get 65 = some Tryz.f65 := by kernel_rfl
theorem fn_66 : TE.fn.get 66 = some Tryz.f66 := by kernel_rfl
theorem fn_67 : TE.fn.get 67 = some Tryz.f67 := by kernel_rfl
theorem fn_68 : TE.fn.get 68 = some Tryz.f68 := by kernel_rfl
theorem fn_69 : TE.fn.get 69 = some Tryz.f69 := by kernel_rfl
theorem fn_70 : TE.fn.get 70 = some Tryz.f70 := by kernel_rfl
theorem fn_71 : TE.fn.get 71 = some Tryz.f71 := by kernel_rfl
theorem fn_72 : TE.fn.get 72 = some Tryz.f72 := by kernel_rfl
theorem fn_73 : TE.fn.get 73 = some Tryz.f73 := by kernel_rfl
theorem fn_74 : TE.fn.get 74 = some Tryz.f74 := by kernel_rfl
theorem fn_75 : TE.fn.get 75 = some Tryz.f75 := by kernel_rfl
theorem fn_76 : TE.fn.get 76 = some Tryz.f76 := by kernel_rfl
theorem fn_77 : TE.fn.get 77 = some Tryz.f77 := by kernel_rfl
theorem fn_78 : TE.fn.get 78 = some Tryz.f78 := by kernel_rfl
theorem fn_79 : TE.fn.get 79 = some Tryz.f79 := by kernel_rfl
theorem fn_80 : TE.fn.get 80 = some Tryz.f80 := by kernel_rfl
theorem fn_81 : TE.fn.get 81 = some Tryz.f81 := by kernel_rfl
theorem fn_82 : TE.fn.get 82 = some Tryz.f82 := by kernel_rfl
theorem fn_83 : TE.fn.get 83 = some Tryz.f83 := by kernel_rfl
theorem fn_84 : TE.fn.get 84 = some Tryz.f84 := by kernel_rfl
theorem fn_85 : TE.fn.get 85 = some Tryz.f85 := by kernel_rfl
theorem fn_86 : TE.fn.get 86 = some Tryz.f86 := by kernel_rfl
theorem fn_87 : TE.fn.get 87 = some Tryz.f87 := by kernel_rfl
theorem fn_88 : TE.fn.get 88 = some Tryz.f88 := by kernel_rfl
theorem fn_89 : TE.fn.get 89 = some Tryz.f89 := by kernel_rfl
theorem fn_90 : TE.fn.get 90 = some Tryz.f90 := by kernel_rfl
theorem fn_91 : TE.fn.get 91 = some Tryz.f91 := by kernel_rfl
theorem fn_92 : TE.fn.get 92 = some Tryz.f92 := by kernel_rfl
theorem fn_93 : TE.fn.get 93 = some Tryz.f93 := by kernel_rfl
theorem fn_94 : TE.fn.get 94 = some Tryz.f94 := by kernel_rfl
theorem fn_95 : TE.fn.get 95 = some Tryz.f95 := by kernel_rfl
theorem fn_96 : TE.fn.get 96 = some Tryz.f96 := by kernel_rfl
theorem fn_97 : TE.fn.get 97 = some Tryz.f97 := by kernel_rfl
theorem fn_98 : TE.fn.get 98 = some Tryz.f98 := by kernel_rfl
theorem fn_99 : TE.fn.get 99 = some Tryz.f99 := by kernel_rfl
theorem fn_100 : TE.fn.get 100 = some Tryz.f100 := by kernel_rfl
theorem fn_101 : TE.fn.get 101 = some Tryz.f101 := by kernel_rfl
theorem fn_102 : TE.fn.get 102 = some Tryz.f102 := by kernel_rfl
theorem fn_103 : TE.fn.get 103 = some Tryz.f103 := by kernel_rfl
theorem fn_104 : TE.fn.get 104 = some Tryz.f104 := by kernel_rfl
theorem fn_105 : TE.fn.get 105 = some Tryz.f105 := by kernel_rfl
theorem fn_106 : TE.fn.get 106 = some Tryz.f106 := by kernel_rfl
theorem fn_107 : TE.fn.get 107 = some Tryz.f107 := by kernel_rfl
theorem fn_108 : TE.fn.get 108 = some Tryz.f108 := by kernel_rfl
theorem fn_109 : TE.fn.get 109 = some Tryz.f109 := by kernel_rfl
theorem fn_110 : TE.fn.get 110 = some Tryz.f110 := by kernel_rfl
theorem fn_111 : TE.fn.get 111 = some Tryz.f111 := by kernel_rfl
theorem fn_112 : TE.fn.get 112 = some Tryz.f112 := by kernel_rfl
theorem fn_113 : TE.fn.get 113 = some Tryz.f113 := by kernel_rfl
theorem fn_114 : TE.fn.get 114 = some Tryz.f114 := by kernel_rfl
theorem fn_115 : TE.fn.get 115 = some Tryz.f115 := by kernel_rfl
theorem fn_116 : TE.fn.get 116 = some Tryz.f116 := by kernel_rfl
theorem fn_117 : TE.fn.get 117 = some Tryz.f117 := by kernel_rfl
theorem fn_118 : TE.fn.get 118 = some Tryz.f118 := by kernel_rfl
theorem fn_119 : TE.fn.get 119 = some Tryz.f119 := by kernel_rfl
theorem fn_120 : TE.fn.get 120 = some Tryz.f120 := by kernel_rfl
theorem fn_121 : TE.fn.get 121 = some Tryz.f121 := by kernel_rfl
theorem fn_122 : TE.fn.get 122 = some Tryz.f122 := by kernel_rfl
theorem fn_123 : TE.fn.get 123 = some Tryz.f123 := by kernel_rfl
theorem fn_124 : TE.fn.get 124 = some Tryz.f124 := by kernel_rfl
theorem fn_125 : TE.fn.get 125 = some Tryz.f125 := by kernel_rfl
theorem fn_126 : TE.fn.get 126 = some Tryz.f126 := by kernel_rfl
theorem fn_127 : TE.fn.get 127 = some Tryz.f127 := by kernel_rfl
theorem fn_128 : TE.fn.get 128 = some Tryz.f128 := by kernel_rfl
theorem fn_129 : TE.fn.get 129 = some Tryz.f129 := by kernel_rfl
theorem fn_130 : TE.fn.get 130 = some Tryz.f130 := by kernel_rfl
theorem fn_131 : TE.fn.get 131 = some Tryz.f131 := by kernel_rfl
theorem fn_132 : TE.fn.get 132 = some Tryz.f132 := by kernel_rfl
theorem fn_133 : TE.fn.get 133 = some Tryz.f133 := by kernel_rfl
theorem fn_134 : TE.fn.get 134 = some Tryz.f134 := by kernel_rfl
theorem fn_135 : TE.fn.get 135 = some Tryz.f135 := by kernel_rfl
theorem fn_136 : TE.fn.get 136 = some Tryz.f136 := by kernel_rfl
theorem fn_137 : TE.fn.get 137 = some Tryz.f137 := by kernel_rfl
theorem fn_138 : TE.fn.get 138 = some Tryz.f138 := by kernel_rfl
theorem fn_139 : TE.fn.get 139 = some Tryz.f139 := by kernel_rfl
theorem fn_140 : TE.fn.get 140 = some Tryz.f140 := by kernel_rfl
theorem fn_141 : TE.fn.get 141 = some Tryz.f141 := by kernel_rfl
theorem fn_142 : TE.fn.get 142 = some Tryz.f142 := by kernel_rfl
theorem fn_143 : TE.fn.get 143 = some Tryz.f143 := by kernel_rfl
theorem fn_144 : TE.fn.get 144 = some Tryz.f144 := by kernel_rfl
theorem fn_145 : TE.fn.get 145 = some Tryz.f145 := by kernel_rfl
theorem fn_146 : TE.fn.get 146 = some Tryz.f146 := by kernel_rfl
theorem fn_147 : TE.fn.get 147 = some Tryz.f147 := by kernel_rfl
theorem fn_148 : TE.fn.get 148 = some Tryz.f148 := by kernel_rfl
theorem fn_149 : TE.fn.get 149 = some Tryz.f149 := by kernel_rfl
theorem fn_150 : TE.fn.get 150 = some Tryz.f150 := by kernel_rfl
theorem fn_151 : TE.fn.get 151 = some Tryz.f151 := by kernel_rfl
theorem fn_152 : TE.fn.get 152 = some Tryz.f152 := by kernel_rfl
theorem fn_153 : TE.fn.get 153 = some Tryz.f153 := by kernel_rfl
theorem fn_154 : TE.fn.get 154 = some Tryz.f154 := by kernel_rfl
theorem fn_155 : TE.fn.get 155 = some Tryz.f155 := by kernel_rfl
theorem fn_156 : TE.fn.get 156 = some Tryz.f156 := by kernel_rfl
theorem fn_157 : TE.fn.get 157 = some Tryz.f157 := by kernel_rfl
theorem fn_158 : TE.fn.get 158 = some Tryz.f158 := by kernel_rfl
theorem fn_159 : TE.fn.get 159 = some Tryz.f159 := by kernel_rfl
theorem fn_160 : TE.fn.get 160 = some Tryz.f160 := by kernel_rfl
theorem fn_161 : TE.fn.get 161 = some Tryz.f161 := by kernel_rfl
theorem fn_162 : TE.fn.get 162 = some Tryz.f162 := by kernel_rfl
theorem fn_163 : TE.fn.get 163 = some Tryz.f163 := by kernel_rfl
theorem fn_164 : TE.fn.get 164 = some Tryz.f164 := by kernel_rfl
theorem fn_165 : TE.fn.get 165 = some Tryz.f165 := by kernel_rfl
theorem fn_166 : TE.fn.get 166 = some Tryz.f166 := by kernel_rfl
theorem fn_167 : TE.fn.get 167 = some Tryz.f167 := by kernel_rfl
theorem fn_168 : TE.fn.get 168 = some Tryz.f168 := by kernel_rfl
theorem fn_169 : TE.fn.get 169 = some Tryz.f169 := by kernel_rfl
theorem fn_170 : TE.fn.get 170 = some Tryz.f170 := by kernel_rfl
theorem fn_171 : TE.fn.get 171 = some Tryz.f171 := by kernel_rfl
theorem fn_172 : TE.fn.get 172 = some Tryz.f172 := by kernel_rfl
theorem fn_173 : TE.fn.get 173 = some Tryz.f173 := by kernel_rfl
theorem fn_174 : TE.fn.get 174 = some Tryz.f174 := by kernel_rfl
theorem fn_175 : TE.fn.get 175 = some Tryz.f175 := by kernel_rfl
theorem fn_176 : TE.fn.get 176 = some Tryz.f176 := by kernel_rfl
theorem fn_177 : TE.fn.get 177 = some Tryz.f177 := by kernel_rfl
theorem fn_178 : TE.fn.get 178 = some Tryz.f178 := by kernel_rfl
theorem fn_179 : TE.fn.get 179 = some Tryz.f179 := by kernel_rfl
theorem fn_180 : TE.fn.get 180 = some Tryz.f180 := by kernel_rfl
theorem fn_181 : TE.fn.get 181 = some Tryz.f181 := by kernel_rfl
theorem fn_182 : TE.fn.get 182 = some Tryz.f182 := by kernel_rfl
theorem fn_183 : TE.fn.get 183 = some Tryz.f183 := by kernel_rfl
theorem fn_184 : TE.fn.get 184 = some Tryz.f184 := by kernel_rfl
theorem fn_185 : TE.fn.get 185 = some Tryz.f185 := by kernel_rfl
theorem fn_186 : TE.fn.get 186 = some Tryz.f186 := by kernel_rfl
theorem fn_187 : TE.fn.get 187 = some Tryz.f187 := by kernel_rfl
theorem fn_188 : TE.fn.get 188 = some Tryz.f188 := by kernel_rfl
theorem fn_189 : TE.fn.get 189 = some Tryz.f189 := by kernel_rfl
theorem fn_190 : TE.fn.get 190 = some Tryz.f190 := by kernel_rfl
theorem fn_191 : TE.fn.get 191 = some Tryz.f191 := by kernel_rfl
theorem fn_192 : TE.fn.get 192 = some Tryz.f192 := by kernel_rfl
theorem fn_193 : TE.fn.get 193 = some Tryz.f193 := by kernel_rfl
theorem fn_194 : TE.fn.get 194 = some Tryz.f194 := by kernel_rfl
theorem fn_195 : TE.fn.get 195 = some Tryz.f195 := by kernel_rfl
theorem fn_196 : TE.fn.get 196 = some Tryz.f196 := by kernel_rfl
theorem fn_197 : TE.fn.get 197 = some Tryz.f197 := by kernel_rfl
theorem fn_198 : TE.fn.get 198 = some Tryz.f198 := by kernel_rfl
theorem fn_199 : TE.fn.get 199 = some Tryz.f199 := by kernel_rfl
theorem fn_200 : TE.fn.get 200 = some Tryz.f200 := by kernel_rfl
end Go.AX
