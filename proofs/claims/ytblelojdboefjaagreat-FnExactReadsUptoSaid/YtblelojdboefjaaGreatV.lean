/- The tables' entries as laws for simp. Printed by genv.py. -/
import Derived.Test.YtblelojdboefjaaGreatE
import Derived.Test.YtblelojdboefjaaGreatM6
import Derived.Test.YtblelojdboefjaaGreatM5
namespace Go.Proofs.YtblelojdboefjaaGreat.R
open Go
set_option maxRecDepth 100000
@[go_sem] theorem tsl_2 : tsl 2 = none := rfl
@[go_sem] theorem tsl_3 : tsl 3 = none := rfl
@[go_sem] theorem tsl_4 : tsl 4 = none := rfl
@[go_sem] theorem tsl_5 : tsl 5 = none := rfl
@[go_sem] theorem tsl_6 : tsl 6 = none := rfl
@[go_sem] theorem tsl_7 : tsl 7 = none := rfl
@[go_sem] theorem tsl_8 : tsl 8 = none := rfl
@[go_sem] theorem tsl_9 : tsl 9 = none := rfl
@[go_sem] theorem tsl_10 : tsl 10 = none := rfl
@[go_sem] theorem tsl_11 : tsl 11 = none := rfl
@[go_sem] theorem tsl_12 : tsl 12 = none := rfl
@[go_sem] theorem tsl_13 : tsl 13 = none := rfl
@[go_sem] theorem tsl_14 : tsl 14 = none := rfl
@[go_sem] theorem tsl_21 : tsl 21 = none := rfl
@[go_sem] theorem tsl_22 : tsl 22 = some 130 := rfl
@[go_sem] theorem tsl_23 : tsl 23 = none := rfl
@[go_sem] theorem tsl_24 : tsl 24 = none := rfl
@[go_sem] theorem tsl_25 : tsl 25 = some 172 := rfl
@[go_sem] theorem tsl_26 : tsl 26 = none := rfl
@[go_sem] theorem tsl_27 : tsl 27 = none := rfl
@[go_sem] theorem tsl_28 : tsl 28 = some 135 := rfl
@[go_sem] theorem tsl_29 : tsl 29 = none := rfl
@[go_sem] theorem tsl_30 : tsl 30 = none := rfl
@[go_sem] theorem tsl_31 : tsl 31 = some 206 := rfl
@[go_sem] theorem tsl_32 : tsl 32 = none := rfl
@[go_sem] theorem tsl_33 : tsl 33 = none := rfl
@[go_sem] theorem tsl_34 : tsl 34 = some 183 := rfl
@[go_sem] theorem tsl_35 : tsl 35 = none := rfl
@[go_sem] theorem tsl_36 : tsl 36 = none := rfl
@[go_sem] theorem tsl_37 : tsl 37 = none := rfl
@[go_sem] theorem tsl_38 : tsl 38 = none := rfl
@[go_sem] theorem tsl_39 : tsl 39 = none := rfl
@[go_sem] theorem tsl_40 : tsl 40 = none := rfl
@[go_sem] theorem tsl_43 : tsl 43 = some 142 := rfl
@[go_sem] theorem tsl_44 : tsl 44 = none := rfl
@[go_sem] theorem tsl_45 : tsl 45 = none := rfl
@[go_sem] theorem tsl_46 : tsl 46 = some 91 := rfl
@[go_sem] theorem tsl_47 : tsl 47 = none := rfl
@[go_sem] theorem tsl_48 : tsl 48 = none := rfl
@[go_sem] theorem tsl_49 : tsl 49 = some 94 := rfl
@[go_sem] theorem tsl_50 : tsl 50 = none := rfl
@[go_sem] theorem tsl_51 : tsl 51 = none := rfl
@[go_sem] theorem tsl_52 : tsl 52 = some 114 := rfl
@[go_sem] theorem tsl_53 : tsl 53 = none := rfl
@[go_sem] theorem tsl_54 : tsl 54 = none := rfl
@[go_sem] theorem tsl_55 : tsl 55 = some 181 := rfl
@[go_sem] theorem tsl_56 : tsl 56 = none := rfl
@[go_sem] theorem tsl_57 : tsl 57 = none := rfl
@[go_sem] theorem tsl_58 : tsl 58 = none := rfl
@[go_sem] theorem tsl_59 : tsl 59 = none := rfl
@[go_sem] theorem tsl_60 : tsl 60 = none := rfl
@[go_sem] theorem tsl_61 : tsl 61 = none := rfl
@[go_sem] theorem tsl_69 : tsl 69 = some 3 := rfl
@[go_sem] theorem tsl_77 : tsl 77 = some 5 := rfl
@[go_sem] theorem tsl_80 : tsl 80 = none := rfl
@[go_sem] theorem tsl_81 : tsl 81 = none := rfl
@[go_sem] theorem tsl_90 : tsl 90 = none := rfl
@[go_sem] theorem tsl_91 : tsl 91 = none := rfl
@[go_sem] theorem tsl_92 : tsl 92 = some 96 := rfl
@[go_sem] theorem tsl_93 : tsl 93 = none := rfl
@[go_sem] theorem tsl_94 : tsl 94 = none := rfl
@[go_sem] theorem tsl_95 : tsl 95 = none := rfl
@[go_sem] theorem tsl_96 : tsl 96 = none := rfl
@[go_sem] theorem tsl_102 : tsl 102 = some 69 := rfl
@[go_sem] theorem tsl_112 : tsl 112 = some 116 := rfl
@[go_sem] theorem tsl_113 : tsl 113 = none := rfl
@[go_sem] theorem tsl_114 : tsl 114 = none := rfl
@[go_sem] theorem tsl_115 : tsl 115 = none := rfl
@[go_sem] theorem tsl_116 : tsl 116 = none := rfl
@[go_sem] theorem tsl_117 : tsl 117 = none := rfl
@[go_sem] theorem tsl_119 : tsl 119 = none := rfl
@[go_sem] theorem tsl_120 : tsl 120 = none := rfl
@[go_sem] theorem tsl_126 : tsl 126 = some 224 := rfl
@[go_sem] theorem tsl_127 : tsl 127 = none := rfl
@[go_sem] theorem tsl_128 : tsl 128 = none := rfl
@[go_sem] theorem tsl_129 : tsl 129 = none := rfl
@[go_sem] theorem tsl_130 : tsl 130 = none := rfl
@[go_sem] theorem tsl_133 : tsl 133 = some 209 := rfl
@[go_sem] theorem tsl_134 : tsl 134 = none := rfl
@[go_sem] theorem tsl_135 : tsl 135 = none := rfl
@[go_sem] theorem tsl_138 : tsl 138 = some 229 := rfl
@[go_sem] theorem tsl_139 : tsl 139 = none := rfl
@[go_sem] theorem tsl_140 : tsl 140 = none := rfl
@[go_sem] theorem tsl_141 : tsl 141 = none := rfl
@[go_sem] theorem tsl_142 : tsl 142 = none := rfl
@[go_sem] theorem tsl_165 : tsl 165 = none := rfl
@[go_sem] theorem tsl_166 : tsl 166 = none := rfl
@[go_sem] theorem tsl_172 : tsl 172 = none := rfl
@[go_sem] theorem tsl_180 : tsl 180 = none := rfl
@[go_sem] theorem tsl_181 : tsl 181 = none := rfl
@[go_sem] theorem tsl_183 : tsl 183 = none := rfl
@[go_sem] theorem tsl_185 : tsl 185 = none := rfl
@[go_sem] theorem tsl_194 : tsl 194 = none := rfl
@[go_sem] theorem tsl_196 : tsl 196 = none := rfl
@[go_sem] theorem tsl_204 : tsl 204 = some 241 := rfl
@[go_sem] theorem tsl_205 : tsl 205 = none := rfl
@[go_sem] theorem tsl_206 : tsl 206 = none := rfl
@[go_sem] theorem tsl_209 : tsl 209 = none := rfl
@[go_sem] theorem tsl_211 : tsl 211 = none := rfl
@[go_sem] theorem tsl_221 : tsl 221 = some 251 := rfl
@[go_sem] theorem tsl_222 : tsl 222 = some 254 := rfl
@[go_sem] theorem tsl_223 : tsl 223 = none := rfl
@[go_sem] theorem tsl_224 : tsl 224 = none := rfl
@[go_sem] theorem tsl_226 : tsl 226 = some 255 := rfl
@[go_sem] theorem tsl_227 : tsl 227 = some 257 := rfl
@[go_sem] theorem tsl_228 : tsl 228 = none := rfl
@[go_sem] theorem tsl_229 : tsl 229 = none := rfl
@[go_sem] theorem tsl_241 : tsl 241 = none := rfl
@[go_sem] theorem tsl_250 : tsl 250 = none := rfl
@[go_sem] theorem tsl_251 : tsl 251 = none := rfl
@[go_sem] theorem tsl_253 : tsl 253 = none := rfl
@[go_sem] theorem tsl_254 : tsl 254 = none := rfl
@[go_sem] theorem tsl_255 : tsl 255 = none := rfl
@[go_sem] theorem tsl_257 : tsl 257 = none := rfl
@[go_sem] theorem tsl_266 : tsl 266 = none := rfl
@[go_sem] theorem tsl_267 : tsl 267 = none := rfl
@[go_sem] theorem tsl_270 : tsl 270 = none := rfl
@[go_sem] theorem tsl_271 : tsl 271 = none := rfl
@[go_sem] theorem tsz_2 : tsz 2 = some 1 := rfl
@[go_sem] theorem tsz_3 : tsz 3 = some 1 := rfl
@[go_sem] theorem tsz_4 : tsz 4 = some 1 := rfl
@[go_sem] theorem tsz_5 : tsz 5 = some 1 := rfl
@[go_sem] theorem tsz_6 : tsz 6 = some 1 := rfl
@[go_sem] theorem tsz_7 : tsz 7 = some 4 := rfl
@[go_sem] theorem tsz_8 : tsz 8 = some 4 := rfl
@[go_sem] theorem tsz_9 : tsz 9 = some 1 := rfl
@[go_sem] theorem tsz_10 : tsz 10 = some 1 := rfl
@[go_sem] theorem tsz_11 : tsz 11 = some 1 := rfl
@[go_sem] theorem tsz_12 : tsz 12 = some 1 := rfl
@[go_sem] theorem tsz_13 : tsz 13 = some 2 := rfl
@[go_sem] theorem tsz_14 : tsz 14 = some 2 := rfl
@[go_sem] theorem tsz_21 : tsz 21 = some 1 := rfl
@[go_sem] theorem tsz_22 : tsz 22 = some 1 := rfl
@[go_sem] theorem tsz_23 : tsz 23 = some 2 := rfl
@[go_sem] theorem tsz_24 : tsz 24 = some 2 := rfl
@[go_sem] theorem tsz_25 : tsz 25 = some 1 := rfl
@[go_sem] theorem tsz_26 : tsz 26 = some 2 := rfl
@[go_sem] theorem tsz_27 : tsz 27 = some 2 := rfl
@[go_sem] theorem tsz_28 : tsz 28 = some 1 := rfl
@[go_sem] theorem tsz_29 : tsz 29 = some 7 := rfl
@[go_sem] theorem tsz_30 : tsz 30 = some 7 := rfl
@[go_sem] theorem tsz_31 : tsz 31 = some 1 := rfl
@[go_sem] theorem tsz_32 : tsz 32 = some 1 := rfl
@[go_sem] theorem tsz_33 : tsz 33 = some 1 := rfl
@[go_sem] theorem tsz_34 : tsz 34 = some 1 := rfl
@[go_sem] theorem tsz_35 : tsz 35 = some 4 := rfl
@[go_sem] theorem tsz_36 : tsz 36 = some 4 := rfl
@[go_sem] theorem tsz_37 : tsz 37 = some 5 := rfl
@[go_sem] theorem tsz_38 : tsz 38 = some 5 := rfl
@[go_sem] theorem tsz_39 : tsz 39 = some 14 := rfl
@[go_sem] theorem tsz_40 : tsz 40 = some 14 := rfl
@[go_sem] theorem tsz_43 : tsz 43 = some 1 := rfl
@[go_sem] theorem tsz_44 : tsz 44 = some 2 := rfl
@[go_sem] theorem tsz_45 : tsz 45 = some 2 := rfl
@[go_sem] theorem tsz_46 : tsz 46 = some 1 := rfl
@[go_sem] theorem tsz_47 : tsz 47 = some 2 := rfl
@[go_sem] theorem tsz_48 : tsz 48 = some 2 := rfl
@[go_sem] theorem tsz_49 : tsz 49 = some 1 := rfl
@[go_sem] theorem tsz_50 : tsz 50 = some 7 := rfl
@[go_sem] theorem tsz_51 : tsz 51 = some 7 := rfl
@[go_sem] theorem tsz_52 : tsz 52 = some 1 := rfl
@[go_sem] theorem tsz_53 : tsz 53 = some 1 := rfl
@[go_sem] theorem tsz_54 : tsz 54 = some 1 := rfl
@[go_sem] theorem tsz_55 : tsz 55 = some 1 := rfl
@[go_sem] theorem tsz_56 : tsz 56 = some 4 := rfl
@[go_sem] theorem tsz_57 : tsz 57 = some 4 := rfl
@[go_sem] theorem tsz_58 : tsz 58 = some 5 := rfl
@[go_sem] theorem tsz_59 : tsz 59 = some 5 := rfl
@[go_sem] theorem tsz_60 : tsz 60 = some 14 := rfl
@[go_sem] theorem tsz_61 : tsz 61 = some 14 := rfl
@[go_sem] theorem tsz_69 : tsz 69 = some 1 := rfl
@[go_sem] theorem tsz_77 : tsz 77 = some 1 := rfl
@[go_sem] theorem tsz_80 : tsz 80 = some 3 := rfl
@[go_sem] theorem tsz_81 : tsz 81 = some 3 := rfl
@[go_sem] theorem tsz_90 : tsz 90 = some 5 := rfl
@[go_sem] theorem tsz_91 : tsz 91 = some 5 := rfl
@[go_sem] theorem tsz_92 : tsz 92 = some 1 := rfl
@[go_sem] theorem tsz_93 : tsz 93 = some 2 := rfl
@[go_sem] theorem tsz_94 : tsz 94 = some 2 := rfl
@[go_sem] theorem tsz_95 : tsz 95 = some 2 := rfl
@[go_sem] theorem tsz_96 : tsz 96 = some 2 := rfl
@[go_sem] theorem tsz_102 : tsz 102 = some 1 := rfl
@[go_sem] theorem tsz_112 : tsz 112 = some 1 := rfl
@[go_sem] theorem tsz_113 : tsz 113 = some 3 := rfl
@[go_sem] theorem tsz_114 : tsz 114 = some 3 := rfl
@[go_sem] theorem tsz_115 : tsz 115 = some 2 := rfl
@[go_sem] theorem tsz_116 : tsz 116 = some 2 := rfl
@[go_sem] theorem tsz_117 : tsz 117 = some 1 := rfl
@[go_sem] theorem tsz_119 : tsz 119 = some 3 := rfl
@[go_sem] theorem tsz_120 : tsz 120 = some 3 := rfl
@[go_sem] theorem tsz_126 : tsz 126 = some 1 := rfl
@[go_sem] theorem tsz_127 : tsz 127 = some 2 := rfl
@[go_sem] theorem tsz_128 : tsz 128 = some 2 := rfl
@[go_sem] theorem tsz_129 : tsz 129 = some 6 := rfl
@[go_sem] theorem tsz_130 : tsz 130 = some 6 := rfl
@[go_sem] theorem tsz_133 : tsz 133 = some 1 := rfl
@[go_sem] theorem tsz_134 : tsz 134 = some 2 := rfl
@[go_sem] theorem tsz_135 : tsz 135 = some 2 := rfl
@[go_sem] theorem tsz_138 : tsz 138 = some 1 := rfl
@[go_sem] theorem tsz_139 : tsz 139 = some 2 := rfl
@[go_sem] theorem tsz_140 : tsz 140 = some 2 := rfl
@[go_sem] theorem tsz_141 : tsz 141 = some 6 := rfl
@[go_sem] theorem tsz_142 : tsz 142 = some 6 := rfl
@[go_sem] theorem tsz_165 : tsz 165 = some 3 := rfl
@[go_sem] theorem tsz_166 : tsz 166 = some 3 := rfl
@[go_sem] theorem tsz_172 : tsz 172 = some 5 := rfl
@[go_sem] theorem tsz_180 : tsz 180 = some 3 := rfl
@[go_sem] theorem tsz_181 : tsz 181 = some 3 := rfl
@[go_sem] theorem tsz_183 : tsz 183 = some 3 := rfl
@[go_sem] theorem tsz_185 : tsz 185 = some 1 := rfl
@[go_sem] theorem tsz_194 : tsz 194 = some 1 := rfl
@[go_sem] theorem tsz_196 : tsz 196 = some 1 := rfl
@[go_sem] theorem tsz_204 : tsz 204 = some 1 := rfl
@[go_sem] theorem tsz_205 : tsz 205 = some 3 := rfl
@[go_sem] theorem tsz_206 : tsz 206 = some 3 := rfl
@[go_sem] theorem tsz_209 : tsz 209 = some 2 := rfl
@[go_sem] theorem tsz_211 : tsz 211 = some 1 := rfl
@[go_sem] theorem tsz_221 : tsz 221 = some 1 := rfl
@[go_sem] theorem tsz_222 : tsz 222 = some 1 := rfl
@[go_sem] theorem tsz_223 : tsz 223 = some 6 := rfl
@[go_sem] theorem tsz_224 : tsz 224 = some 6 := rfl
@[go_sem] theorem tsz_226 : tsz 226 = some 1 := rfl
@[go_sem] theorem tsz_227 : tsz 227 = some 1 := rfl
@[go_sem] theorem tsz_228 : tsz 228 = some 6 := rfl
@[go_sem] theorem tsz_229 : tsz 229 = some 6 := rfl
@[go_sem] theorem tsz_241 : tsz 241 = some 2 := rfl
@[go_sem] theorem tsz_250 : tsz 250 = some 2 := rfl
@[go_sem] theorem tsz_251 : tsz 251 = some 2 := rfl
@[go_sem] theorem tsz_253 : tsz 253 = some 2 := rfl
@[go_sem] theorem tsz_254 : tsz 254 = some 2 := rfl
@[go_sem] theorem tsz_255 : tsz 255 = some 2 := rfl
@[go_sem] theorem tsz_257 : tsz 257 = some 2 := rfl
@[go_sem] theorem tsz_266 : tsz 266 = some 1 := rfl
@[go_sem] theorem tsz_267 : tsz 267 = some 1 := rfl
@[go_sem] theorem tsz_270 : tsz 270 = some 1 := rfl
@[go_sem] theorem tsz_271 : tsz 271 = some 1 := rfl
@[go_sem] theorem tby_2 : tby 2 = some 8 := rfl
@[go_sem] theorem tby_3 : tby 3 = some 8 := rfl
@[go_sem] theorem tby_4 : tby 4 = some 1 := rfl
@[go_sem] theorem tby_5 : tby 5 = some 1 := rfl
@[go_sem] theorem tby_6 : tby 6 = some 1 := rfl
@[go_sem] theorem tby_7 : tby 7 = some 24 := rfl
@[go_sem] theorem tby_8 : tby 8 = some 24 := rfl
@[go_sem] theorem tby_9 : tby 9 = some 16 := rfl
@[go_sem] theorem tby_10 : tby 10 = some 16 := rfl
@[go_sem] theorem tby_11 : tby 11 = some 16 := rfl
@[go_sem] theorem tby_12 : tby 12 = some 8 := rfl
@[go_sem] theorem tby_13 : tby 13 = some 24 := rfl
@[go_sem] theorem tby_14 : tby 14 = some 24 := rfl
@[go_sem] theorem tby_21 : tby 21 = some 4 := rfl
@[go_sem] theorem tby_22 : tby 22 = some 24 := rfl
@[go_sem] theorem tby_23 : tby 23 = some 32 := rfl
@[go_sem] theorem tby_24 : tby 24 = some 32 := rfl
@[go_sem] theorem tby_25 : tby 25 = some 24 := rfl
@[go_sem] theorem tby_26 : tby 26 = some 32 := rfl
@[go_sem] theorem tby_27 : tby 27 = some 32 := rfl
@[go_sem] theorem tby_28 : tby 28 = some 24 := rfl
@[go_sem] theorem tby_29 : tby 29 = some 104 := rfl
@[go_sem] theorem tby_30 : tby 30 = some 104 := rfl
@[go_sem] theorem tby_31 : tby 31 = some 24 := rfl
@[go_sem] theorem tby_32 : tby 32 = some 24 := rfl
@[go_sem] theorem tby_33 : tby 33 = some 24 := rfl
@[go_sem] theorem tby_34 : tby 34 = some 24 := rfl
@[go_sem] theorem tby_35 : tby 35 = some 64 := rfl
@[go_sem] theorem tby_36 : tby 36 = some 64 := rfl
@[go_sem] theorem tby_37 : tby 37 = some 72 := rfl
@[go_sem] theorem tby_38 : tby 38 = some 72 := rfl
@[go_sem] theorem tby_39 : tby 39 = some 208 := rfl
@[go_sem] theorem tby_40 : tby 40 = some 208 := rfl
@[go_sem] theorem tby_43 : tby 43 = some 24 := rfl
@[go_sem] theorem tby_44 : tby 44 = some 32 := rfl
@[go_sem] theorem tby_45 : tby 45 = some 32 := rfl
@[go_sem] theorem tby_46 : tby 46 = some 24 := rfl
@[go_sem] theorem tby_47 : tby 47 = some 32 := rfl
@[go_sem] theorem tby_48 : tby 48 = some 32 := rfl
@[go_sem] theorem tby_49 : tby 49 = some 24 := rfl
@[go_sem] theorem tby_50 : tby 50 = some 104 := rfl
@[go_sem] theorem tby_51 : tby 51 = some 104 := rfl
@[go_sem] theorem tby_52 : tby 52 = some 24 := rfl
@[go_sem] theorem tby_53 : tby 53 = some 24 := rfl
@[go_sem] theorem tby_54 : tby 54 = some 24 := rfl
@[go_sem] theorem tby_55 : tby 55 = some 24 := rfl
@[go_sem] theorem tby_56 : tby 56 = some 64 := rfl
@[go_sem] theorem tby_57 : tby 57 = some 64 := rfl
@[go_sem] theorem tby_58 : tby 58 = some 72 := rfl
@[go_sem] theorem tby_59 : tby 59 = some 72 := rfl
@[go_sem] theorem tby_60 : tby 60 = some 208 := rfl
@[go_sem] theorem tby_61 : tby 61 = some 208 := rfl
@[go_sem] theorem tby_69 : tby 69 = some 24 := rfl
@[go_sem] theorem tby_77 : tby 77 = some 24 := rfl
@[go_sem] theorem tby_80 : tby 80 = some 40 := rfl
@[go_sem] theorem tby_81 : tby 81 = some 40 := rfl
@[go_sem] theorem tby_90 : tby 90 = some 48 := rfl
@[go_sem] theorem tby_91 : tby 91 = some 48 := rfl
@[go_sem] theorem tby_92 : tby 92 = some 24 := rfl
@[go_sem] theorem tby_93 : tby 93 = some 32 := rfl
@[go_sem] theorem tby_94 : tby 94 = some 32 := rfl
@[go_sem] theorem tby_95 : tby 95 = some 16 := rfl
@[go_sem] theorem tby_96 : tby 96 = some 16 := rfl
@[go_sem] theorem tby_102 : tby 102 = some 24 := rfl
@[go_sem] theorem tby_112 : tby 112 = some 24 := rfl
@[go_sem] theorem tby_113 : tby 113 = some 40 := rfl
@[go_sem] theorem tby_114 : tby 114 = some 40 := rfl
@[go_sem] theorem tby_115 : tby 115 = some 32 := rfl
@[go_sem] theorem tby_116 : tby 116 = some 32 := rfl
@[go_sem] theorem tby_117 : tby 117 = some 8 := rfl
@[go_sem] theorem tby_119 : tby 119 = some 40 := rfl
@[go_sem] theorem tby_120 : tby 120 = some 40 := rfl
@[go_sem] theorem tby_126 : tby 126 = some 24 := rfl
@[go_sem] theorem tby_127 : tby 127 = some 32 := rfl
@[go_sem] theorem tby_128 : tby 128 = some 32 := rfl
@[go_sem] theorem tby_129 : tby 129 = some 72 := rfl
@[go_sem] theorem tby_130 : tby 130 = some 72 := rfl
@[go_sem] theorem tby_133 : tby 133 = some 24 := rfl
@[go_sem] theorem tby_134 : tby 134 = some 32 := rfl
@[go_sem] theorem tby_135 : tby 135 = some 32 := rfl
@[go_sem] theorem tby_138 : tby 138 = some 24 := rfl
@[go_sem] theorem tby_139 : tby 139 = some 32 := rfl
@[go_sem] theorem tby_140 : tby 140 = some 32 := rfl
@[go_sem] theorem tby_141 : tby 141 = some 72 := rfl
@[go_sem] theorem tby_142 : tby 142 = some 72 := rfl
@[go_sem] theorem tby_165 : tby 165 = some 40 := rfl
@[go_sem] theorem tby_166 : tby 166 = some 40 := rfl
@[go_sem] theorem tby_172 : tby 172 = some 48 := rfl
@[go_sem] theorem tby_180 : tby 180 = some 24 := rfl
@[go_sem] theorem tby_181 : tby 181 = some 24 := rfl
@[go_sem] theorem tby_183 : tby 183 = some 24 := rfl
@[go_sem] theorem tby_185 : tby 185 = some 8 := rfl
@[go_sem] theorem tby_194 : tby 194 = some 4 := rfl
@[go_sem] theorem tby_196 : tby 196 = some 8 := rfl
@[go_sem] theorem tby_204 : tby 204 = some 24 := rfl
@[go_sem] theorem tby_205 : tby 205 = some 40 := rfl
@[go_sem] theorem tby_206 : tby 206 = some 40 := rfl
@[go_sem] theorem tby_209 : tby 209 = some 16 := rfl
@[go_sem] theorem tby_211 : tby 211 = some 8 := rfl
@[go_sem] theorem tby_221 : tby 221 = some 24 := rfl
@[go_sem] theorem tby_222 : tby 222 = some 24 := rfl
@[go_sem] theorem tby_223 : tby 223 = some 96 := rfl
@[go_sem] theorem tby_224 : tby 224 = some 96 := rfl
@[go_sem] theorem tby_226 : tby 226 = some 24 := rfl
@[go_sem] theorem tby_227 : tby 227 = some 24 := rfl
@[go_sem] theorem tby_228 : tby 228 = some 96 := rfl
@[go_sem] theorem tby_229 : tby 229 = some 96 := rfl
@[go_sem] theorem tby_241 : tby 241 = some 32 := rfl
@[go_sem] theorem tby_250 : tby 250 = some 24 := rfl
@[go_sem] theorem tby_251 : tby 251 = some 24 := rfl
@[go_sem] theorem tby_253 : tby 253 = some 32 := rfl
@[go_sem] theorem tby_254 : tby 254 = some 32 := rfl
@[go_sem] theorem tby_255 : tby 255 = some 24 := rfl
@[go_sem] theorem tby_257 : tby 257 = some 32 := rfl
@[go_sem] theorem tby_266 : tby 266 = some 1 := rfl
@[go_sem] theorem tby_267 : tby 267 = some 1 := rfl
@[go_sem] theorem tby_270 : tby 270 = some 4 := rfl
@[go_sem] theorem tby_271 : tby 271 = some 4 := rfl
@[go_sem] theorem tag_2 : tag 2 = some false := rfl
@[go_sem] theorem tag_3 : tag 3 = some false := rfl
@[go_sem] theorem tag_4 : tag 4 = some false := rfl
@[go_sem] theorem tag_5 : tag 5 = some false := rfl
@[go_sem] theorem tag_6 : tag 6 = some false := rfl
@[go_sem] theorem tag_7 : tag 7 = some true := rfl
@[go_sem] theorem tag_8 : tag 8 = some true := rfl
@[go_sem] theorem tag_9 : tag 9 = some false := rfl
@[go_sem] theorem tag_10 : tag 10 = some false := rfl
@[go_sem] theorem tag_11 : tag 11 = some false := rfl
@[go_sem] theorem tag_12 : tag 12 = some false := rfl
@[go_sem] theorem tag_13 : tag 13 = some true := rfl
@[go_sem] theorem tag_14 : tag 14 = some true := rfl
@[go_sem] theorem tag_21 : tag 21 = some false := rfl
@[go_sem] theorem tag_22 : tag 22 = some false := rfl
@[go_sem] theorem tag_23 : tag 23 = some true := rfl
@[go_sem] theorem tag_24 : tag 24 = some true := rfl
@[go_sem] theorem tag_25 : tag 25 = some false := rfl
@[go_sem] theorem tag_26 : tag 26 = some true := rfl
@[go_sem] theorem tag_27 : tag 27 = some true := rfl
@[go_sem] theorem tag_28 : tag 28 = some false := rfl
@[go_sem] theorem tag_29 : tag 29 = some true := rfl
@[go_sem] theorem tag_30 : tag 30 = some true := rfl
@[go_sem] theorem tag_31 : tag 31 = some false := rfl
@[go_sem] theorem tag_32 : tag 32 = some true := rfl
@[go_sem] theorem tag_33 : tag 33 = some true := rfl
@[go_sem] theorem tag_34 : tag 34 = some false := rfl
@[go_sem] theorem tag_35 : tag 35 = some true := rfl
@[go_sem] theorem tag_36 : tag 36 = some true := rfl
@[go_sem] theorem tag_37 : tag 37 = some true := rfl
@[go_sem] theorem tag_38 : tag 38 = some true := rfl
@[go_sem] theorem tag_39 : tag 39 = some true := rfl
@[go_sem] theorem tag_40 : tag 40 = some true := rfl
@[go_sem] theorem tag_43 : tag 43 = some false := rfl
@[go_sem] theorem tag_44 : tag 44 = some true := rfl
@[go_sem] theorem tag_45 : tag 45 = some true := rfl
@[go_sem] theorem tag_46 : tag 46 = some false := rfl
@[go_sem] theorem tag_47 : tag 47 = some true := rfl
@[go_sem] theorem tag_48 : tag 48 = some true := rfl
@[go_sem] theorem tag_49 : tag 49 = some false := rfl
@[go_sem] theorem tag_50 : tag 50 = some true := rfl
@[go_sem] theorem tag_51 : tag 51 = some true := rfl
@[go_sem] theorem tag_52 : tag 52 = some false := rfl
@[go_sem] theorem tag_53 : tag 53 = some true := rfl
@[go_sem] theorem tag_54 : tag 54 = some true := rfl
@[go_sem] theorem tag_55 : tag 55 = some false := rfl
@[go_sem] theorem tag_56 : tag 56 = some true := rfl
@[go_sem] theorem tag_57 : tag 57 = some true := rfl
@[go_sem] theorem tag_58 : tag 58 = some true := rfl
@[go_sem] theorem tag_59 : tag 59 = some true := rfl
@[go_sem] theorem tag_60 : tag 60 = some true := rfl
@[go_sem] theorem tag_61 : tag 61 = some true := rfl
@[go_sem] theorem tag_69 : tag 69 = some false := rfl
@[go_sem] theorem tag_77 : tag 77 = some false := rfl
@[go_sem] theorem tag_80 : tag 80 = some true := rfl
@[go_sem] theorem tag_81 : tag 81 = some true := rfl
@[go_sem] theorem tag_90 : tag 90 = some true := rfl
@[go_sem] theorem tag_91 : tag 91 = some true := rfl
@[go_sem] theorem tag_92 : tag 92 = some false := rfl
@[go_sem] theorem tag_93 : tag 93 = some true := rfl
@[go_sem] theorem tag_94 : tag 94 = some true := rfl
@[go_sem] theorem tag_95 : tag 95 = some true := rfl
@[go_sem] theorem tag_96 : tag 96 = some true := rfl
@[go_sem] theorem tag_102 : tag 102 = some false := rfl
@[go_sem] theorem tag_112 : tag 112 = some false := rfl
@[go_sem] theorem tag_113 : tag 113 = some true := rfl
@[go_sem] theorem tag_114 : tag 114 = some true := rfl
@[go_sem] theorem tag_115 : tag 115 = some true := rfl
@[go_sem] theorem tag_116 : tag 116 = some true := rfl
@[go_sem] theorem tag_117 : tag 117 = some false := rfl
@[go_sem] theorem tag_119 : tag 119 = some true := rfl
@[go_sem] theorem tag_120 : tag 120 = some true := rfl
@[go_sem] theorem tag_126 : tag 126 = some false := rfl
@[go_sem] theorem tag_127 : tag 127 = some true := rfl
@[go_sem] theorem tag_128 : tag 128 = some true := rfl
@[go_sem] theorem tag_129 : tag 129 = some true := rfl
@[go_sem] theorem tag_130 : tag 130 = some true := rfl
@[go_sem] theorem tag_133 : tag 133 = some false := rfl
@[go_sem] theorem tag_134 : tag 134 = some true := rfl
@[go_sem] theorem tag_135 : tag 135 = some true := rfl
@[go_sem] theorem tag_138 : tag 138 = some false := rfl
@[go_sem] theorem tag_139 : tag 139 = some true := rfl
@[go_sem] theorem tag_140 : tag 140 = some true := rfl
@[go_sem] theorem tag_141 : tag 141 = some true := rfl
@[go_sem] theorem tag_142 : tag 142 = some true := rfl
@[go_sem] theorem tag_165 : tag 165 = some true := rfl
@[go_sem] theorem tag_166 : tag 166 = some true := rfl
@[go_sem] theorem tag_172 : tag 172 = some true := rfl
@[go_sem] theorem tag_180 : tag 180 = some true := rfl
@[go_sem] theorem tag_181 : tag 181 = some true := rfl
@[go_sem] theorem tag_183 : tag 183 = some true := rfl
@[go_sem] theorem tag_185 : tag 185 = some false := rfl
@[go_sem] theorem tag_194 : tag 194 = some false := rfl
@[go_sem] theorem tag_196 : tag 196 = some false := rfl
@[go_sem] theorem tag_204 : tag 204 = some false := rfl
@[go_sem] theorem tag_205 : tag 205 = some true := rfl
@[go_sem] theorem tag_206 : tag 206 = some true := rfl
@[go_sem] theorem tag_209 : tag 209 = some true := rfl
@[go_sem] theorem tag_211 : tag 211 = some false := rfl
@[go_sem] theorem tag_221 : tag 221 = some false := rfl
@[go_sem] theorem tag_222 : tag 222 = some false := rfl
@[go_sem] theorem tag_223 : tag 223 = some true := rfl
@[go_sem] theorem tag_224 : tag 224 = some true := rfl
@[go_sem] theorem tag_226 : tag 226 = some false := rfl
@[go_sem] theorem tag_227 : tag 227 = some false := rfl
@[go_sem] theorem tag_228 : tag 228 = some true := rfl
@[go_sem] theorem tag_229 : tag 229 = some true := rfl
@[go_sem] theorem tag_241 : tag 241 = some true := rfl
@[go_sem] theorem tag_250 : tag 250 = some true := rfl
@[go_sem] theorem tag_251 : tag 251 = some true := rfl
@[go_sem] theorem tag_253 : tag 253 = some true := rfl
@[go_sem] theorem tag_254 : tag 254 = some true := rfl
@[go_sem] theorem tag_255 : tag 255 = some true := rfl
@[go_sem] theorem tag_257 : tag 257 = some true := rfl
@[go_sem] theorem tag_266 : tag 266 = some false := rfl
@[go_sem] theorem tag_267 : tag 267 = some false := rfl
@[go_sem] theorem tag_270 : tag 270 = some false := rfl
@[go_sem] theorem tag_271 : tag 271 = some false := rfl
@[go_sem] theorem tzr_2 : tzr 2 = some [.i .i64 0] := rfl
@[go_sem] theorem tzr_3 : tzr 3 = some [.i .i64 0] := rfl
@[go_sem] theorem tzr_4 : tzr 4 = some [.b false] := rfl
@[go_sem] theorem tzr_5 : tzr 5 = some [.i .u8 0] := rfl
@[go_sem] theorem tzr_6 : tzr 6 = some [.i .u8 0] := rfl
@[go_sem] theorem tzr_7 : tzr 7 = some [.i .i64 0, .i .i64 0, .b false, .i .u8 0] := rfl
@[go_sem] theorem tzr_8 : tzr 8 = some [.i .i64 0, .i .i64 0, .b false, .i .u8 0] := rfl
@[go_sem] theorem tzr_9 : tzr 9 = some [.t ⟨#[]⟩] := rfl
@[go_sem] theorem tzr_10 : tzr 10 = some [.t ⟨#[]⟩] := rfl
@[go_sem] theorem tzr_11 : tzr 11 = some [.t ⟨#[]⟩] := rfl
@[go_sem] theorem tzr_12 : tzr 12 = some [.i .u64 0] := rfl
@[go_sem] theorem tzr_13 : tzr 13 = some [.t ⟨#[]⟩, .i .u64 0] := rfl
@[go_sem] theorem tzr_14 : tzr 14 = some [.t ⟨#[]⟩, .i .u64 0] := rfl
@[go_sem] theorem tzr_21 : tzr 21 = some [.i .i32 0] := rfl
@[go_sem] theorem tzr_22 : tzr 22 = some [.s 6 []] := rfl
@[go_sem] theorem tzr_23 : tzr 23 = some [.s 6 [], .i .i64 0] := rfl
@[go_sem] theorem tzr_24 : tzr 24 = some [.s 6 [], .i .i64 0] := rfl
@[go_sem] theorem tzr_25 : tzr 25 = some [.s 5 []] := rfl
@[go_sem] theorem tzr_26 : tzr 26 = some [.i .i64 0, .s 5 []] := rfl
@[go_sem] theorem tzr_27 : tzr 27 = some [.i .i64 0, .s 5 []] := rfl
@[go_sem] theorem tzr_28 : tzr 28 = some [.s 2 []] := rfl
@[go_sem] theorem tzr_29 : tzr 29 = some [.s 6 [], .i .i64 0, .i .i64 0, .s 5 [], .s 2 [], .i .i64 0, .i .i64 0] := rfl
@[go_sem] theorem tzr_30 : tzr 30 = some [.s 6 [], .i .i64 0, .i .i64 0, .s 5 [], .s 2 [], .i .i64 0, .i .i64 0] := rfl
@[go_sem] theorem tzr_31 : tzr 31 = some [.s 3 []] := rfl
@[go_sem] theorem tzr_32 : tzr 32 = some [.s 3 []] := rfl
@[go_sem] theorem tzr_33 : tzr 33 = some [.s 3 []] := rfl
@[go_sem] theorem tzr_34 : tzr 34 = some [.s 3 []] := rfl
@[go_sem] theorem tzr_35 : tzr 35 = some [.s 3 [], .i .i64 0, .s 3 [], .b false] := rfl
@[go_sem] theorem tzr_36 : tzr 36 = some [.s 3 [], .i .i64 0, .s 3 [], .b false] := rfl
@[go_sem] theorem tzr_37 : tzr 37 = some [.s 3 [], .i .i64 0, .s 3 [], .b false, .i .i64 0] := rfl
@[go_sem] theorem tzr_38 : tzr 38 = some [.s 3 [], .i .i64 0, .s 3 [], .b false, .i .i64 0] := rfl
@[go_sem] theorem tzr_39 : tzr 39 = some [.s 6 [], .i .i64 0, .s 6 [], .i .i64 0, .i .i64 0, .s 5 [], .s 2 [], .i .i64 0, .i .i64 0, .s 3 [], .i .i64 0, .s 3 [], .b false, .i .i64 0] := rfl
@[go_sem] theorem tzr_40 : tzr 40 = some [.s 6 [], .i .i64 0, .s 6 [], .i .i64 0, .i .i64 0, .s 5 [], .s 2 [], .i .i64 0, .i .i64 0, .s 3 [], .i .i64 0, .s 3 [], .b false, .i .i64 0] := rfl
@[go_sem] theorem tzr_43 : tzr 43 = some [.s 6 []] := rfl
@[go_sem] theorem tzr_44 : tzr 44 = some [.s 6 [], .i .i64 0] := rfl
@[go_sem] theorem tzr_45 : tzr 45 = some [.s 6 [], .i .i64 0] := rfl
@[go_sem] theorem tzr_46 : tzr 46 = some [.s 5 []] := rfl
@[go_sem] theorem tzr_47 : tzr 47 = some [.i .i64 0, .s 5 []] := rfl
@[go_sem] theorem tzr_48 : tzr 48 = some [.i .i64 0, .s 5 []] := rfl
@[go_sem] theorem tzr_49 : tzr 49 = some [.s 2 []] := rfl
@[go_sem] theorem tzr_50 : tzr 50 = some [.s 6 [], .i .i64 0, .i .i64 0, .s 5 [], .s 2 [], .i .i64 0, .i .i64 0] := rfl
@[go_sem] theorem tzr_51 : tzr 51 = some [.s 6 [], .i .i64 0, .i .i64 0, .s 5 [], .s 2 [], .i .i64 0, .i .i64 0] := rfl
@[go_sem] theorem tzr_52 : tzr 52 = some [.s 3 []] := rfl
@[go_sem] theorem tzr_53 : tzr 53 = some [.s 3 []] := rfl
@[go_sem] theorem tzr_54 : tzr 54 = some [.s 3 []] := rfl
@[go_sem] theorem tzr_55 : tzr 55 = some [.s 3 []] := rfl
@[go_sem] theorem tzr_56 : tzr 56 = some [.s 3 [], .i .i64 0, .s 3 [], .b false] := rfl
@[go_sem] theorem tzr_57 : tzr 57 = some [.s 3 [], .i .i64 0, .s 3 [], .b false] := rfl
@[go_sem] theorem tzr_58 : tzr 58 = some [.s 3 [], .i .i64 0, .s 3 [], .b false, .i .i64 0] := rfl
@[go_sem] theorem tzr_59 : tzr 59 = some [.s 3 [], .i .i64 0, .s 3 [], .b false, .i .i64 0] := rfl
@[go_sem] theorem tzr_60 : tzr 60 = some [.s 6 [], .i .i64 0, .s 6 [], .i .i64 0, .i .i64 0, .s 5 [], .s 2 [], .i .i64 0, .i .i64 0, .s 3 [], .i .i64 0, .s 3 [], .b false, .i .i64 0] := rfl
@[go_sem] theorem tzr_61 : tzr 61 = some [.s 6 [], .i .i64 0, .s 6 [], .i .i64 0, .i .i64 0, .s 5 [], .s 2 [], .i .i64 0, .i .i64 0, .s 3 [], .i .i64 0, .s 3 [], .b false, .i .i64 0] := rfl
@[go_sem] theorem tzr_69 : tzr 69 = some [.s 1 []] := rfl
@[go_sem] theorem tzr_77 : tzr 77 = some [.s 1 []] := rfl
@[go_sem] theorem tzr_80 : tzr 80 = some [.i .i64 0, .i .i64 0, .s 1 []] := rfl
@[go_sem] theorem tzr_81 : tzr 81 = some [.i .i64 0, .i .i64 0, .s 1 []] := rfl
@[go_sem] theorem tzr_90 : tzr 90 = some [.i .i64 0, .t ⟨#[]⟩, .b false, .i .i64 0, .i .i64 0] := rfl
@[go_sem] theorem tzr_91 : tzr 91 = some [.i .i64 0, .t ⟨#[]⟩, .b false, .i .i64 0, .i .i64 0] := rfl
@[go_sem] theorem tzr_92 : tzr 92 = some [.s 2 []] := rfl
@[go_sem] theorem tzr_93 : tzr 93 = some [.i .i64 0, .s 2 []] := rfl
@[go_sem] theorem tzr_94 : tzr 94 = some [.i .i64 0, .s 2 []] := rfl
@[go_sem] theorem tzr_95 : tzr 95 = some [.i .i64 0, .i .i64 0] := rfl
@[go_sem] theorem tzr_96 : tzr 96 = some [.i .i64 0, .i .i64 0] := rfl
@[go_sem] theorem tzr_102 : tzr 102 = some [.s 1 []] := rfl
@[go_sem] theorem tzr_112 : tzr 112 = some [.s 2 []] := rfl
@[go_sem] theorem tzr_113 : tzr 113 = some [.s 2 [], .i .i64 0, .b false] := rfl
@[go_sem] theorem tzr_114 : tzr 114 = some [.s 2 [], .i .i64 0, .b false] := rfl
@[go_sem] theorem tzr_115 : tzr 115 = some [.b false, .s 1 []] := rfl
@[go_sem] theorem tzr_116 : tzr 116 = some [.b false, .s 1 []] := rfl
@[go_sem] theorem tzr_117 : tzr 117 = some [.i .u64 0] := rfl
@[go_sem] theorem tzr_119 : tzr 119 = some [.s 1 [], .i .i64 0, .b false] := rfl
@[go_sem] theorem tzr_120 : tzr 120 = some [.s 1 [], .i .i64 0, .b false] := rfl
@[go_sem] theorem tzr_126 : tzr 126 = some [.s 6 []] := rfl
@[go_sem] theorem tzr_127 : tzr 127 = some [.s 6 [], .i .i64 0] := rfl
@[go_sem] theorem tzr_128 : tzr 128 = some [.s 6 [], .i .i64 0] := rfl
@[go_sem] theorem tzr_129 : tzr 129 = some [.i .i64 0, .t ⟨#[]⟩, .b false, .i .i64 0, .s 6 [], .i .i64 0] := rfl
@[go_sem] theorem tzr_130 : tzr 130 = some [.i .i64 0, .t ⟨#[]⟩, .b false, .i .i64 0, .s 6 [], .i .i64 0] := rfl
@[go_sem] theorem tzr_133 : tzr 133 = some [.s 2 []] := rfl
@[go_sem] theorem tzr_134 : tzr 134 = some [.i .i64 0, .s 2 []] := rfl
@[go_sem] theorem tzr_135 : tzr 135 = some [.i .i64 0, .s 2 []] := rfl
@[go_sem] theorem tzr_138 : tzr 138 = some [.s 6 []] := rfl
@[go_sem] theorem tzr_139 : tzr 139 = some [.s 6 [], .i .i64 0] := rfl
@[go_sem] theorem tzr_140 : tzr 140 = some [.s 6 [], .i .i64 0] := rfl
@[go_sem] theorem tzr_141 : tzr 141 = some [.i .i64 0, .t ⟨#[]⟩, .b false, .i .i64 0, .s 6 [], .i .i64 0] := rfl
@[go_sem] theorem tzr_142 : tzr 142 = some [.i .i64 0, .t ⟨#[]⟩, .b false, .i .i64 0, .s 6 [], .i .i64 0] := rfl
@[go_sem] theorem tzr_165 : tzr 165 = some [.s 1 [], .i .i64 0, .b false] := rfl
@[go_sem] theorem tzr_166 : tzr 166 = some [.s 1 [], .i .i64 0, .b false] := rfl
@[go_sem] theorem tzr_172 : tzr 172 = some [.i .i64 0, .t ⟨#[]⟩, .b false, .i .i64 0, .i .i64 0] := rfl
@[go_sem] theorem tzr_180 : tzr 180 = some [.i .i64 0, .i .i64 0, .i .i64 0] := rfl
@[go_sem] theorem tzr_181 : tzr 181 = some [.i .i64 0, .i .i64 0, .i .i64 0] := rfl
@[go_sem] theorem tzr_183 : tzr 183 = some [.i .i64 0, .i .i64 0, .i .i64 0] := rfl
@[go_sem] theorem tzr_185 : tzr 185 = some [.i .i64 0] := rfl
@[go_sem] theorem tzr_194 : tzr 194 = some [.i .u32 0] := rfl
@[go_sem] theorem tzr_196 : tzr 196 = some [.i .u64 0] := rfl
@[go_sem] theorem tzr_204 : tzr 204 = some [.s 2 []] := rfl
@[go_sem] theorem tzr_205 : tzr 205 = some [.s 2 [], .i .i64 0, .b false] := rfl
@[go_sem] theorem tzr_206 : tzr 206 = some [.s 2 [], .i .i64 0, .b false] := rfl
@[go_sem] theorem tzr_209 : tzr 209 = some [.i .i64 0, .i .i64 0] := rfl
@[go_sem] theorem tzr_211 : tzr 211 = some [.i .u64 0] := rfl
@[go_sem] theorem tzr_221 : tzr 221 = some [.s 2 []] := rfl
@[go_sem] theorem tzr_222 : tzr 222 = some [.s 2 []] := rfl
@[go_sem] theorem tzr_223 : tzr 223 = some [.i .i64 0, .i .i64 0, .i .i64 0, .s 1 [], .s 2 [], .s 2 []] := rfl
@[go_sem] theorem tzr_224 : tzr 224 = some [.i .i64 0, .i .i64 0, .i .i64 0, .s 1 [], .s 2 [], .s 2 []] := rfl
@[go_sem] theorem tzr_226 : tzr 226 = some [.s 2 []] := rfl
@[go_sem] theorem tzr_227 : tzr 227 = some [.s 2 []] := rfl
@[go_sem] theorem tzr_228 : tzr 228 = some [.i .i64 0, .i .i64 0, .i .i64 0, .s 1 [], .s 2 [], .s 2 []] := rfl
@[go_sem] theorem tzr_229 : tzr 229 = some [.i .i64 0, .i .i64 0, .i .i64 0, .s 1 [], .s 2 [], .s 2 []] := rfl
@[go_sem] theorem tzr_241 : tzr 241 = some [.b false, .s 1 []] := rfl
@[go_sem] theorem tzr_250 : tzr 250 = some [.t ⟨#[]⟩, .i .i64 0] := rfl
@[go_sem] theorem tzr_251 : tzr 251 = some [.t ⟨#[]⟩, .i .i64 0] := rfl
@[go_sem] theorem tzr_253 : tzr 253 = some [.t ⟨#[]⟩, .t ⟨#[]⟩] := rfl
@[go_sem] theorem tzr_254 : tzr 254 = some [.t ⟨#[]⟩, .t ⟨#[]⟩] := rfl
@[go_sem] theorem tzr_255 : tzr 255 = some [.t ⟨#[]⟩, .i .i64 0] := rfl
@[go_sem] theorem tzr_257 : tzr 257 = some [.t ⟨#[]⟩, .t ⟨#[]⟩] := rfl
@[go_sem] theorem tzr_266 : tzr 266 = some [.i .u8 0] := rfl
@[go_sem] theorem tzr_267 : tzr 267 = some [.i .u8 0] := rfl
@[go_sem] theorem tzr_270 : tzr 270 = some [.i .i32 0] := rfl
@[go_sem] theorem tzr_271 : tzr 271 = some [.i .i32 0] := rfl
@[go_sem] theorem tfs_7 : tfs 7 = [(0, 1), (1, 1), (2, 1), (3, 1)] := rfl
@[go_sem] theorem tfs_8 : tfs 8 = [(0, 1), (1, 1), (2, 1), (3, 1)] := rfl
@[go_sem] theorem tfs_13 : tfs 13 = [(0, 1), (1, 1)] := rfl
@[go_sem] theorem tfs_14 : tfs 14 = [(0, 1), (1, 1)] := rfl
@[go_sem] theorem tfs_23 : tfs 23 = [(0, 1), (1, 1)] := rfl
@[go_sem] theorem tfs_24 : tfs 24 = [(0, 1), (1, 1)] := rfl
@[go_sem] theorem tfs_26 : tfs 26 = [(0, 1), (1, 1)] := rfl
@[go_sem] theorem tfs_27 : tfs 27 = [(0, 1), (1, 1)] := rfl
@[go_sem] theorem tfs_29 : tfs 29 = [(0, 2), (2, 2), (4, 1), (5, 1), (6, 1)] := rfl
@[go_sem] theorem tfs_30 : tfs 30 = [(0, 2), (2, 2), (4, 1), (5, 1), (6, 1)] := rfl
@[go_sem] theorem tfs_32 : tfs 32 = [(0, 1)] := rfl
@[go_sem] theorem tfs_33 : tfs 33 = [(0, 1)] := rfl
@[go_sem] theorem tfs_35 : tfs 35 = [(0, 1), (1, 1), (2, 1), (3, 1)] := rfl
@[go_sem] theorem tfs_36 : tfs 36 = [(0, 1), (1, 1), (2, 1), (3, 1)] := rfl
@[go_sem] theorem tfs_37 : tfs 37 = [(0, 4), (4, 1)] := rfl
@[go_sem] theorem tfs_38 : tfs 38 = [(0, 4), (4, 1)] := rfl
@[go_sem] theorem tfs_39 : tfs 39 = [(0, 2), (2, 7), (9, 5)] := rfl
@[go_sem] theorem tfs_40 : tfs 40 = [(0, 2), (2, 7), (9, 5)] := rfl
@[go_sem] theorem tfs_44 : tfs 44 = [(0, 1), (1, 1)] := rfl
@[go_sem] theorem tfs_45 : tfs 45 = [(0, 1), (1, 1)] := rfl
@[go_sem] theorem tfs_47 : tfs 47 = [(0, 1), (1, 1)] := rfl
@[go_sem] theorem tfs_48 : tfs 48 = [(0, 1), (1, 1)] := rfl
@[go_sem] theorem tfs_50 : tfs 50 = [(0, 2), (2, 2), (4, 1), (5, 1), (6, 1)] := rfl
@[go_sem] theorem tfs_51 : tfs 51 = [(0, 2), (2, 2), (4, 1), (5, 1), (6, 1)] := rfl
@[go_sem] theorem tfs_53 : tfs 53 = [(0, 1)] := rfl
@[go_sem] theorem tfs_54 : tfs 54 = [(0, 1)] := rfl
@[go_sem] theorem tfs_56 : tfs 56 = [(0, 1), (1, 1), (2, 1), (3, 1)] := rfl
@[go_sem] theorem tfs_57 : tfs 57 = [(0, 1), (1, 1), (2, 1), (3, 1)] := rfl
@[go_sem] theorem tfs_58 : tfs 58 = [(0, 4), (4, 1)] := rfl
@[go_sem] theorem tfs_59 : tfs 59 = [(0, 4), (4, 1)] := rfl
@[go_sem] theorem tfs_60 : tfs 60 = [(0, 2), (2, 7), (9, 5)] := rfl
@[go_sem] theorem tfs_61 : tfs 61 = [(0, 2), (2, 7), (9, 5)] := rfl
@[go_sem] theorem tfs_80 : tfs 80 = [(0, 1), (1, 1), (2, 1)] := rfl
@[go_sem] theorem tfs_81 : tfs 81 = [(0, 1), (1, 1), (2, 1)] := rfl
@[go_sem] theorem tfs_90 : tfs 90 = [(0, 1), (1, 1), (2, 1), (3, 1), (4, 1)] := rfl
@[go_sem] theorem tfs_91 : tfs 91 = [(0, 1), (1, 1), (2, 1), (3, 1), (4, 1)] := rfl
@[go_sem] theorem tfs_93 : tfs 93 = [(0, 1), (1, 1)] := rfl
@[go_sem] theorem tfs_94 : tfs 94 = [(0, 1), (1, 1)] := rfl
@[go_sem] theorem tfs_95 : tfs 95 = [(0, 1), (1, 1)] := rfl
@[go_sem] theorem tfs_96 : tfs 96 = [(0, 1), (1, 1)] := rfl
@[go_sem] theorem tfs_113 : tfs 113 = [(0, 1), (1, 1), (2, 1)] := rfl
@[go_sem] theorem tfs_114 : tfs 114 = [(0, 1), (1, 1), (2, 1)] := rfl
@[go_sem] theorem tfs_115 : tfs 115 = [(0, 1), (1, 1)] := rfl
@[go_sem] theorem tfs_116 : tfs 116 = [(0, 1), (1, 1)] := rfl
@[go_sem] theorem tfs_119 : tfs 119 = [(0, 1), (1, 1), (2, 1)] := rfl
@[go_sem] theorem tfs_120 : tfs 120 = [(0, 1), (1, 1), (2, 1)] := rfl
@[go_sem] theorem tfs_127 : tfs 127 = [(0, 1), (1, 1)] := rfl
@[go_sem] theorem tfs_128 : tfs 128 = [(0, 1), (1, 1)] := rfl
@[go_sem] theorem tfs_129 : tfs 129 = [(0, 1), (1, 1), (2, 1), (3, 1), (4, 2)] := rfl
@[go_sem] theorem tfs_130 : tfs 130 = [(0, 1), (1, 1), (2, 1), (3, 1), (4, 2)] := rfl
@[go_sem] theorem tfs_134 : tfs 134 = [(0, 1), (1, 1)] := rfl
@[go_sem] theorem tfs_135 : tfs 135 = [(0, 1), (1, 1)] := rfl
@[go_sem] theorem tfs_139 : tfs 139 = [(0, 1), (1, 1)] := rfl
@[go_sem] theorem tfs_140 : tfs 140 = [(0, 1), (1, 1)] := rfl
@[go_sem] theorem tfs_141 : tfs 141 = [(0, 1), (1, 1), (2, 1), (3, 1), (4, 2)] := rfl
@[go_sem] theorem tfs_142 : tfs 142 = [(0, 1), (1, 1), (2, 1), (3, 1), (4, 2)] := rfl
@[go_sem] theorem tfs_165 : tfs 165 = [(0, 1), (1, 1), (2, 1)] := rfl
@[go_sem] theorem tfs_166 : tfs 166 = [(0, 1), (1, 1), (2, 1)] := rfl
@[go_sem] theorem tfs_172 : tfs 172 = [(0, 1), (1, 1), (2, 1), (3, 1), (4, 1)] := rfl
@[go_sem] theorem tfs_180 : tfs 180 = [(0, 1), (1, 1), (2, 1)] := rfl
@[go_sem] theorem tfs_181 : tfs 181 = [(0, 1), (1, 1), (2, 1)] := rfl
@[go_sem] theorem tfs_183 : tfs 183 = [(0, 1), (1, 1), (2, 1)] := rfl
@[go_sem] theorem tfs_205 : tfs 205 = [(0, 1), (1, 1), (2, 1)] := rfl
@[go_sem] theorem tfs_206 : tfs 206 = [(0, 1), (1, 1), (2, 1)] := rfl
@[go_sem] theorem tfs_209 : tfs 209 = [(0, 1), (1, 1)] := rfl
@[go_sem] theorem tfs_223 : tfs 223 = [(0, 1), (1, 1), (2, 1), (3, 1), (4, 1), (5, 1)] := rfl
@[go_sem] theorem tfs_224 : tfs 224 = [(0, 1), (1, 1), (2, 1), (3, 1), (4, 1), (5, 1)] := rfl
@[go_sem] theorem tfs_228 : tfs 228 = [(0, 1), (1, 1), (2, 1), (3, 1), (4, 1), (5, 1)] := rfl
@[go_sem] theorem tfs_229 : tfs 229 = [(0, 1), (1, 1), (2, 1), (3, 1), (4, 1), (5, 1)] := rfl
@[go_sem] theorem tfs_241 : tfs 241 = [(0, 1), (1, 1)] := rfl
@[go_sem] theorem tfs_250 : tfs 250 = [(0, 1), (1, 1)] := rfl
@[go_sem] theorem tfs_251 : tfs 251 = [(0, 1), (1, 1)] := rfl
@[go_sem] theorem tfs_253 : tfs 253 = [(0, 1), (1, 1)] := rfl
@[go_sem] theorem tfs_254 : tfs 254 = [(0, 1), (1, 1)] := rfl
@[go_sem] theorem tfs_255 : tfs 255 = [(0, 1), (1, 1)] := rfl
@[go_sem] theorem tfs_257 : tfs 257 = [(0, 1), (1, 1)] := rfl
@[go_sem] theorem tik_2 : tik 2 = some .i64 := rfl
@[go_sem] theorem tik_3 : tik 3 = some .i64 := rfl
@[go_sem] theorem tik_4 : tik 4 = none := rfl
@[go_sem] theorem tik_5 : tik 5 = some .u8 := rfl
@[go_sem] theorem tik_6 : tik 6 = some .u8 := rfl
@[go_sem] theorem tik_7 : tik 7 = none := rfl
@[go_sem] theorem tik_8 : tik 8 = none := rfl
@[go_sem] theorem tik_9 : tik 9 = none := rfl
@[go_sem] theorem tik_10 : tik 10 = none := rfl
@[go_sem] theorem tik_11 : tik 11 = none := rfl
@[go_sem] theorem tik_12 : tik 12 = some .u64 := rfl
@[go_sem] theorem tik_13 : tik 13 = none := rfl
@[go_sem] theorem tik_14 : tik 14 = none := rfl
@[go_sem] theorem tik_21 : tik 21 = some .i32 := rfl
@[go_sem] theorem tik_22 : tik 22 = none := rfl
@[go_sem] theorem tik_23 : tik 23 = none := rfl
@[go_sem] theorem tik_24 : tik 24 = none := rfl
@[go_sem] theorem tik_25 : tik 25 = none := rfl
@[go_sem] theorem tik_26 : tik 26 = none := rfl
@[go_sem] theorem tik_27 : tik 27 = none := rfl
@[go_sem] theorem tik_28 : tik 28 = none := rfl
@[go_sem] theorem tik_29 : tik 29 = none := rfl
@[go_sem] theorem tik_30 : tik 30 = none := rfl
@[go_sem] theorem tik_31 : tik 31 = none := rfl
@[go_sem] theorem tik_32 : tik 32 = none := rfl
@[go_sem] theorem tik_33 : tik 33 = none := rfl
@[go_sem] theorem tik_34 : tik 34 = none := rfl
@[go_sem] theorem tik_35 : tik 35 = none := rfl
@[go_sem] theorem tik_36 : tik 36 = none := rfl
@[go_sem] theorem tik_37 : tik 37 = none := rfl
@[go_sem] theorem tik_38 : tik 38 = none := rfl
@[go_sem] theorem tik_39 : tik 39 = none := rfl
@[go_sem] theorem tik_40 : tik 40 = none := rfl
@[go_sem] theorem tik_43 : tik 43 = none := rfl
@[go_sem] theorem tik_44 : tik 44 = none := rfl
@[go_sem] theorem tik_45 : tik 45 = none := rfl
@[go_sem] theorem tik_46 : tik 46 = none := rfl
@[go_sem] theorem tik_47 : tik 47 = none := rfl
@[go_sem] theorem tik_48 : tik 48 = none := rfl
@[go_sem] theorem tik_49 : tik 49 = none := rfl
@[go_sem] theorem tik_50 : tik 50 = none := rfl
@[go_sem] theorem tik_51 : tik 51 = none := rfl
@[go_sem] theorem tik_52 : tik 52 = none := rfl
@[go_sem] theorem tik_53 : tik 53 = none := rfl
@[go_sem] theorem tik_54 : tik 54 = none := rfl
@[go_sem] theorem tik_55 : tik 55 = none := rfl
@[go_sem] theorem tik_56 : tik 56 = none := rfl
@[go_sem] theorem tik_57 : tik 57 = none := rfl
@[go_sem] theorem tik_58 : tik 58 = none := rfl
@[go_sem] theorem tik_59 : tik 59 = none := rfl
@[go_sem] theorem tik_60 : tik 60 = none := rfl
@[go_sem] theorem tik_61 : tik 61 = none := rfl
@[go_sem] theorem tik_69 : tik 69 = none := rfl
@[go_sem] theorem tik_77 : tik 77 = none := rfl
@[go_sem] theorem tik_80 : tik 80 = none := rfl
@[go_sem] theorem tik_81 : tik 81 = none := rfl
@[go_sem] theorem tik_90 : tik 90 = none := rfl
@[go_sem] theorem tik_91 : tik 91 = none := rfl
@[go_sem] theorem tik_92 : tik 92 = none := rfl
@[go_sem] theorem tik_93 : tik 93 = none := rfl
@[go_sem] theorem tik_94 : tik 94 = none := rfl
@[go_sem] theorem tik_95 : tik 95 = none := rfl
@[go_sem] theorem tik_96 : tik 96 = none := rfl
@[go_sem] theorem tik_102 : tik 102 = none := rfl
@[go_sem] theorem tik_112 : tik 112 = none := rfl
@[go_sem] theorem tik_113 : tik 113 = none := rfl
@[go_sem] theorem tik_114 : tik 114 = none := rfl
@[go_sem] theorem tik_115 : tik 115 = none := rfl
@[go_sem] theorem tik_116 : tik 116 = none := rfl
@[go_sem] theorem tik_117 : tik 117 = some .u64 := rfl
@[go_sem] theorem tik_119 : tik 119 = none := rfl
@[go_sem] theorem tik_120 : tik 120 = none := rfl
@[go_sem] theorem tik_126 : tik 126 = none := rfl
@[go_sem] theorem tik_127 : tik 127 = none := rfl
@[go_sem] theorem tik_128 : tik 128 = none := rfl
@[go_sem] theorem tik_129 : tik 129 = none := rfl
@[go_sem] theorem tik_130 : tik 130 = none := rfl
@[go_sem] theorem tik_133 : tik 133 = none := rfl
@[go_sem] theorem tik_134 : tik 134 = none := rfl
@[go_sem] theorem tik_135 : tik 135 = none := rfl
@[go_sem] theorem tik_138 : tik 138 = none := rfl
@[go_sem] theorem tik_139 : tik 139 = none := rfl
@[go_sem] theorem tik_140 : tik 140 = none := rfl
@[go_sem] theorem tik_141 : tik 141 = none := rfl
@[go_sem] theorem tik_142 : tik 142 = none := rfl
@[go_sem] theorem tik_165 : tik 165 = none := rfl
@[go_sem] theorem tik_166 : tik 166 = none := rfl
@[go_sem] theorem tik_172 : tik 172 = none := rfl
@[go_sem] theorem tik_180 : tik 180 = none := rfl
@[go_sem] theorem tik_181 : tik 181 = none := rfl
@[go_sem] theorem tik_183 : tik 183 = none := rfl
@[go_sem] theorem tik_185 : tik 185 = some .i64 := rfl
@[go_sem] theorem tik_194 : tik 194 = some .u32 := rfl
@[go_sem] theorem tik_196 : tik 196 = some .u64 := rfl
@[go_sem] theorem tik_204 : tik 204 = none := rfl
@[go_sem] theorem tik_205 : tik 205 = none := rfl
@[go_sem] theorem tik_206 : tik 206 = none := rfl
@[go_sem] theorem tik_209 : tik 209 = none := rfl
@[go_sem] theorem tik_211 : tik 211 = some .u64 := rfl
@[go_sem] theorem tik_221 : tik 221 = none := rfl
@[go_sem] theorem tik_222 : tik 222 = none := rfl
@[go_sem] theorem tik_223 : tik 223 = none := rfl
@[go_sem] theorem tik_224 : tik 224 = none := rfl
@[go_sem] theorem tik_226 : tik 226 = none := rfl
@[go_sem] theorem tik_227 : tik 227 = none := rfl
@[go_sem] theorem tik_228 : tik 228 = none := rfl
@[go_sem] theorem tik_229 : tik 229 = none := rfl
@[go_sem] theorem tik_241 : tik 241 = none := rfl
@[go_sem] theorem tik_250 : tik 250 = none := rfl
@[go_sem] theorem tik_251 : tik 251 = none := rfl
@[go_sem] theorem tik_253 : tik 253 = none := rfl
@[go_sem] theorem tik_254 : tik 254 = none := rfl
@[go_sem] theorem tik_255 : tik 255 = none := rfl
@[go_sem] theorem tik_257 : tik 257 = none := rfl
@[go_sem] theorem tik_266 : tik 266 = some .u8 := rfl
@[go_sem] theorem tik_267 : tik 267 = some .u8 := rfl
@[go_sem] theorem tik_270 : tik 270 = some .i32 := rfl
@[go_sem] theorem tik_271 : tik 271 = some .i32 := rfl
@[go_sem] theorem tst_2 : tst 2 = false := rfl
@[go_sem] theorem tst_3 : tst 3 = false := rfl
@[go_sem] theorem tst_4 : tst 4 = false := rfl
@[go_sem] theorem tst_5 : tst 5 = false := rfl
@[go_sem] theorem tst_6 : tst 6 = false := rfl
@[go_sem] theorem tst_7 : tst 7 = false := rfl
@[go_sem] theorem tst_8 : tst 8 = false := rfl
@[go_sem] theorem tst_9 : tst 9 = true := rfl
@[go_sem] theorem tst_10 : tst 10 = true := rfl
@[go_sem] theorem tst_11 : tst 11 = true := rfl
@[go_sem] theorem tst_12 : tst 12 = false := rfl
@[go_sem] theorem tst_13 : tst 13 = false := rfl
@[go_sem] theorem tst_14 : tst 14 = false := rfl
@[go_sem] theorem tst_21 : tst 21 = false := rfl
@[go_sem] theorem tst_22 : tst 22 = false := rfl
@[go_sem] theorem tst_23 : tst 23 = false := rfl
@[go_sem] theorem tst_24 : tst 24 = false := rfl
@[go_sem] theorem tst_25 : tst 25 = false := rfl
@[go_sem] theorem tst_26 : tst 26 = false := rfl
@[go_sem] theorem tst_27 : tst 27 = false := rfl
@[go_sem] theorem tst_28 : tst 28 = false := rfl
@[go_sem] theorem tst_29 : tst 29 = false := rfl
@[go_sem] theorem tst_30 : tst 30 = false := rfl
@[go_sem] theorem tst_31 : tst 31 = false := rfl
@[go_sem] theorem tst_32 : tst 32 = false := rfl
@[go_sem] theorem tst_33 : tst 33 = false := rfl
@[go_sem] theorem tst_34 : tst 34 = false := rfl
@[go_sem] theorem tst_35 : tst 35 = false := rfl
@[go_sem] theorem tst_36 : tst 36 = false := rfl
@[go_sem] theorem tst_37 : tst 37 = false := rfl
@[go_sem] theorem tst_38 : tst 38 = false := rfl
@[go_sem] theorem tst_39 : tst 39 = false := rfl
@[go_sem] theorem tst_40 : tst 40 = false := rfl
@[go_sem] theorem tst_43 : tst 43 = false := rfl
@[go_sem] theorem tst_44 : tst 44 = false := rfl
@[go_sem] theorem tst_45 : tst 45 = false := rfl
@[go_sem] theorem tst_46 : tst 46 = false := rfl
@[go_sem] theorem tst_47 : tst 47 = false := rfl
@[go_sem] theorem tst_48 : tst 48 = false := rfl
@[go_sem] theorem tst_49 : tst 49 = false := rfl
@[go_sem] theorem tst_50 : tst 50 = false := rfl
@[go_sem] theorem tst_51 : tst 51 = false := rfl
@[go_sem] theorem tst_52 : tst 52 = false := rfl
@[go_sem] theorem tst_53 : tst 53 = false := rfl
@[go_sem] theorem tst_54 : tst 54 = false := rfl
@[go_sem] theorem tst_55 : tst 55 = false := rfl
@[go_sem] theorem tst_56 : tst 56 = false := rfl
@[go_sem] theorem tst_57 : tst 57 = false := rfl
@[go_sem] theorem tst_58 : tst 58 = false := rfl
@[go_sem] theorem tst_59 : tst 59 = false := rfl
@[go_sem] theorem tst_60 : tst 60 = false := rfl
@[go_sem] theorem tst_61 : tst 61 = false := rfl
@[go_sem] theorem tst_69 : tst 69 = false := rfl
@[go_sem] theorem tst_77 : tst 77 = false := rfl
@[go_sem] theorem tst_80 : tst 80 = false := rfl
@[go_sem] theorem tst_81 : tst 81 = false := rfl
@[go_sem] theorem tst_90 : tst 90 = false := rfl
@[go_sem] theorem tst_91 : tst 91 = false := rfl
@[go_sem] theorem tst_92 : tst 92 = false := rfl
@[go_sem] theorem tst_93 : tst 93 = false := rfl
@[go_sem] theorem tst_94 : tst 94 = false := rfl
@[go_sem] theorem tst_95 : tst 95 = false := rfl
@[go_sem] theorem tst_96 : tst 96 = false := rfl
@[go_sem] theorem tst_102 : tst 102 = false := rfl
@[go_sem] theorem tst_112 : tst 112 = false := rfl
@[go_sem] theorem tst_113 : tst 113 = false := rfl
@[go_sem] theorem tst_114 : tst 114 = false := rfl
@[go_sem] theorem tst_115 : tst 115 = false := rfl
@[go_sem] theorem tst_116 : tst 116 = false := rfl
@[go_sem] theorem tst_117 : tst 117 = false := rfl
@[go_sem] theorem tst_119 : tst 119 = false := rfl
@[go_sem] theorem tst_120 : tst 120 = false := rfl
@[go_sem] theorem tst_126 : tst 126 = false := rfl
@[go_sem] theorem tst_127 : tst 127 = false := rfl
@[go_sem] theorem tst_128 : tst 128 = false := rfl
@[go_sem] theorem tst_129 : tst 129 = false := rfl
@[go_sem] theorem tst_130 : tst 130 = false := rfl
@[go_sem] theorem tst_133 : tst 133 = false := rfl
@[go_sem] theorem tst_134 : tst 134 = false := rfl
@[go_sem] theorem tst_135 : tst 135 = false := rfl
@[go_sem] theorem tst_138 : tst 138 = false := rfl
@[go_sem] theorem tst_139 : tst 139 = false := rfl
@[go_sem] theorem tst_140 : tst 140 = false := rfl
@[go_sem] theorem tst_141 : tst 141 = false := rfl
@[go_sem] theorem tst_142 : tst 142 = false := rfl
@[go_sem] theorem tst_165 : tst 165 = false := rfl
@[go_sem] theorem tst_166 : tst 166 = false := rfl
@[go_sem] theorem tst_172 : tst 172 = false := rfl
@[go_sem] theorem tst_180 : tst 180 = false := rfl
@[go_sem] theorem tst_181 : tst 181 = false := rfl
@[go_sem] theorem tst_183 : tst 183 = false := rfl
@[go_sem] theorem tst_185 : tst 185 = false := rfl
@[go_sem] theorem tst_194 : tst 194 = false := rfl
@[go_sem] theorem tst_196 : tst 196 = false := rfl
@[go_sem] theorem tst_204 : tst 204 = false := rfl
@[go_sem] theorem tst_205 : tst 205 = false := rfl
@[go_sem] theorem tst_206 : tst 206 = false := rfl
@[go_sem] theorem tst_209 : tst 209 = false := rfl
@[go_sem] theorem tst_211 : tst 211 = false := rfl
@[go_sem] theorem tst_221 : tst 221 = false := rfl
@[go_sem] theorem tst_222 : tst 222 = false := rfl
@[go_sem] theorem tst_223 : tst 223 = false := rfl
@[go_sem] theorem tst_224 : tst 224 = false := rfl
@[go_sem] theorem tst_226 : tst 226 = false := rfl
@[go_sem] theorem tst_227 : tst 227 = false := rfl
@[go_sem] theorem tst_228 : tst 228 = false := rfl
@[go_sem] theorem tst_229 : tst 229 = false := rfl
@[go_sem] theorem tst_241 : tst 241 = false := rfl
@[go_sem] theorem tst_250 : tst 250 = false := rfl
@[go_sem] theorem tst_251 : tst 251 = false := rfl
@[go_sem] theorem tst_253 : tst 253 = false := rfl
@[go_sem] theorem tst_254 : tst 254 = false := rfl
@[go_sem] theorem tst_255 : tst 255 = false := rfl
@[go_sem] theorem tst_257 : tst 257 = false := rfl
@[go_sem] theorem tst_266 : tst 266 = false := rfl
@[go_sem] theorem tst_267 : tst 267 = false := rfl
@[go_sem] theorem tst_270 : tst 270 = false := rfl
@[go_sem] theorem tst_271 : tst 271 = false := rfl
@[go_sem] theorem tbo_2 : tbo 2 = false := rfl
@[go_sem] theorem tbo_3 : tbo 3 = false := rfl
@[go_sem] theorem tbo_4 : tbo 4 = true := rfl
@[go_sem] theorem tbo_5 : tbo 5 = false := rfl
@[go_sem] theorem tbo_6 : tbo 6 = false := rfl
@[go_sem] theorem tbo_7 : tbo 7 = false := rfl
@[go_sem] theorem tbo_8 : tbo 8 = false := rfl
@[go_sem] theorem tbo_9 : tbo 9 = false := rfl
@[go_sem] theorem tbo_10 : tbo 10 = false := rfl
@[go_sem] theorem tbo_11 : tbo 11 = false := rfl
@[go_sem] theorem tbo_12 : tbo 12 = false := rfl
@[go_sem] theorem tbo_13 : tbo 13 = false := rfl
@[go_sem] theorem tbo_14 : tbo 14 = false := rfl
@[go_sem] theorem tbo_21 : tbo 21 = false := rfl
@[go_sem] theorem tbo_22 : tbo 22 = false := rfl
@[go_sem] theorem tbo_23 : tbo 23 = false := rfl
@[go_sem] theorem tbo_24 : tbo 24 = false := rfl
@[go_sem] theorem tbo_25 : tbo 25 = false := rfl
@[go_sem] theorem tbo_26 : tbo 26 = false := rfl
@[go_sem] theorem tbo_27 : tbo 27 = false := rfl
@[go_sem] theorem tbo_28 : tbo 28 = false := rfl
@[go_sem] theorem tbo_29 : tbo 29 = false := rfl
@[go_sem] theorem tbo_30 : tbo 30 = false := rfl
@[go_sem] theorem tbo_31 : tbo 31 = false := rfl
@[go_sem] theorem tbo_32 : tbo 32 = false := rfl
@[go_sem] theorem tbo_33 : tbo 33 = false := rfl
@[go_sem] theorem tbo_34 : tbo 34 = false := rfl
@[go_sem] theorem tbo_35 : tbo 35 = false := rfl
@[go_sem] theorem tbo_36 : tbo 36 = false := rfl
@[go_sem] theorem tbo_37 : tbo 37 = false := rfl
@[go_sem] theorem tbo_38 : tbo 38 = false := rfl
@[go_sem] theorem tbo_39 : tbo 39 = false := rfl
@[go_sem] theorem tbo_40 : tbo 40 = false := rfl
@[go_sem] theorem tbo_43 : tbo 43 = false := rfl
@[go_sem] theorem tbo_44 : tbo 44 = false := rfl
@[go_sem] theorem tbo_45 : tbo 45 = false := rfl
@[go_sem] theorem tbo_46 : tbo 46 = false := rfl
@[go_sem] theorem tbo_47 : tbo 47 = false := rfl
@[go_sem] theorem tbo_48 : tbo 48 = false := rfl
@[go_sem] theorem tbo_49 : tbo 49 = false := rfl
@[go_sem] theorem tbo_50 : tbo 50 = false := rfl
@[go_sem] theorem tbo_51 : tbo 51 = false := rfl
@[go_sem] theorem tbo_52 : tbo 52 = false := rfl
@[go_sem] theorem tbo_53 : tbo 53 = false := rfl
@[go_sem] theorem tbo_54 : tbo 54 = false := rfl
@[go_sem] theorem tbo_55 : tbo 55 = false := rfl
@[go_sem] theorem tbo_56 : tbo 56 = false := rfl
@[go_sem] theorem tbo_57 : tbo 57 = false := rfl
@[go_sem] theorem tbo_58 : tbo 58 = false := rfl
@[go_sem] theorem tbo_59 : tbo 59 = false := rfl
@[go_sem] theorem tbo_60 : tbo 60 = false := rfl
@[go_sem] theorem tbo_61 : tbo 61 = false := rfl
@[go_sem] theorem tbo_69 : tbo 69 = false := rfl
@[go_sem] theorem tbo_77 : tbo 77 = false := rfl
@[go_sem] theorem tbo_80 : tbo 80 = false := rfl
@[go_sem] theorem tbo_81 : tbo 81 = false := rfl
@[go_sem] theorem tbo_90 : tbo 90 = false := rfl
@[go_sem] theorem tbo_91 : tbo 91 = false := rfl
@[go_sem] theorem tbo_92 : tbo 92 = false := rfl
@[go_sem] theorem tbo_93 : tbo 93 = false := rfl
@[go_sem] theorem tbo_94 : tbo 94 = false := rfl
@[go_sem] theorem tbo_95 : tbo 95 = false := rfl
@[go_sem] theorem tbo_96 : tbo 96 = false := rfl
@[go_sem] theorem tbo_102 : tbo 102 = false := rfl
@[go_sem] theorem tbo_112 : tbo 112 = false := rfl
@[go_sem] theorem tbo_113 : tbo 113 = false := rfl
@[go_sem] theorem tbo_114 : tbo 114 = false := rfl
@[go_sem] theorem tbo_115 : tbo 115 = false := rfl
@[go_sem] theorem tbo_116 : tbo 116 = false := rfl
@[go_sem] theorem tbo_117 : tbo 117 = false := rfl
@[go_sem] theorem tbo_119 : tbo 119 = false := rfl
@[go_sem] theorem tbo_120 : tbo 120 = false := rfl
@[go_sem] theorem tbo_126 : tbo 126 = false := rfl
@[go_sem] theorem tbo_127 : tbo 127 = false := rfl
@[go_sem] theorem tbo_128 : tbo 128 = false := rfl
@[go_sem] theorem tbo_129 : tbo 129 = false := rfl
@[go_sem] theorem tbo_130 : tbo 130 = false := rfl
@[go_sem] theorem tbo_133 : tbo 133 = false := rfl
@[go_sem] theorem tbo_134 : tbo 134 = false := rfl
@[go_sem] theorem tbo_135 : tbo 135 = false := rfl
@[go_sem] theorem tbo_138 : tbo 138 = false := rfl
@[go_sem] theorem tbo_139 : tbo 139 = false := rfl
@[go_sem] theorem tbo_140 : tbo 140 = false := rfl
@[go_sem] theorem tbo_141 : tbo 141 = false := rfl
@[go_sem] theorem tbo_142 : tbo 142 = false := rfl
@[go_sem] theorem tbo_165 : tbo 165 = false := rfl
@[go_sem] theorem tbo_166 : tbo 166 = false := rfl
@[go_sem] theorem tbo_172 : tbo 172 = false := rfl
@[go_sem] theorem tbo_180 : tbo 180 = false := rfl
@[go_sem] theorem tbo_181 : tbo 181 = false := rfl
@[go_sem] theorem tbo_183 : tbo 183 = false := rfl
@[go_sem] theorem tbo_185 : tbo 185 = false := rfl
@[go_sem] theorem tbo_194 : tbo 194 = false := rfl
@[go_sem] theorem tbo_196 : tbo 196 = false := rfl
@[go_sem] theorem tbo_204 : tbo 204 = false := rfl
@[go_sem] theorem tbo_205 : tbo 205 = false := rfl
@[go_sem] theorem tbo_206 : tbo 206 = false := rfl
@[go_sem] theorem tbo_209 : tbo 209 = false := rfl
@[go_sem] theorem tbo_211 : tbo 211 = false := rfl
@[go_sem] theorem tbo_221 : tbo 221 = false := rfl
@[go_sem] theorem tbo_222 : tbo 222 = false := rfl
@[go_sem] theorem tbo_223 : tbo 223 = false := rfl
@[go_sem] theorem tbo_224 : tbo 224 = false := rfl
@[go_sem] theorem tbo_226 : tbo 226 = false := rfl
@[go_sem] theorem tbo_227 : tbo 227 = false := rfl
@[go_sem] theorem tbo_228 : tbo 228 = false := rfl
@[go_sem] theorem tbo_229 : tbo 229 = false := rfl
@[go_sem] theorem tbo_241 : tbo 241 = false := rfl
@[go_sem] theorem tbo_250 : tbo 250 = false := rfl
@[go_sem] theorem tbo_251 : tbo 251 = false := rfl
@[go_sem] theorem tbo_253 : tbo 253 = false := rfl
@[go_sem] theorem tbo_254 : tbo 254 = false := rfl
@[go_sem] theorem tbo_255 : tbo 255 = false := rfl
@[go_sem] theorem tbo_257 : tbo 257 = false := rfl
@[go_sem] theorem tbo_266 : tbo 266 = false := rfl
@[go_sem] theorem tbo_267 : tbo 267 = false := rfl
@[go_sem] theorem tbo_270 : tbo 270 = false := rfl
@[go_sem] theorem tbo_271 : tbo 271 = false := rfl
@[go_sem] theorem dead_10_3 : dead 10 3 = [0, 2, 5, 6, 7, 8, 9, 10, 11, 12, 13, 14, 15, 16, 17, 18, 19, 20, 21, 22, 23, 24, 25, 26, 27, 28, 29, 30, 31, 32, 33, 34, 35, 36, 37, 38, 39, 40, 41, 42, 43, 44, 45, 46] := rfl
@[go_sem] theorem dead_11_2 : dead 11 2 = [0, 2, 3, 4, 5, 6, 7, 8, 12, 13, 14, 15, 16, 17, 18, 19, 20, 21, 22, 23, 24] := rfl
@[go_sem] theorem dead_15_3 : dead 15 3 = [0, 2, 5, 6, 7, 8, 9, 10, 11, 12, 13, 14, 15, 16, 17, 18, 19, 20, 21, 22, 23, 24, 25, 26, 27, 28, 29, 30, 31, 32, 33, 34, 35, 36, 37, 38, 39, 40, 41, 42, 43, 44, 45, 46, 47, 48, 49, 50, 51, 52, 53, 54, 55, 56, 57, 58, 59, 60, 61] := rfl
@[go_sem] theorem dead_15_7 : dead 15 7 = [0, 2, 4, 6, 7, 8, 9, 10, 11, 12, 13, 14, 15, 16, 17, 18, 19, 20, 21, 22, 23, 24, 25, 26, 27, 28, 29, 30, 31, 32, 33, 34, 35, 36, 37, 38, 39, 40, 41, 42, 43, 44, 45, 46, 47, 48, 49, 50, 51, 52, 53, 54, 55, 56, 57, 58, 59, 60, 61] := rfl
@[go_sem] theorem dead_15_10 : dead 15 10 = [0, 2, 4, 7, 8, 9, 10, 11, 12, 13, 14, 15, 16, 17, 18, 19, 20, 21, 22, 23, 24, 25, 26, 27, 28, 29, 30, 31, 32, 33, 34, 35, 36, 37, 38, 39, 40, 41, 42, 43, 44, 45, 46, 47, 48, 49, 50, 51, 52, 53, 54, 55, 56, 57, 58, 59, 60, 61] := rfl
@[go_sem] theorem dead_24_6 : dead 24 6 = [1, 3, 7, 9, 10, 11, 12, 13, 14, 15, 16, 17, 18, 19, 20, 21, 22, 23, 24, 25, 26, 27, 28, 29, 30, 31, 32, 33, 35, 36, 37, 38, 39, 40, 41, 42, 43, 44, 45, 46, 47, 48, 49, 50, 51, 52, 53, 54, 55, 56, 57, 58, 59, 60, 61, 62, 63, 64, 65, 66, 67, 68, 69, 70, 71] := rfl
@[go_sem] theorem dead_26_5 : dead 26 5 = [2, 3, 4, 6, 7, 8, 9, 10, 11, 12, 13, 14, 15, 16, 17, 18, 19, 20, 21, 22, 23, 24, 25, 26] := rfl
@[go_sem] theorem dead_28_5 : dead 28 5 = [2, 3, 4, 6, 7, 8, 9, 10, 11, 12, 13, 14, 15, 16, 17, 18, 19, 20, 21, 22, 23, 24, 25, 26] := rfl
@[go_sem] theorem dead_31_3 : dead 31 3 = [1, 2, 5, 6, 7, 8, 9, 10, 11, 12, 13, 14, 15, 16, 17, 18, 19, 20, 21, 22] := rfl
@[go_sem] theorem dead_33_3 : dead 33 3 = [1, 2, 5, 6, 7, 8, 9, 10, 11, 12, 13, 14, 15, 16, 17, 18, 19, 20, 21, 22] := rfl
@[go_sem] theorem dead_35_3 : dead 35 3 = [1, 2, 4, 5, 6, 7, 8, 12, 13, 14, 15, 16, 17, 18, 19, 20, 21, 22, 23, 24, 25, 26, 27, 28, 29, 30, 31, 32, 33, 34, 35] := rfl
@[go_sem] theorem dead_35_11 : dead 35 11 = [0, 1, 2, 3, 4, 5, 7, 8, 9, 10, 11, 12, 13, 14, 15, 16, 17, 18, 19, 20, 21, 22, 23, 24, 28, 29, 30, 31, 32, 33, 34, 35] := rfl
@[go_sem] theorem dead_36_3 : dead 36 3 = [0, 2, 4, 5, 6, 8, 10, 11, 12, 13, 14, 15, 16, 17, 18, 19, 20, 24, 25, 26, 27, 28, 29, 30, 31, 32, 33, 34, 35, 36, 37, 38, 39, 40, 41, 42, 43, 44, 45, 46, 47, 48, 49, 50, 51, 52, 53, 54, 55, 56, 57, 58, 59, 60, 61, 62, 63, 64, 65, 66, 67, 68] := rfl
@[go_sem] theorem dead_36_8 : dead 36 8 = [0, 2, 4, 6, 7, 8, 9, 10, 11, 12, 13, 14, 15, 16, 17, 18, 19, 20, 21, 22, 23, 24, 25, 26, 27, 28, 29, 30, 31, 32, 33, 34, 35, 36, 37, 38, 39, 40, 44, 45, 46, 47, 48, 49, 50, 51, 52, 53, 54, 55, 56, 57, 58, 59, 60, 61, 62, 63, 64, 65, 66, 67, 68] := rfl
@[go_sem] theorem dead_36_11 : dead 36 11 = [0, 2, 4, 8, 9, 10, 11, 12, 13, 14, 15, 16, 17, 18, 19, 20, 21, 22, 23, 24, 25, 26, 27, 28, 29, 30, 31, 32, 33, 34, 35, 36, 37, 38, 39, 40, 44, 45, 46, 47, 48, 52, 53, 54, 55, 56, 57, 58, 59, 60, 61, 62, 63, 64, 65, 66, 67, 68] := rfl
@[go_sem] theorem dead_38_5 : dead 38 5 = [2, 3, 4, 7, 8, 9, 10, 11, 12, 13, 14, 15, 16, 17, 18, 19, 20, 21, 22, 23, 24, 25, 26, 27, 28, 29, 30, 31, 32, 33, 34, 35, 36, 37, 38, 39, 40, 41] := rfl
@[go_sem] theorem dead_39_4 : dead 39 4 = [1, 2, 4, 5, 6, 7, 8, 9, 10, 11, 12, 13, 14, 15, 16, 17, 18, 19, 20, 21, 22, 23, 24, 25, 26, 27, 28, 29, 30, 31, 32, 33, 34, 35, 36, 37, 38, 39, 40, 41, 42, 43, 44, 45, 46, 47, 48, 49, 50, 51, 52, 53, 54, 55, 56, 57, 58, 59, 60] := rfl
@[go_sem] theorem dead_39_9 : dead 39 9 = [1, 2, 6, 7, 8, 9, 10, 11, 12, 13, 14, 15, 16, 17, 18, 19, 20, 21, 22, 23, 24, 25, 26, 27, 28, 29, 30, 31, 32, 33, 34, 35, 36, 37, 38, 39, 40, 41, 42, 43, 44, 45, 46, 47, 48, 49, 50, 51, 52, 53, 54, 55, 56, 57, 58, 59, 60] := rfl
@[go_sem] theorem dead_41_4 : dead 41 4 = [2, 3, 4, 6, 7, 8, 9, 10, 11, 12, 13, 14, 15, 16, 17, 18, 19, 20, 21, 22, 23, 24, 25, 26] := rfl
@[go_sem] theorem dead_43_4 : dead 43 4 = [2, 3, 4, 6, 7, 8, 9, 10, 11, 12, 13, 14, 15, 16, 17, 18, 19, 20, 21, 22, 23, 24, 25, 26] := rfl
@[go_sem] theorem dead_47_3 : dead 47 3 = [1, 2, 5, 6, 7, 8, 9, 10, 11, 12, 13, 14, 15, 16, 17, 18, 19, 20, 21, 22, 23, 24, 25, 26, 27, 28, 29, 30, 31, 32, 33] := rfl
@[go_sem] theorem dead_47_7 : dead 47 7 = [1, 2, 6, 7, 8, 9, 10, 11, 12, 13, 14, 15, 16, 17, 18, 19, 20, 21, 22, 23, 24, 25, 26, 27, 28, 29, 30, 31, 32, 33] := rfl
@[go_sem] theorem dead_52_5 : dead 52 5 = [2, 3, 4, 6, 7, 8, 9, 10, 11, 12, 13, 14, 15, 16, 17, 18, 19, 20, 21, 22, 23, 24, 25, 26] := rfl
@[go_sem] theorem dead_56_5 : dead 56 5 = [0, 2, 3, 4, 7, 8, 9, 10, 11, 12, 13, 14, 15, 16, 17, 18, 19, 20, 21, 22, 23, 24, 25, 26, 27, 28, 29, 30, 31, 32, 33, 34, 35, 36, 37, 38, 39, 40, 41, 42, 43, 44, 45] := rfl
@[go_sem] theorem dead_58_3 : dead 58 3 = [1, 2, 5, 6, 7, 8, 9, 10, 11, 12, 13, 14, 15, 16, 17, 18, 19, 20, 21, 22] := rfl
@[go_sem] theorem dead_61_3 : dead 61 3 = [1, 2, 5, 6, 7, 8, 9, 10, 11, 12, 13, 14, 15, 16, 17, 18, 19, 20, 21, 22] := rfl
@[go_sem] theorem dead_63_2 : dead 63 2 = [4, 5, 6, 7, 10, 11, 12, 13, 14, 15, 16, 17, 18, 19, 20, 21, 22, 23, 24, 25, 26, 27, 28, 29, 30, 31, 32, 33, 34, 35, 36, 37, 38, 39, 40, 41, 42, 43, 44, 45, 46, 47, 48, 49, 50, 51, 52, 53, 54, 55, 56, 57, 58, 59, 60, 61, 62, 63, 64, 65, 66, 67, 68, 69, 70, 71, 72, 73, 74, 75, 76, 77, 78, 79, 80, 81, 82, 83, 84, 85, 86, 87, 88, 89, 90, 91, 92, 93, 94, 95, 96, 97, 98, 99, 100, 101, 102, 103, 104, 105, 106, 107, 108, 109, 110, 111, 112, 113, 114, 115, 116, 117, 118, 119, 120, 121, 122, 123, 124, 125, 126, 127, 128, 129, 130, 131, 132, 133] := rfl
@[go_sem] theorem dead_65_2 : dead 65 2 = [2, 3, 4, 5, 6, 9, 10, 11, 12, 13, 14, 15, 16, 17, 18] := rfl
@[go_sem] theorem dead_67_4 : dead 67 4 = [2, 3, 4, 6, 7, 8, 9, 10, 11, 12, 13, 14, 15, 16, 17, 18, 19, 20, 21, 22, 23, 24, 25, 26] := rfl
@[go_sem] theorem dead_70_4 : dead 70 4 = [2, 3, 4, 6, 7, 8, 9, 10, 11, 12, 13, 14, 15, 16, 17, 18, 19, 20, 21, 22, 23, 24, 25, 26] := rfl
@[go_sem] theorem dead_71_3 : dead 71 3 = [2, 3, 4, 5, 6, 9, 10, 11, 12, 13, 14, 15, 16, 17, 18, 19, 20, 21, 22, 23, 24, 25, 26, 27, 28, 29, 30, 31, 32, 33, 34, 35, 36, 37, 38, 39, 40, 41, 42, 43, 44, 45, 46, 47, 48, 49, 50, 51, 52, 53, 54, 55, 56, 57, 58, 59, 60, 61, 62, 63] := rfl
@[go_sem] theorem dead_85_5 : dead 85 5 = [2, 3, 4, 6, 7, 8, 9, 10, 11, 12, 13, 14, 15, 16, 17, 18, 19, 20, 21, 22, 23, 24, 25, 26] := rfl
@[go_sem] theorem dead_86_2 : dead 86 2 = [2, 3, 4, 6, 7, 8, 9, 10, 11, 12, 13, 14, 15, 16, 17] := rfl
@[go_sem] theorem dead_89_3 : dead 89 3 = [1, 2, 5, 6, 7, 8, 9, 10, 11, 12, 13, 14, 15, 16, 17, 18, 19, 20, 21, 22] := rfl
@[go_sem] theorem dead_90_3 : dead 90 3 = [1, 2, 5, 6, 7, 8, 9, 10, 11, 12, 13, 14, 15, 16, 17, 18, 19, 20, 21, 22] := rfl
@[go_sem] theorem dead_92_1 : dead 92 1 = [3, 4, 5, 7, 8, 9, 10, 11, 12, 13, 14, 15, 16, 17, 18, 19, 20, 21, 22, 23, 24, 25, 26, 27, 28, 29, 30, 31, 32, 33, 34, 35, 36, 37, 38, 39, 40, 41, 42, 43, 44, 45, 46, 47, 48] := rfl
@[go_sem] theorem dead_92_4 : dead 92 4 = [3, 4, 5, 8, 9, 10, 11, 12, 13, 14, 15, 16, 17, 18, 19, 20, 21, 22, 23, 24, 25, 26, 27, 28, 29, 30, 31, 32, 33, 34, 35, 36, 37, 38, 39, 40, 41, 42, 43, 44, 45, 46, 47, 48] := rfl
@[go_sem] theorem dead_93_4 : dead 93 4 = [1, 2, 3, 4, 5, 10, 11, 12, 13, 14, 15, 16, 17, 18, 19, 20, 21, 22, 23, 24, 25, 26, 27, 28, 29, 30, 31, 32, 33, 34, 35, 36, 37, 38, 39, 40, 41, 42, 43, 44, 45, 46, 47, 48, 49, 50, 51, 52, 53, 54, 55] := rfl
@[go_sem] theorem dead_93_8 : dead 93 8 = [1, 2, 3, 4, 5, 8, 9, 11, 12, 13, 14, 15, 16, 17, 18, 19, 20, 21, 22, 23, 24, 25, 26, 27, 28, 29, 30, 31, 32, 33, 34, 35, 36, 37, 38, 39, 40, 41, 42, 43, 44, 45, 46, 47, 48, 49, 50, 51, 52, 53, 54, 55] := rfl
@[go_sem] theorem dead_94_5 : dead 94 5 = [2, 3, 4, 5, 10, 11, 12, 13, 14, 15, 16, 17, 18, 19, 20, 21, 22, 23, 24, 25, 26, 27, 28, 29, 30, 31, 32, 33, 34, 35, 36, 37, 38, 39, 40, 41, 42, 43, 44, 45, 46, 47, 48, 49, 50, 51, 52, 53, 54, 55, 56, 57, 58, 59, 60, 61, 62, 63, 64] := rfl
@[go_sem] theorem dead_96_2 : dead 96 2 = [1, 2, 3, 4, 5, 8, 9, 10, 11, 12, 13, 14, 15, 16, 17, 18, 19, 20, 21, 22, 23, 24, 25, 26, 27, 28, 29, 30, 31] := rfl
@[go_sem] theorem dead_97_3 : dead 97 3 = [3, 4, 5, 6, 9, 10, 11, 12, 13, 14, 15, 16, 17, 18, 19, 20, 21, 22, 23, 24, 25, 26, 27, 28, 29, 30, 31, 32, 33, 34, 35, 36, 37, 38, 39, 40, 41, 42, 43, 44, 45, 46, 47, 48, 49, 50, 51, 52, 53, 54, 55, 56, 57, 58, 59, 60, 61, 62, 63, 64, 65, 66, 67, 68, 69, 70, 71, 72, 73, 74, 75, 76, 77, 78, 79, 80, 81, 82, 83, 84, 85, 86, 87, 88, 89, 90, 91, 92, 93, 94, 95, 96, 97, 98, 99, 100, 101, 102, 103, 104, 105, 106, 107, 108, 109, 110, 111, 112, 113, 114, 115, 116, 117, 118, 119, 120, 121, 122, 123, 124, 125, 126, 127, 128, 129, 130, 131, 132] := rfl
@[go_sem] theorem dead_97_5 : dead 97 5 = [3, 4, 5, 6, 9, 10, 11, 12, 13, 14, 15, 16, 17, 18, 19, 20, 21, 22, 23, 24, 25, 26, 27, 28, 29, 30, 31, 32, 33, 34, 35, 36, 37, 38, 39, 40, 41, 42, 43, 44, 45, 46, 47, 48, 49, 50, 51, 52, 53, 54, 55, 56, 57, 58, 59, 60, 61, 62, 63, 64, 65, 66, 67, 68, 69, 70, 71, 72, 73, 74, 75, 76, 77, 78, 79, 80, 81, 82, 83, 84, 85, 86, 87, 88, 89, 90, 91, 92, 93, 94, 95, 96, 97, 98, 99, 100, 101, 102, 103, 104, 105, 106, 107, 108, 109, 110, 111, 112, 113, 114, 115, 116, 117, 118, 119, 120, 121, 122, 123, 124, 125, 126, 127, 128, 129, 130, 131, 132] := rfl
@[go_sem] theorem dead_97_14 : dead 97 14 = [3, 4, 5, 6, 10, 11, 12, 13, 14, 15, 16, 17, 18, 19, 20, 21, 22, 23, 24, 25, 26, 27, 28, 29, 30, 31, 32, 33, 34, 35, 36, 37, 38, 39, 40, 41, 42, 43, 44, 45, 46, 47, 48, 49, 50, 51, 52, 53, 54, 55, 56, 57, 58, 59, 60, 61, 62, 63, 64, 65, 66, 67, 68, 69, 70, 71, 72, 73, 74, 75, 76, 77, 78, 79, 80, 81, 82, 83, 84, 85, 86, 87, 88, 89, 90, 91, 92, 93, 94, 95, 96, 97, 98, 99, 100, 101, 102, 103, 104, 105, 106, 107, 108, 109, 110, 111, 112, 113, 114, 115, 116, 117, 118, 119, 120, 121, 122, 123, 124, 125, 126, 127, 128, 129, 130, 131, 132] := rfl
@[go_sem] theorem dead_97_20 : dead 97 20 = [3, 4, 5, 6, 9, 11, 12, 13, 14, 15, 16, 17, 18, 19, 20, 21, 22, 23, 24, 25, 26, 27, 28, 29, 30, 31, 32, 33, 34, 35, 36, 37, 38, 39, 40, 41, 42, 43, 44, 45, 46, 47, 48, 49, 50, 51, 52, 53, 54, 55, 56, 57, 58, 59, 60, 61, 62, 63, 64, 65, 66, 67, 68, 69, 70, 71, 72, 73, 74, 75, 76, 77, 78, 79, 80, 81, 82, 83, 84, 85, 86, 87, 88, 89, 90, 91, 92, 93, 94, 95, 96, 97, 98, 99, 100, 101, 102, 103, 104, 105, 106, 107, 108, 109, 110, 111, 112, 113, 114, 115, 116, 117, 118, 119, 120, 121, 122, 123, 124, 125, 126, 127, 128, 129, 130, 131, 132] := rfl
@[go_sem] theorem dead_99_3 : dead 99 3 = [2, 3, 4, 5, 6, 7, 8, 11, 12, 13, 14, 15, 16, 17, 18, 19, 20, 21, 22, 23, 24, 25, 26, 27, 28, 29, 30, 31, 32, 33, 34, 35, 36, 37, 38, 39, 40, 41, 42, 43, 44, 45, 46, 47, 48, 49, 50, 51, 52, 53, 54, 55, 56, 57, 58, 59, 60, 61, 62, 63, 64, 65, 66, 67, 68, 69, 70, 71, 72, 73, 74, 75, 76, 77, 78, 79, 80, 81, 82, 83] := rfl
@[go_sem] theorem dead_99_5 : dead 99 5 = [2, 3, 4, 5, 6, 7, 8, 11, 12, 13, 14, 15, 16, 17, 18, 19, 20, 21, 22, 23, 24, 25, 26, 27, 28, 29, 30, 31, 32, 33, 34, 35, 36, 37, 38, 39, 40, 41, 42, 43, 44, 45, 46, 47, 48, 49, 50, 51, 52, 53, 54, 55, 56, 57, 58, 59, 60, 61, 62, 63, 64, 65, 66, 67, 68, 69, 70, 71, 72, 73, 74, 75, 76, 77, 78, 79, 80, 81, 82, 83] := rfl
@[go_sem] theorem dead_100_3 : dead 100 3 = [2, 3, 4, 5, 6, 7, 8, 9, 12, 13, 14, 15, 16, 17, 18, 19, 20, 21, 22, 23, 24, 25, 26, 27, 28, 29, 30, 31, 32, 33, 34, 35, 36, 37, 38, 39, 40, 41, 42, 43, 44, 45, 46, 47, 48, 49, 50, 51, 52, 53, 54, 55, 56, 57, 58, 59, 60, 61, 62, 63, 64, 65, 66, 67, 68, 69, 70, 71, 72, 73, 74, 75, 76, 77, 78, 79, 80, 81, 82, 83, 84, 85, 86, 87, 88, 89, 90, 91, 92, 93, 94, 95, 96, 97, 98, 99, 100, 101, 102, 103, 104, 105, 106, 107, 108, 109, 110, 111, 112, 113, 114, 115, 116, 117, 118, 119, 120, 121, 122, 123, 124, 125, 126, 127, 128, 129, 130, 131, 132, 133, 134, 135, 136, 137, 138, 139, 140, 141, 142, 143, 144, 145, 146, 147, 148, 149, 150, 151, 152, 153, 154, 155, 156, 157, 158, 159, 160, 161, 162, 163, 164, 165, 166, 167] := rfl
@[go_sem] theorem dead_100_5 : dead 100 5 = [2, 3, 4, 5, 6, 7, 8, 9, 12, 13, 14, 15, 16, 17, 18, 19, 20, 21, 22, 23, 24, 25, 26, 27, 28, 29, 30, 31, 32, 33, 34, 35, 36, 37, 38, 39, 40, 41, 42, 43, 44, 45, 46, 47, 48, 49, 50, 51, 52, 53, 54, 55, 56, 57, 58, 59, 60, 61, 62, 63, 64, 65, 66, 67, 68, 69, 70, 71, 72, 73, 74, 75, 76, 77, 78, 79, 80, 81, 82, 83, 84, 85, 86, 87, 88, 89, 90, 91, 92, 93, 94, 95, 96, 97, 98, 99, 100, 101, 102, 103, 104, 105, 106, 107, 108, 109, 110, 111, 112, 113, 114, 115, 116, 117, 118, 119, 120, 121, 122, 123, 124, 125, 126, 127, 128, 129, 130, 131, 132, 133, 134, 135, 136, 137, 138, 139, 140, 141, 142, 143, 144, 145, 146, 147, 148, 149, 150, 151, 152, 153, 154, 155, 156, 157, 158, 159, 160, 161, 162, 163, 164, 165, 166, 167] := rfl
@[go_sem] theorem dead_100_13 : dead 100 13 = [2, 3, 4, 5, 6, 7, 8, 9, 12, 13, 14, 15, 16, 17, 18, 19, 20, 21, 22, 23, 24, 25, 26, 27, 28, 29, 30, 31, 32, 33, 34, 35, 36, 37, 38, 39, 40, 41, 42, 43, 44, 45, 46, 47, 48, 49, 50, 51, 52, 53, 54, 55, 56, 57, 58, 59, 60, 61, 62, 63, 64, 65, 66, 67, 68, 69, 70, 71, 72, 73, 74, 75, 76, 77, 78, 79, 80, 81, 82, 83, 84, 85, 86, 87, 88, 89, 90, 91, 92, 93, 94, 95, 96, 97, 98, 99, 100, 101, 102, 103, 104, 105, 106, 107, 108, 109, 110, 111, 112, 113, 114, 115, 116, 117, 118, 119, 120, 121, 122, 123, 124, 125, 126, 127, 128, 129, 130, 131, 132, 133, 134, 135, 136, 137, 138, 139, 140, 141, 142, 143, 144, 145, 146, 147, 148, 149, 150, 151, 152, 153, 154, 155, 156, 157, 158, 159, 160, 161, 162, 163, 164, 165, 166, 167] := rfl
@[go_sem] theorem dead_100_15 : dead 100 15 = [2, 3, 4, 5, 6, 7, 8, 9, 12, 13, 14, 15, 16, 17, 18, 19, 20, 21, 22, 23, 24, 25, 26, 27, 28, 29, 30, 31, 32, 33, 34, 35, 36, 37, 38, 39, 40, 41, 42, 43, 44, 45, 46, 47, 48, 49, 50, 51, 52, 53, 54, 55, 56, 57, 58, 59, 60, 61, 62, 63, 64, 65, 66, 67, 68, 69, 70, 71, 72, 73, 74, 75, 76, 77, 78, 79, 80, 81, 82, 83, 84, 85, 86, 87, 88, 89, 90, 91, 92, 93, 94, 95, 96, 97, 98, 99, 100, 101, 102, 103, 104, 105, 106, 107, 108, 109, 110, 111, 112, 113, 114, 115, 116, 117, 118, 119, 120, 121, 122, 123, 124, 125, 126, 127, 128, 129, 130, 131, 132, 133, 134, 135, 136, 137, 138, 139, 140, 141, 142, 143, 144, 145, 146, 147, 148, 149, 150, 151, 152, 153, 154, 155, 156, 157, 158, 159, 160, 161, 162, 163, 164, 165, 166, 167] := rfl
@[go_sem] theorem dead_105_4 : dead 105 4 = [2, 3, 4, 6, 7, 8, 9, 10, 11, 12, 13, 14, 15, 16, 17, 18, 19, 20, 21, 22, 23, 24, 25, 26] := rfl
@[go_sem] theorem dead_106_4 : dead 106 4 = [2, 3, 4, 6, 7, 8, 9, 10, 11, 12, 13, 14, 15, 16, 17, 18, 19, 20, 21, 22, 23, 24, 25, 26] := rfl
@[go_sem] theorem dead_109_6 : dead 109 6 = [2, 3, 4, 5, 6, 10, 11, 12, 13, 14, 15, 16, 17, 18, 19, 20, 21, 22, 23, 24, 25, 26, 27, 28, 29, 30, 31, 32, 33, 34, 35, 36, 37, 38, 39, 40, 41, 42, 43, 44, 45, 46, 47, 48, 49, 50, 51, 52, 53, 54, 55, 56] := rfl
@[go_sem] theorem dead_111_5 : dead 111 5 = [2, 3, 4, 6, 7, 8, 9, 10, 11, 12, 13, 14, 15, 16, 17, 18, 19, 20, 21, 22, 23, 24, 25, 26] := rfl
@[go_sem] theorem dead_113_3 : dead 113 3 = [1, 2, 5, 6, 7, 8, 9, 10, 11, 12, 13, 14, 15, 16, 17, 18, 19, 20, 21, 22] := rfl
@[go_sem] theorem dead_116_1 : dead 116 1 = [1, 4, 5, 6, 7, 9, 10, 11, 12, 13, 14, 15, 16, 17, 18, 19, 20, 21, 22, 23, 24, 25, 26, 27, 28, 29, 30, 31, 32, 33, 34, 35, 36, 37, 38, 39, 40, 41, 42, 43, 44, 45, 46, 47, 48, 49, 50, 51, 52, 53, 54, 55, 56, 57, 58, 59, 60, 61, 62, 63, 64, 65, 66, 67, 68, 69, 70, 71, 72, 73, 74, 75] := rfl
@[go_sem] theorem dead_122_4 : dead 122 4 = [2, 3, 4, 6, 7, 8, 9, 10, 11, 12, 13, 14, 15, 16, 17, 18, 19, 20, 21, 22, 23, 24, 25, 26] := rfl
@[go_sem] theorem dead_125_3 : dead 125 3 = [0, 1, 2, 4, 5, 6, 10, 11, 12, 13, 14, 15, 16, 17, 18, 19, 20, 21, 22, 23, 24, 25, 26, 27, 28, 29, 30, 31] := rfl
@[go_sem] theorem dead_125_7 : dead 125 7 = [0, 1, 2, 4, 5, 6, 10, 11, 12, 13, 14, 15, 16, 18, 19, 20, 21, 22, 23, 24, 25, 26, 27, 28, 29, 30, 31] := rfl
@[go_sem] theorem dead_127_5 : dead 127 5 = [2, 3, 4, 6, 7, 8, 9, 10, 11, 12, 13, 14, 15, 16, 17, 18, 19, 20, 21, 22, 23, 24, 25, 26] := rfl
@[go_sem] theorem dead_129_3 : dead 129 3 = [1, 2, 5, 6, 7, 8, 9, 10, 11, 12, 13, 14, 15, 16, 17, 18, 19, 20, 21, 22] := rfl
@[go_sem] theorem dead_132_4 : dead 132 4 = [2, 3, 4, 6, 7, 8, 9, 10, 11, 12, 13, 14, 15, 16, 17, 18, 19, 20, 21, 22, 23, 24, 25, 26] := rfl
@[go_sem] theorem dead_134_5 : dead 134 5 = [2, 3, 4, 6, 7, 8, 9, 10, 11, 12, 13, 14, 15, 16, 17, 18, 19, 20, 21, 22, 23, 24, 25, 26] := rfl
@[go_sem] theorem dead_135_5 : dead 135 5 = [2, 3, 4, 6, 7, 8, 9, 10, 11, 12, 13, 14, 15, 16, 17, 18, 19, 20, 21, 22, 23, 24, 25, 26] := rfl
@[go_sem] theorem dead_137_3 : dead 137 3 = [1, 2, 5, 6, 7, 8, 9, 10, 11, 12, 13, 14, 15, 16, 17, 18, 19, 20, 21] := rfl
@[go_sem] theorem dead_138_3 : dead 138 3 = [1, 2, 5, 6, 7, 8, 9, 10, 11, 12, 13, 14, 15, 16, 17, 18, 19, 20, 21, 22] := rfl
@[go_sem] theorem dead_139_3 : dead 139 3 = [1, 2, 5, 6, 7, 8, 9, 10, 11, 12, 13, 14, 15, 16, 17, 18, 19, 20, 21, 22] := rfl
@[go_sem] theorem dead_141_4 : dead 141 4 = [2, 3, 4, 6, 7, 8, 9, 10, 11, 12, 13, 14, 15, 16, 17, 18, 19, 20, 21, 22, 23, 24, 25] := rfl
@[go_sem] theorem dead_142_4 : dead 142 4 = [2, 3, 4, 6, 7, 8, 9, 10, 11, 12, 13, 14, 15, 16, 17, 18, 19, 20, 21, 22, 23, 24, 25, 26] := rfl
@[go_sem] theorem dead_143_4 : dead 143 4 = [2, 3, 4, 6, 7, 8, 9, 10, 11, 12, 13, 14, 15, 16, 17, 18, 19, 20, 21, 22, 23, 24, 25, 26] := rfl
/-- The functions that are told by what they do to the caller's slots. -/
def sos : FuncId → Option (Nat → St → List SV → Option (St × SV))
  | 37 => some (sortIntOrc)
  | 39 => some (compactIntOrc)
  | 62 => some (growOrc 1 8)
  | _ => none
def tys : Tys := ⟨tsl, tsz, tby, tag, tzr, tfo, tfz, tik, tst, tbo, teq, sos, false⟩
@[go_sem] theorem tys_so {t} : tys.so t = sos t := rfl
@[go_sem] theorem sos_3 : sos 3 = none := rfl
@[go_sem] theorem sos_4 : sos 4 = none := rfl
@[go_sem] theorem sos_5 : sos 5 = none := rfl
@[go_sem] theorem sos_6 : sos 6 = none := rfl
@[go_sem] theorem sos_7 : sos 7 = none := rfl
@[go_sem] theorem sos_8 : sos 8 = none := rfl
@[go_sem] theorem sos_9 : sos 9 = none := rfl
@[go_sem] theorem sos_10 : sos 10 = none := rfl
@[go_sem] theorem sos_11 : sos 11 = none := rfl
@[go_sem] theorem sos_12 : sos 12 = none := rfl
@[go_sem] theorem sos_13 : sos 13 = none := rfl
@[go_sem] theorem sos_14 : sos 14 = none := rfl
@[go_sem] theorem sos_15 : sos 15 = none := rfl
@[go_sem] theorem sos_16 : sos 16 = none := rfl
@[go_sem] theorem sos_17 : sos 17 = none := rfl
@[go_sem] theorem sos_18 : sos 18 = none := rfl
@[go_sem] theorem sos_19 : sos 19 = none := rfl
@[go_sem] theorem sos_20 : sos 20 = none := rfl
@[go_sem] theorem sos_21 : sos 21 = none := rfl
@[go_sem] theorem sos_22 : sos 22 = none := rfl
@[go_sem] theorem sos_23 : sos 23 = none := rfl
@[go_sem] theorem sos_24 : sos 24 = none := rfl
@[go_sem] theorem sos_25 : sos 25 = none := rfl
@[go_sem] theorem sos_26 : sos 26 = none := rfl
@[go_sem] theorem sos_27 : sos 27 = none := rfl
@[go_sem] theorem sos_28 : sos 28 = none := rfl
@[go_sem] theorem sos_29 : sos 29 = none := rfl
@[go_sem] theorem sos_30 : sos 30 = none := rfl
@[go_sem] theorem sos_31 : sos 31 = none := rfl
@[go_sem] theorem sos_32 : sos 32 = none := rfl
@[go_sem] theorem sos_33 : sos 33 = none := rfl
@[go_sem] theorem sos_34 : sos 34 = none := rfl
@[go_sem] theorem sos_35 : sos 35 = none := rfl
@[go_sem] theorem sos_36 : sos 36 = none := rfl
@[go_sem] theorem sos_37 : sos 37 = some (sortIntOrc) := rfl
@[go_sem] theorem sos_38 : sos 38 = none := rfl
@[go_sem] theorem sos_39 : sos 39 = some (compactIntOrc) := rfl
@[go_sem] theorem sos_40 : sos 40 = none := rfl
@[go_sem] theorem sos_41 : sos 41 = none := rfl
@[go_sem] theorem sos_42 : sos 42 = none := rfl
@[go_sem] theorem sos_43 : sos 43 = none := rfl
@[go_sem] theorem sos_44 : sos 44 = none := rfl
@[go_sem] theorem sos_45 : sos 45 = none := rfl
@[go_sem] theorem sos_46 : sos 46 = none := rfl
@[go_sem] theorem sos_47 : sos 47 = none := rfl
@[go_sem] theorem sos_48 : sos 48 = none := rfl
@[go_sem] theorem sos_49 : sos 49 = none := rfl
@[go_sem] theorem sos_50 : sos 50 = none := rfl
@[go_sem] theorem sos_51 : sos 51 = none := rfl
@[go_sem] theorem sos_52 : sos 52 = none := rfl
@[go_sem] theorem sos_53 : sos 53 = none := rfl
@[go_sem] theorem sos_54 : sos 54 = none := rfl
@[go_sem] theorem sos_55 : sos 55 = none := rfl
@[go_sem] theorem sos_56 : sos 56 = none := rfl
@[go_sem] theorem sos_57 : sos 57 = none := rfl
@[go_sem] theorem sos_58 : sos 58 = none := rfl
@[go_sem] theorem sos_59 : sos 59 = none := rfl
@[go_sem] theorem sos_60 : sos 60 = none := rfl
@[go_sem] theorem sos_61 : sos 61 = none := rfl
@[go_sem] theorem sos_62 : sos 62 = some (growOrc 1 8) := rfl
@[go_sem] theorem sos_63 : sos 63 = none := rfl
@[go_sem] theorem sos_64 : sos 64 = none := rfl
@[go_sem] theorem sos_65 : sos 65 = none := rfl
@[go_sem] theorem sos_66 : sos 66 = none := rfl
@[go_sem] theorem sos_67 : sos 67 = none := rfl
@[go_sem] theorem sos_68 : sos 68 = none := rfl
@[go_sem] theorem sos_69 : sos 69 = none := rfl
@[go_sem] theorem sos_70 : sos 70 = none := rfl
@[go_sem] theorem sos_71 : sos 71 = none := rfl
@[go_sem] theorem sos_72 : sos 72 = none := rfl
@[go_sem] theorem sos_73 : sos 73 = none := rfl
@[go_sem] theorem sos_74 : sos 74 = none := rfl
@[go_sem] theorem sos_75 : sos 75 = none := rfl
@[go_sem] theorem sos_76 : sos 76 = none := rfl
@[go_sem] theorem sos_77 : sos 77 = none := rfl
@[go_sem] theorem sos_78 : sos 78 = none := rfl
@[go_sem] theorem sos_79 : sos 79 = none := rfl
@[go_sem] theorem sos_80 : sos 80 = none := rfl
@[go_sem] theorem sos_81 : sos 81 = none := rfl
@[go_sem] theorem sos_82 : sos 82 = none := rfl
@[go_sem] theorem sos_83 : sos 83 = none := rfl
@[go_sem] theorem sos_84 : sos 84 = none := rfl
@[go_sem] theorem sos_85 : sos 85 = none := rfl
@[go_sem] theorem sos_86 : sos 86 = none := rfl
@[go_sem] theorem sos_87 : sos 87 = none := rfl
@[go_sem] theorem sos_88 : sos 88 = none := rfl
@[go_sem] theorem sos_89 : sos 89 = none := rfl
@[go_sem] theorem sos_90 : sos 90 = none := rfl
@[go_sem] theorem sos_91 : sos 91 = none := rfl
@[go_sem] theorem sos_92 : sos 92 = none := rfl
@[go_sem] theorem sos_93 : sos 93 = none := rfl
@[go_sem] theorem sos_94 : sos 94 = none := rfl
@[go_sem] theorem sos_95 : sos 95 = none := rfl
@[go_sem] theorem sos_96 : sos 96 = none := rfl
@[go_sem] theorem sos_97 : sos 97 = none := rfl
@[go_sem] theorem sos_98 : sos 98 = none := rfl
@[go_sem] theorem sos_99 : sos 99 = none := rfl
@[go_sem] theorem sos_100 : sos 100 = none := rfl
@[go_sem] theorem sos_101 : sos 101 = none := rfl
@[go_sem] theorem sos_102 : sos 102 = none := rfl
@[go_sem] theorem sos_103 : sos 103 = none := rfl
@[go_sem] theorem sos_104 : sos 104 = none := rfl
@[go_sem] theorem sos_105 : sos 105 = none := rfl
@[go_sem] theorem sos_106 : sos 106 = none := rfl
@[go_sem] theorem sos_107 : sos 107 = none := rfl
@[go_sem] theorem sos_108 : sos 108 = none := rfl
@[go_sem] theorem sos_109 : sos 109 = none := rfl
@[go_sem] theorem sos_110 : sos 110 = none := rfl
@[go_sem] theorem sos_111 : sos 111 = none := rfl
@[go_sem] theorem sos_112 : sos 112 = none := rfl
@[go_sem] theorem sos_113 : sos 113 = none := rfl
@[go_sem] theorem sos_114 : sos 114 = none := rfl
@[go_sem] theorem sos_115 : sos 115 = none := rfl
@[go_sem] theorem sos_116 : sos 116 = none := rfl
@[go_sem] theorem sos_117 : sos 117 = none := rfl
@[go_sem] theorem sos_118 : sos 118 = none := rfl
@[go_sem] theorem sos_119 : sos 119 = none := rfl
@[go_sem] theorem sos_120 : sos 120 = none := rfl
@[go_sem] theorem sos_121 : sos 121 = none := rfl
@[go_sem] theorem sos_122 : sos 122 = none := rfl
@[go_sem] theorem sos_123 : sos 123 = none := rfl
@[go_sem] theorem sos_124 : sos 124 = none := rfl
@[go_sem] theorem sos_125 : sos 125 = none := rfl
@[go_sem] theorem sos_126 : sos 126 = none := rfl
@[go_sem] theorem sos_127 : sos 127 = none := rfl
@[go_sem] theorem sos_128 : sos 128 = none := rfl
@[go_sem] theorem sos_129 : sos 129 = none := rfl
@[go_sem] theorem sos_130 : sos 130 = none := rfl
@[go_sem] theorem sos_131 : sos 131 = none := rfl
@[go_sem] theorem sos_132 : sos 132 = none := rfl
@[go_sem] theorem sos_133 : sos 133 = none := rfl
@[go_sem] theorem sos_134 : sos 134 = none := rfl
@[go_sem] theorem sos_135 : sos 135 = none := rfl
@[go_sem] theorem sos_136 : sos 136 = none := rfl
@[go_sem] theorem sos_137 : sos 137 = none := rfl
@[go_sem] theorem sos_138 : sos 138 = none := rfl
@[go_sem] theorem sos_139 : sos 139 = none := rfl
@[go_sem] theorem sos_140 : sos 140 = none := rfl
@[go_sem] theorem sos_141 : sos 141 = none := rfl
@[go_sem] theorem sos_142 : sos 142 = none := rfl
@[go_sem] theorem sos_143 : sos 143 = none := rfl
@[go_sem] theorem sos_144 : sos 144 = none := rfl
@[go_sem] theorem sos_145 : sos 145 = none := rfl
@[go_sem] theorem sos_146 : sos 146 = none := rfl
@[go_sem] theorem sos_147 : sos 147 = none := rfl
@[go_sem] theorem sos_148 : sos 148 = none := rfl
@[go_sem] theorem sos_149 : sos 149 = none := rfl
@[go_sem] theorem sos_150 : sos 150 = none := rfl
@[go_sem] theorem sos_151 : sos 151 = none := rfl
@[go_sem] theorem sos_152 : sos 152 = none := rfl
@[go_sem] theorem sos_153 : sos 153 = none := rfl
@[go_sem] theorem sos_154 : sos 154 = none := rfl
@[go_sem] theorem sos_155 : sos 155 = none := rfl
@[go_sem] theorem sos_156 : sos 156 = none := rfl
@[go_sem] theorem sos_157 : sos 157 = none := rfl
@[go_sem] theorem sos_158 : sos 158 = none := rfl
@[go_sem] theorem sos_159 : sos 159 = none := rfl
@[go_sem] theorem sos_160 : sos 160 = none := rfl
@[go_sem] theorem sos_161 : sos 161 = none := rfl
@[go_sem] theorem sos_162 : sos 162 = none := rfl
@[go_sem] theorem sos_163 : sos 163 = none := rfl
@[go_sem] theorem sos_164 : sos 164 = none := rfl
@[go_sem] theorem sos_165 : sos 165 = none := rfl
@[go_sem] theorem sos_166 : sos 166 = none := rfl
@[go_sem] theorem sos_167 : sos 167 = none := rfl
@[go_sem] theorem tik_zero : tik 0 = none := rfl
@[go_sem] theorem tst_zero : tst 0 = false := rfl
@[go_sem] theorem tbo_zero : tbo 0 = false := rfl
attribute [go_sem] tfo tfz
@[go_sem] theorem tys_sl {t} : tys.sl t = tsl t := rfl
@[go_sem] theorem tys_sz {t} : tys.sz t = tsz t := rfl
@[go_sem] theorem tys_by {t} : tys.byt t = tby t := rfl
@[go_sem] theorem tys_ag {t} : tys.ag t = tag t := rfl
@[go_sem] theorem tys_zr {t} : tys.zr t = tzr t := rfl
@[go_sem] theorem tys_fo {t f} : tys.fo t f = tfo t f := rfl
@[go_sem] theorem tys_fz {t f} : tys.fz t f = tfz t f := rfl
@[go_sem] theorem tys_ik {t} : tys.ik t = tik t := rfl
@[go_sem] theorem tys_st {t} : tys.str t = tst t := rfl
@[go_sem] theorem tys_bo {t} : tys.boo t = tbo t := rfl
/-- The functions without a body. -/
def orcs : FuncId → Option (CallF → List SV → List (List CV) → Option Ret)
  | 76 => some (cloneOrc 1 1)
  | _ => none
/-- The functions that run in the caller's slots. -/
def inls : FuncId → Bool
  | 38 => true
  | _ => false
@[go_sem] theorem inls_3 : inls 3 = false := rfl
@[go_sem] theorem inls_4 : inls 4 = false := rfl
@[go_sem] theorem inls_5 : inls 5 = false := rfl
@[go_sem] theorem inls_6 : inls 6 = false := rfl
@[go_sem] theorem inls_7 : inls 7 = false := rfl
@[go_sem] theorem inls_8 : inls 8 = false := rfl
@[go_sem] theorem inls_9 : inls 9 = false := rfl
@[go_sem] theorem inls_10 : inls 10 = false := rfl
@[go_sem] theorem inls_11 : inls 11 = false := rfl
@[go_sem] theorem inls_12 : inls 12 = false := rfl
@[go_sem] theorem inls_13 : inls 13 = false := rfl
@[go_sem] theorem inls_14 : inls 14 = false := rfl
@[go_sem] theorem inls_15 : inls 15 = false := rfl
@[go_sem] theorem inls_16 : inls 16 = false := rfl
@[go_sem] theorem inls_17 : inls 17 = false := rfl
@[go_sem] theorem inls_18 : inls 18 = false := rfl
@[go_sem] theorem inls_19 : inls 19 = false := rfl
@[go_sem] theorem inls_20 : inls 20 = false := rfl
@[go_sem] theorem inls_21 : inls 21 = false := rfl
@[go_sem] theorem inls_22 : inls 22 = false := rfl
@[go_sem] theorem inls_23 : inls 23 = false := rfl
@[go_sem] theorem inls_24 : inls 24 = false := rfl
@[go_sem] theorem inls_25 : inls 25 = false := rfl
@[go_sem] theorem inls_26 : inls 26 = false := rfl
@[go_sem] theorem inls_27 : inls 27 = false := rfl
@[go_sem] theorem inls_28 : inls 28 = false := rfl
@[go_sem] theorem inls_29 : inls 29 = false := rfl
@[go_sem] theorem inls_30 : inls 30 = false := rfl
@[go_sem] theorem inls_31 : inls 31 = false := rfl
@[go_sem] theorem inls_32 : inls 32 = false := rfl
@[go_sem] theorem inls_33 : inls 33 = false := rfl
@[go_sem] theorem inls_34 : inls 34 = false := rfl
@[go_sem] theorem inls_35 : inls 35 = false := rfl
@[go_sem] theorem inls_36 : inls 36 = false := rfl
@[go_sem] theorem inls_37 : inls 37 = false := rfl
@[go_sem] theorem inls_38 : inls 38 = true := rfl
@[go_sem] theorem inls_39 : inls 39 = false := rfl
@[go_sem] theorem inls_40 : inls 40 = false := rfl
@[go_sem] theorem inls_41 : inls 41 = false := rfl
@[go_sem] theorem inls_42 : inls 42 = false := rfl
@[go_sem] theorem inls_43 : inls 43 = false := rfl
@[go_sem] theorem inls_44 : inls 44 = false := rfl
@[go_sem] theorem inls_45 : inls 45 = false := rfl
@[go_sem] theorem inls_46 : inls 46 = false := rfl
@[go_sem] theorem inls_47 : inls 47 = false := rfl
@[go_sem] theorem inls_48 : inls 48 = false := rfl
@[go_sem] theorem inls_49 : inls 49 = false := rfl
@[go_sem] theorem inls_50 : inls 50 = false := rfl
@[go_sem] theorem inls_51 : inls 51 = false := rfl
@[go_sem] theorem inls_52 : inls 52 = false := rfl
@[go_sem] theorem inls_53 : inls 53 = false := rfl
@[go_sem] theorem inls_54 : inls 54 = false := rfl
@[go_sem] theorem inls_55 : inls 55 = false := rfl
@[go_sem] theorem inls_56 : inls 56 = false := rfl
@[go_sem] theorem inls_57 : inls 57 = false := rfl
@[go_sem] theorem inls_58 : inls 58 = false := rfl
@[go_sem] theorem inls_59 : inls 59 = false := rfl
@[go_sem] theorem inls_60 : inls 60 = false := rfl
@[go_sem] theorem inls_61 : inls 61 = false := rfl
@[go_sem] theorem inls_62 : inls 62 = false := rfl
@[go_sem] theorem inls_63 : inls 63 = false := rfl
@[go_sem] theorem inls_64 : inls 64 = false := rfl
@[go_sem] theorem inls_65 : inls 65 = false := rfl
@[go_sem] theorem inls_66 : inls 66 = false := rfl
@[go_sem] theorem inls_67 : inls 67 = false := rfl
@[go_sem] theorem inls_68 : inls 68 = false := rfl
@[go_sem] theorem inls_69 : inls 69 = false := rfl
@[go_sem] theorem inls_70 : inls 70 = false := rfl
@[go_sem] theorem inls_71 : inls 71 = false := rfl
@[go_sem] theorem inls_72 : inls 72 = false := rfl
@[go_sem] theorem inls_73 : inls 73 = false := rfl
@[go_sem] theorem inls_74 : inls 74 = false := rfl
@[go_sem] theorem inls_75 : inls 75 = false := rfl
@[go_sem] theorem inls_76 : inls 76 = false := rfl
@[go_sem] theorem inls_77 : inls 77 = false := rfl
@[go_sem] theorem inls_78 : inls 78 = false := rfl
@[go_sem] theorem inls_79 : inls 79 = false := rfl
@[go_sem] theorem inls_80 : inls 80 = false := rfl
@[go_sem] theorem inls_81 : inls 81 = false := rfl
@[go_sem] theorem inls_82 : inls 82 = false := rfl
@[go_sem] theorem inls_83 : inls 83 = false := rfl
@[go_sem] theorem inls_84 : inls 84 = false := rfl
@[go_sem] theorem inls_85 : inls 85 = false := rfl
@[go_sem] theorem inls_86 : inls 86 = false := rfl
@[go_sem] theorem inls_87 : inls 87 = false := rfl
@[go_sem] theorem inls_88 : inls 88 = false := rfl
@[go_sem] theorem inls_89 : inls 89 = false := rfl
@[go_sem] theorem inls_90 : inls 90 = false := rfl
@[go_sem] theorem inls_91 : inls 91 = false := rfl
@[go_sem] theorem inls_92 : inls 92 = false := rfl
@[go_sem] theorem inls_93 : inls 93 = false := rfl
@[go_sem] theorem inls_94 : inls 94 = false := rfl
@[go_sem] theorem inls_95 : inls 95 = false := rfl
@[go_sem] theorem inls_96 : inls 96 = false := rfl
@[go_sem] theorem inls_97 : inls 97 = false := rfl
@[go_sem] theorem inls_98 : inls 98 = false := rfl
@[go_sem] theorem inls_99 : inls 99 = false := rfl
@[go_sem] theorem inls_100 : inls 100 = false := rfl
@[go_sem] theorem inls_101 : inls 101 = false := rfl
@[go_sem] theorem inls_102 : inls 102 = false := rfl
@[go_sem] theorem inls_103 : inls 103 = false := rfl
@[go_sem] theorem inls_104 : inls 104 = false := rfl
@[go_sem] theorem inls_105 : inls 105 = false := rfl
@[go_sem] theorem inls_106 : inls 106 = false := rfl
@[go_sem] theorem inls_107 : inls 107 = false := rfl
@[go_sem] theorem inls_108 : inls 108 = false := rfl
@[go_sem] theorem inls_109 : inls 109 = false := rfl
@[go_sem] theorem inls_110 : inls 110 = false := rfl
@[go_sem] theorem inls_111 : inls 111 = false := rfl
@[go_sem] theorem inls_112 : inls 112 = false := rfl
@[go_sem] theorem inls_113 : inls 113 = false := rfl
@[go_sem] theorem inls_114 : inls 114 = false := rfl
@[go_sem] theorem inls_115 : inls 115 = false := rfl
@[go_sem] theorem inls_116 : inls 116 = false := rfl
@[go_sem] theorem inls_117 : inls 117 = false := rfl
@[go_sem] theorem inls_118 : inls 118 = false := rfl
@[go_sem] theorem inls_119 : inls 119 = false := rfl
@[go_sem] theorem inls_120 : inls 120 = false := rfl
@[go_sem] theorem inls_121 : inls 121 = false := rfl
@[go_sem] theorem inls_122 : inls 122 = false := rfl
@[go_sem] theorem inls_123 : inls 123 = false := rfl
@[go_sem] theorem inls_124 : inls 124 = false := rfl
@[go_sem] theorem inls_125 : inls 125 = false := rfl
@[go_sem] theorem inls_126 : inls 126 = false := rfl
@[go_sem] theorem inls_127 : inls 127 = false := rfl
@[go_sem] theorem inls_128 : inls 128 = false := rfl
@[go_sem] theorem inls_129 : inls 129 = false := rfl
@[go_sem] theorem inls_130 : inls 130 = false := rfl
@[go_sem] theorem inls_131 : inls 131 = false := rfl
@[go_sem] theorem inls_132 : inls 132 = false := rfl
@[go_sem] theorem inls_133 : inls 133 = false := rfl
@[go_sem] theorem inls_134 : inls 134 = false := rfl
@[go_sem] theorem inls_135 : inls 135 = false := rfl
@[go_sem] theorem inls_136 : inls 136 = false := rfl
@[go_sem] theorem inls_137 : inls 137 = false := rfl
@[go_sem] theorem inls_138 : inls 138 = false := rfl
@[go_sem] theorem inls_139 : inls 139 = false := rfl
@[go_sem] theorem inls_140 : inls 140 = false := rfl
@[go_sem] theorem inls_141 : inls 141 = false := rfl
@[go_sem] theorem inls_142 : inls 142 = false := rfl
@[go_sem] theorem inls_143 : inls 143 = false := rfl
@[go_sem] theorem inls_144 : inls 144 = false := rfl
@[go_sem] theorem inls_145 : inls 145 = false := rfl
@[go_sem] theorem inls_146 : inls 146 = false := rfl
@[go_sem] theorem inls_147 : inls 147 = false := rfl
@[go_sem] theorem inls_148 : inls 148 = false := rfl
@[go_sem] theorem inls_149 : inls 149 = false := rfl
@[go_sem] theorem inls_150 : inls 150 = false := rfl
@[go_sem] theorem inls_151 : inls 151 = false := rfl
@[go_sem] theorem inls_152 : inls 152 = false := rfl
@[go_sem] theorem inls_153 : inls 153 = false := rfl
@[go_sem] theorem inls_154 : inls 154 = false := rfl
@[go_sem] theorem inls_155 : inls 155 = false := rfl
@[go_sem] theorem inls_156 : inls 156 = false := rfl
@[go_sem] theorem inls_157 : inls 157 = false := rfl
@[go_sem] theorem inls_158 : inls 158 = false := rfl
@[go_sem] theorem inls_159 : inls 159 = false := rfl
@[go_sem] theorem inls_160 : inls 160 = false := rfl
@[go_sem] theorem inls_161 : inls 161 = false := rfl
@[go_sem] theorem inls_162 : inls 162 = false := rfl
@[go_sem] theorem inls_163 : inls 163 = false := rfl
@[go_sem] theorem inls_164 : inls 164 = false := rfl
@[go_sem] theorem inls_165 : inls 165 = false := rfl
@[go_sem] theorem inls_166 : inls 166 = false := rfl
@[go_sem] theorem inls_167 : inls 167 = false := rfl
/-- The functions in which slices that go into an array stay their place's own. -/
def mvs : FuncId → Bool
  | 19 => true
  | 36 => true
  | 38 => true
  | _ => false
@[go_sem] theorem mvs_3 : mvs 3 = false := rfl
@[go_sem] theorem mvs_4 : mvs 4 = false := rfl
@[go_sem] theorem mvs_5 : mvs 5 = false := rfl
@[go_sem] theorem mvs_6 : mvs 6 = false := rfl
@[go_sem] theorem mvs_7 : mvs 7 = false := rfl
@[go_sem] theorem mvs_8 : mvs 8 = false := rfl
@[go_sem] theorem mvs_9 : mvs 9 = false := rfl
@[go_sem] theorem mvs_10 : mvs 10 = false := rfl
@[go_sem] theorem mvs_11 : mvs 11 = false := rfl
@[go_sem] theorem mvs_12 : mvs 12 = false := rfl
@[go_sem] theorem mvs_13 : mvs 13 = false := rfl
@[go_sem] theorem mvs_14 : mvs 14 = false := rfl
@[go_sem] theorem mvs_15 : mvs 15 = false := rfl
@[go_sem] theorem mvs_16 : mvs 16 = false := rfl
@[go_sem] theorem mvs_17 : mvs 17 = false := rfl
@[go_sem] theorem mvs_18 : mvs 18 = false := rfl
@[go_sem] theorem mvs_19 : mvs 19 = true := rfl
@[go_sem] theorem mvs_20 : mvs 20 = false := rfl
@[go_sem] theorem mvs_21 : mvs 21 = false := rfl
@[go_sem] theorem mvs_22 : mvs 22 = false := rfl
@[go_sem] theorem mvs_23 : mvs 23 = false := rfl
@[go_sem] theorem mvs_24 : mvs 24 = false := rfl
@[go_sem] theorem mvs_25 : mvs 25 = false := rfl
@[go_sem] theorem mvs_26 : mvs 26 = false := rfl
@[go_sem] theorem mvs_27 : mvs 27 = false := rfl
@[go_sem] theorem mvs_28 : mvs 28 = false := rfl
@[go_sem] theorem mvs_29 : mvs 29 = false := rfl
@[go_sem] theorem mvs_30 : mvs 30 = false := rfl
@[go_sem] theorem mvs_31 : mvs 31 = false := rfl
@[go_sem] theorem mvs_32 : mvs 32 = false := rfl
@[go_sem] theorem mvs_33 : mvs 33 = false := rfl
@[go_sem] theorem mvs_34 : mvs 34 = false := rfl
@[go_sem] theorem mvs_35 : mvs 35 = false := rfl
@[go_sem] theorem mvs_36 : mvs 36 = true := rfl
@[go_sem] theorem mvs_37 : mvs 37 = false := rfl
@[go_sem] theorem mvs_38 : mvs 38 = true := rfl
@[go_sem] theorem mvs_39 : mvs 39 = false := rfl
@[go_sem] theorem mvs_40 : mvs 40 = false := rfl
@[go_sem] theorem mvs_41 : mvs 41 = false := rfl
@[go_sem] theorem mvs_42 : mvs 42 = false := rfl
@[go_sem] theorem mvs_43 : mvs 43 = false := rfl
@[go_sem] theorem mvs_44 : mvs 44 = false := rfl
@[go_sem] theorem mvs_45 : mvs 45 = false := rfl
@[go_sem] theorem mvs_46 : mvs 46 = false := rfl
@[go_sem] theorem mvs_47 : mvs 47 = false := rfl
@[go_sem] theorem mvs_48 : mvs 48 = false := rfl
@[go_sem] theorem mvs_49 : mvs 49 = false := rfl
@[go_sem] theorem mvs_50 : mvs 50 = false := rfl
@[go_sem] theorem mvs_51 : mvs 51 = false := rfl
@[go_sem] theorem mvs_52 : mvs 52 = false := rfl
@[go_sem] theorem mvs_53 : mvs 53 = false := rfl
@[go_sem] theorem mvs_54 : mvs 54 = false := rfl
@[go_sem] theorem mvs_55 : mvs 55 = false := rfl
@[go_sem] theorem mvs_56 : mvs 56 = false := rfl
@[go_sem] theorem mvs_57 : mvs 57 = false := rfl
@[go_sem] theorem mvs_58 : mvs 58 = false := rfl
@[go_sem] theorem mvs_59 : mvs 59 = false := rfl
@[go_sem] theorem mvs_60 : mvs 60 = false := rfl
@[go_sem] theorem mvs_61 : mvs 61 = false := rfl
@[go_sem] theorem mvs_62 : mvs 62 = false := rfl
@[go_sem] theorem mvs_63 : mvs 63 = false := rfl
@[go_sem] theorem mvs_64 : mvs 64 = false := rfl
@[go_sem] theorem mvs_65 : mvs 65 = false := rfl
@[go_sem] theorem mvs_66 : mvs 66 = false := rfl
@[go_sem] theorem mvs_67 : mvs 67 = false := rfl
@[go_sem] theorem mvs_68 : mvs 68 = false := rfl
@[go_sem] theorem mvs_69 : mvs 69 = false := rfl
@[go_sem] theorem mvs_70 : mvs 70 = false := rfl
@[go_sem] theorem mvs_71 : mvs 71 = false := rfl
@[go_sem] theorem mvs_72 : mvs 72 = false := rfl
@[go_sem] theorem mvs_73 : mvs 73 = false := rfl
@[go_sem] theorem mvs_74 : mvs 74 = false := rfl
@[go_sem] theorem mvs_75 : mvs 75 = false := rfl
@[go_sem] theorem mvs_76 : mvs 76 = false := rfl
@[go_sem] theorem mvs_77 : mvs 77 = false := rfl
@[go_sem] theorem mvs_78 : mvs 78 = false := rfl
@[go_sem] theorem mvs_79 : mvs 79 = false := rfl
@[go_sem] theorem mvs_80 : mvs 80 = false := rfl
@[go_sem] theorem mvs_81 : mvs 81 = false := rfl
@[go_sem] theorem mvs_82 : mvs 82 = false := rfl
@[go_sem] theorem mvs_83 : mvs 83 = false := rfl
@[go_sem] theorem mvs_84 : mvs 84 = false := rfl
@[go_sem] theorem mvs_85 : mvs 85 = false := rfl
@[go_sem] theorem mvs_86 : mvs 86 = false := rfl
@[go_sem] theorem mvs_87 : mvs 87 = false := rfl
@[go_sem] theorem mvs_88 : mvs 88 = false := rfl
@[go_sem] theorem mvs_89 : mvs 89 = false := rfl
@[go_sem] theorem mvs_90 : mvs 90 = false := rfl
@[go_sem] theorem mvs_91 : mvs 91 = false := rfl
@[go_sem] theorem mvs_92 : mvs 92 = false := rfl
@[go_sem] theorem mvs_93 : mvs 93 = false := rfl
@[go_sem] theorem mvs_94 : mvs 94 = false := rfl
@[go_sem] theorem mvs_95 : mvs 95 = false := rfl
@[go_sem] theorem mvs_96 : mvs 96 = false := rfl
@[go_sem] theorem mvs_97 : mvs 97 = false := rfl
@[go_sem] theorem mvs_98 : mvs 98 = false := rfl
@[go_sem] theorem mvs_99 : mvs 99 = false := rfl
@[go_sem] theorem mvs_100 : mvs 100 = false := rfl
@[go_sem] theorem mvs_101 : mvs 101 = false := rfl
@[go_sem] theorem mvs_102 : mvs 102 = false := rfl
@[go_sem] theorem mvs_103 : mvs 103 = false := rfl
@[go_sem] theorem mvs_104 : mvs 104 = false := rfl
@[go_sem] theorem mvs_105 : mvs 105 = false := rfl
@[go_sem] theorem mvs_106 : mvs 106 = false := rfl
@[go_sem] theorem mvs_107 : mvs 107 = false := rfl
@[go_sem] theorem mvs_108 : mvs 108 = false := rfl
@[go_sem] theorem mvs_109 : mvs 109 = false := rfl
@[go_sem] theorem mvs_110 : mvs 110 = false := rfl
@[go_sem] theorem mvs_111 : mvs 111 = false := rfl
@[go_sem] theorem mvs_112 : mvs 112 = false := rfl
@[go_sem] theorem mvs_113 : mvs 113 = false := rfl
@[go_sem] theorem mvs_114 : mvs 114 = false := rfl
@[go_sem] theorem mvs_115 : mvs 115 = false := rfl
@[go_sem] theorem mvs_116 : mvs 116 = false := rfl
@[go_sem] theorem mvs_117 : mvs 117 = false := rfl
@[go_sem] theorem mvs_118 : mvs 118 = false := rfl
@[go_sem] theorem mvs_119 : mvs 119 = false := rfl
@[go_sem] theorem mvs_120 : mvs 120 = false := rfl
@[go_sem] theorem mvs_121 : mvs 121 = false := rfl
@[go_sem] theorem mvs_122 : mvs 122 = false := rfl
@[go_sem] theorem mvs_123 : mvs 123 = false := rfl
@[go_sem] theorem mvs_124 : mvs 124 = false := rfl
@[go_sem] theorem mvs_125 : mvs 125 = false := rfl
@[go_sem] theorem mvs_126 : mvs 126 = false := rfl
@[go_sem] theorem mvs_127 : mvs 127 = false := rfl
@[go_sem] theorem mvs_128 : mvs 128 = false := rfl
@[go_sem] theorem mvs_129 : mvs 129 = false := rfl
@[go_sem] theorem mvs_130 : mvs 130 = false := rfl
@[go_sem] theorem mvs_131 : mvs 131 = false := rfl
@[go_sem] theorem mvs_132 : mvs 132 = false := rfl
@[go_sem] theorem mvs_133 : mvs 133 = false := rfl
@[go_sem] theorem mvs_134 : mvs 134 = false := rfl
@[go_sem] theorem mvs_135 : mvs 135 = false := rfl
@[go_sem] theorem mvs_136 : mvs 136 = false := rfl
@[go_sem] theorem mvs_137 : mvs 137 = false := rfl
@[go_sem] theorem mvs_138 : mvs 138 = false := rfl
@[go_sem] theorem mvs_139 : mvs 139 = false := rfl
@[go_sem] theorem mvs_140 : mvs 140 = false := rfl
@[go_sem] theorem mvs_141 : mvs 141 = false := rfl
@[go_sem] theorem mvs_142 : mvs 142 = false := rfl
@[go_sem] theorem mvs_143 : mvs 143 = false := rfl
@[go_sem] theorem mvs_144 : mvs 144 = false := rfl
@[go_sem] theorem mvs_145 : mvs 145 = false := rfl
@[go_sem] theorem mvs_146 : mvs 146 = false := rfl
@[go_sem] theorem mvs_147 : mvs 147 = false := rfl
@[go_sem] theorem mvs_148 : mvs 148 = false := rfl
@[go_sem] theorem mvs_149 : mvs 149 = false := rfl
@[go_sem] theorem mvs_150 : mvs 150 = false := rfl
@[go_sem] theorem mvs_151 : mvs 151 = false := rfl
@[go_sem] theorem mvs_152 : mvs 152 = false := rfl
@[go_sem] theorem mvs_153 : mvs 153 = false := rfl
@[go_sem] theorem mvs_154 : mvs 154 = false := rfl
@[go_sem] theorem mvs_155 : mvs 155 = false := rfl
@[go_sem] theorem mvs_156 : mvs 156 = false := rfl
@[go_sem] theorem mvs_157 : mvs 157 = false := rfl
@[go_sem] theorem mvs_158 : mvs 158 = false := rfl
@[go_sem] theorem mvs_159 : mvs 159 = false := rfl
@[go_sem] theorem mvs_160 : mvs 160 = false := rfl
@[go_sem] theorem mvs_161 : mvs 161 = false := rfl
@[go_sem] theorem mvs_162 : mvs 162 = false := rfl
@[go_sem] theorem mvs_163 : mvs 163 = false := rfl
@[go_sem] theorem mvs_164 : mvs 164 = false := rfl
@[go_sem] theorem mvs_165 : mvs 165 = false := rfl
@[go_sem] theorem mvs_166 : mvs 166 = false := rfl
@[go_sem] theorem mvs_167 : mvs 167 = false := rfl
noncomputable def env : Env := ⟨tys, fns, orcs, dead, fun _ => [], inls, mvs⟩
@[go_sem] theorem env_inl {g} : env.inl g = inls g := rfl
@[go_sem] theorem env_mv {g} : env.mv g = mvs g := rfl
@[go_sem] theorem env_T : env.T = tys := rfl
@[go_sem] theorem env_dead : env.dead = dead := rfl
end Go.Proofs.YtblelojdboefjaaGreat.R
