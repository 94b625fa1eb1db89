/- The tables' entries as laws for simp. Printed by genv.py. -/
import Derived.Test.YtlbigobmhglppaaE
import Derived.Test.YtlbigobmhglppaaS5
namespace Go.Proofs.Ytlbigobmhglppaa.R
open Go
set_option maxRecDepth 100000
@[go_sem] theorem tsl_2 : tsl 2 = none := rfl
@[go_sem] theorem tsl_3 : tsl 3 = none := rfl
@[go_sem] theorem tsl_4 : tsl 4 = none := rfl
@[go_sem] theorem tsl_5 : tsl 5 = none := rfl
@[go_sem] theorem tsl_6 : tsl 6 = none := rfl
@[go_sem] theorem tsl_7 : tsl 7 = none := rfl
@[go_sem] theorem tsl_8 : tsl 8 = none := rfl
@[go_sem] theorem tsl_9 : tsl 9 = none := rfl
@[go_sem] theorem tsl_10 : tsl 10 = none := rfl
@[go_sem] theorem tsl_11 : tsl 11 = none := rfl
@[go_sem] theorem tsl_12 : tsl 12 = none := rfl
@[go_sem] theorem tsl_13 : tsl 13 = none := rfl
@[go_sem] theorem tsl_14 : tsl 14 = none := rfl
@[go_sem] theorem tsl_21 : tsl 21 = none := rfl
@[go_sem] theorem tsl_22 : tsl 22 = some 5 := rfl
@[go_sem] theorem tsl_23 : tsl 23 = some 101 := rfl
@[go_sem] theorem tsl_24 : tsl 24 = none := rfl
@[go_sem] theorem tsl_25 : tsl 25 = none := rfl
@[go_sem] theorem tsl_28 : tsl 28 = some 81 := rfl
@[go_sem] theorem tsl_29 : tsl 29 = none := rfl
@[go_sem] theorem tsl_30 : tsl 30 = none := rfl
@[go_sem] theorem tsl_34 : tsl 34 = some 124 := rfl
@[go_sem] theorem tsl_35 : tsl 35 = none := rfl
@[go_sem] theorem tsl_36 : tsl 36 = none := rfl
@[go_sem] theorem tsl_37 : tsl 37 = some 154 := rfl
@[go_sem] theorem tsl_38 : tsl 38 = none := rfl
@[go_sem] theorem tsl_39 : tsl 39 = none := rfl
@[go_sem] theorem tsl_40 : tsl 40 = some 129 := rfl
@[go_sem] theorem tsl_41 : tsl 41 = none := rfl
@[go_sem] theorem tsl_42 : tsl 42 = none := rfl
@[go_sem] theorem tsl_43 : tsl 43 = some 175 := rfl
@[go_sem] theorem tsl_44 : tsl 44 = none := rfl
@[go_sem] theorem tsl_45 : tsl 45 = none := rfl
@[go_sem] theorem tsl_46 : tsl 46 = some 165 := rfl
@[go_sem] theorem tsl_47 : tsl 47 = none := rfl
@[go_sem] theorem tsl_48 : tsl 48 = none := rfl
@[go_sem] theorem tsl_49 : tsl 49 = none := rfl
@[go_sem] theorem tsl_50 : tsl 50 = none := rfl
@[go_sem] theorem tsl_51 : tsl 51 = none := rfl
@[go_sem] theorem tsl_52 : tsl 52 = none := rfl
@[go_sem] theorem tsl_55 : tsl 55 = some 136 := rfl
@[go_sem] theorem tsl_56 : tsl 56 = none := rfl
@[go_sem] theorem tsl_57 : tsl 57 = none := rfl
@[go_sem] theorem tsl_58 : tsl 58 = some 158 := rfl
@[go_sem] theorem tsl_59 : tsl 59 = none := rfl
@[go_sem] theorem tsl_60 : tsl 60 = none := rfl
@[go_sem] theorem tsl_61 : tsl 61 = some 141 := rfl
@[go_sem] theorem tsl_62 : tsl 62 = none := rfl
@[go_sem] theorem tsl_63 : tsl 63 = none := rfl
@[go_sem] theorem tsl_64 : tsl 64 = some 91 := rfl
@[go_sem] theorem tsl_65 : tsl 65 = none := rfl
@[go_sem] theorem tsl_66 : tsl 66 = none := rfl
@[go_sem] theorem tsl_67 : tsl 67 = some 163 := rfl
@[go_sem] theorem tsl_68 : tsl 68 = none := rfl
@[go_sem] theorem tsl_69 : tsl 69 = none := rfl
@[go_sem] theorem tsl_70 : tsl 70 = none := rfl
@[go_sem] theorem tsl_71 : tsl 71 = none := rfl
@[go_sem] theorem tsl_72 : tsl 72 = none := rfl
@[go_sem] theorem tsl_73 : tsl 73 = none := rfl
@[go_sem] theorem tsl_80 : tsl 80 = none := rfl
@[go_sem] theorem tsl_81 : tsl 81 = none := rfl
@[go_sem] theorem tsl_89 : tsl 89 = some 109 := rfl
@[go_sem] theorem tsl_90 : tsl 90 = none := rfl
@[go_sem] theorem tsl_91 : tsl 91 = none := rfl
@[go_sem] theorem tsl_101 : tsl 101 = none := rfl
@[go_sem] theorem tsl_108 : tsl 108 = none := rfl
@[go_sem] theorem tsl_109 : tsl 109 = none := rfl
@[go_sem] theorem tsl_120 : tsl 120 = some 188 := rfl
@[go_sem] theorem tsl_121 : tsl 121 = none := rfl
@[go_sem] theorem tsl_122 : tsl 122 = none := rfl
@[go_sem] theorem tsl_123 : tsl 123 = none := rfl
@[go_sem] theorem tsl_124 : tsl 124 = none := rfl
@[go_sem] theorem tsl_127 : tsl 127 = some 180 := rfl
@[go_sem] theorem tsl_128 : tsl 128 = none := rfl
@[go_sem] theorem tsl_129 : tsl 129 = none := rfl
@[go_sem] theorem tsl_132 : tsl 132 = some 192 := rfl
@[go_sem] theorem tsl_133 : tsl 133 = none := rfl
@[go_sem] theorem tsl_134 : tsl 134 = none := rfl
@[go_sem] theorem tsl_135 : tsl 135 = none := rfl
@[go_sem] theorem tsl_136 : tsl 136 = none := rfl
@[go_sem] theorem tsl_139 : tsl 139 = some 178 := rfl
@[go_sem] theorem tsl_140 : tsl 140 = none := rfl
@[go_sem] theorem tsl_141 : tsl 141 = none := rfl
@[go_sem] theorem tsl_153 : tsl 153 = none := rfl
@[go_sem] theorem tsl_154 : tsl 154 = none := rfl
@[go_sem] theorem tsl_158 : tsl 158 = none := rfl
@[go_sem] theorem tsl_162 : tsl 162 = none := rfl
@[go_sem] theorem tsl_163 : tsl 163 = none := rfl
@[go_sem] theorem tsl_165 : tsl 165 = none := rfl
@[go_sem] theorem tsl_173 : tsl 173 = some 199 := rfl
@[go_sem] theorem tsl_174 : tsl 174 = none := rfl
@[go_sem] theorem tsl_175 : tsl 175 = none := rfl
@[go_sem] theorem tsl_177 : tsl 177 = none := rfl
@[go_sem] theorem tsl_178 : tsl 178 = none := rfl
@[go_sem] theorem tsl_180 : tsl 180 = none := rfl
@[go_sem] theorem tsl_186 : tsl 186 = some 206 := rfl
@[go_sem] theorem tsl_187 : tsl 187 = none := rfl
@[go_sem] theorem tsl_188 : tsl 188 = none := rfl
@[go_sem] theorem tsl_190 : tsl 190 = some 207 := rfl
@[go_sem] theorem tsl_191 : tsl 191 = none := rfl
@[go_sem] theorem tsl_192 : tsl 192 = none := rfl
@[go_sem] theorem tsl_199 : tsl 199 = none := rfl
@[go_sem] theorem tsl_205 : tsl 205 = none := rfl
@[go_sem] theorem tsl_206 : tsl 206 = none := rfl
@[go_sem] theorem tsl_207 : tsl 207 = none := rfl
@[go_sem] theorem tsl_217 : tsl 217 = none := rfl
@[go_sem] theorem tsl_218 : tsl 218 = none := rfl
@[go_sem] theorem tsl_219 : tsl 219 = none := rfl
@[go_sem] theorem tsl_222 : tsl 222 = none := rfl
@[go_sem] theorem tsl_223 : tsl 223 = none := rfl
@[go_sem] theorem tsz_2 : tsz 2 = some 1 := rfl
@[go_sem] theorem tsz_3 : tsz 3 = some 1 := rfl
@[go_sem] theorem tsz_4 : tsz 4 = some 1 := rfl
@[go_sem] theorem tsz_5 : tsz 5 = some 1 := rfl
@[go_sem] theorem tsz_6 : tsz 6 = some 1 := rfl
@[go_sem] theorem tsz_7 : tsz 7 = some 4 := rfl
@[go_sem] theorem tsz_8 : tsz 8 = some 4 := rfl
@[go_sem] theorem tsz_9 : tsz 9 = some 1 := rfl
@[go_sem] theorem tsz_10 : tsz 10 = some 1 := rfl
@[go_sem] theorem tsz_11 : tsz 11 = some 1 := rfl
@[go_sem] theorem tsz_12 : tsz 12 = some 1 := rfl
@[go_sem] theorem tsz_13 : tsz 13 = some 2 := rfl
@[go_sem] theorem tsz_14 : tsz 14 = some 2 := rfl
@[go_sem] theorem tsz_21 : tsz 21 = some 1 := rfl
@[go_sem] theorem tsz_22 : tsz 22 = some 1 := rfl
@[go_sem] theorem tsz_23 : tsz 23 = some 1 := rfl
@[go_sem] theorem tsz_24 : tsz 24 = some 5 := rfl
@[go_sem] theorem tsz_25 : tsz 25 = some 5 := rfl
@[go_sem] theorem tsz_28 : tsz 28 = some 1 := rfl
@[go_sem] theorem tsz_29 : tsz 29 = some 5 := rfl
@[go_sem] theorem tsz_30 : tsz 30 = some 5 := rfl
@[go_sem] theorem tsz_34 : tsz 34 = some 1 := rfl
@[go_sem] theorem tsz_35 : tsz 35 = some 2 := rfl
@[go_sem] theorem tsz_36 : tsz 36 = some 2 := rfl
@[go_sem] theorem tsz_37 : tsz 37 = some 1 := rfl
@[go_sem] theorem tsz_38 : tsz 38 = some 2 := rfl
@[go_sem] theorem tsz_39 : tsz 39 = some 2 := rfl
@[go_sem] theorem tsz_40 : tsz 40 = some 1 := rfl
@[go_sem] theorem tsz_41 : tsz 41 = some 7 := rfl
@[go_sem] theorem tsz_42 : tsz 42 = some 7 := rfl
@[go_sem] theorem tsz_43 : tsz 43 = some 1 := rfl
@[go_sem] theorem tsz_44 : tsz 44 = some 1 := rfl
@[go_sem] theorem tsz_45 : tsz 45 = some 1 := rfl
@[go_sem] theorem tsz_46 : tsz 46 = some 1 := rfl
@[go_sem] theorem tsz_47 : tsz 47 = some 4 := rfl
@[go_sem] theorem tsz_48 : tsz 48 = some 4 := rfl
@[go_sem] theorem tsz_49 : tsz 49 = some 5 := rfl
@[go_sem] theorem tsz_50 : tsz 50 = some 5 := rfl
@[go_sem] theorem tsz_51 : tsz 51 = some 14 := rfl
@[go_sem] theorem tsz_52 : tsz 52 = some 14 := rfl
@[go_sem] theorem tsz_55 : tsz 55 = some 1 := rfl
@[go_sem] theorem tsz_56 : tsz 56 = some 2 := rfl
@[go_sem] theorem tsz_57 : tsz 57 = some 2 := rfl
@[go_sem] theorem tsz_58 : tsz 58 = some 1 := rfl
@[go_sem] theorem tsz_59 : tsz 59 = some 2 := rfl
@[go_sem] theorem tsz_60 : tsz 60 = some 2 := rfl
@[go_sem] theorem tsz_61 : tsz 61 = some 1 := rfl
@[go_sem] theorem tsz_62 : tsz 62 = some 7 := rfl
@[go_sem] theorem tsz_63 : tsz 63 = some 7 := rfl
@[go_sem] theorem tsz_64 : tsz 64 = some 1 := rfl
@[go_sem] theorem tsz_65 : tsz 65 = some 1 := rfl
@[go_sem] theorem tsz_66 : tsz 66 = some 1 := rfl
@[go_sem] theorem tsz_67 : tsz 67 = some 1 := rfl
@[go_sem] theorem tsz_68 : tsz 68 = some 4 := rfl
@[go_sem] theorem tsz_69 : tsz 69 = some 4 := rfl
@[go_sem] theorem tsz_70 : tsz 70 = some 5 := rfl
@[go_sem] theorem tsz_71 : tsz 71 = some 5 := rfl
@[go_sem] theorem tsz_72 : tsz 72 = some 14 := rfl
@[go_sem] theorem tsz_73 : tsz 73 = some 14 := rfl
@[go_sem] theorem tsz_80 : tsz 80 = some 2 := rfl
@[go_sem] theorem tsz_81 : tsz 81 = some 2 := rfl
@[go_sem] theorem tsz_89 : tsz 89 = some 1 := rfl
@[go_sem] theorem tsz_90 : tsz 90 = some 3 := rfl
@[go_sem] theorem tsz_91 : tsz 91 = some 3 := rfl
@[go_sem] theorem tsz_101 : tsz 101 = some 2 := rfl
@[go_sem] theorem tsz_108 : tsz 108 = some 2 := rfl
@[go_sem] theorem tsz_109 : tsz 109 = some 2 := rfl
@[go_sem] theorem tsz_120 : tsz 120 = some 1 := rfl
@[go_sem] theorem tsz_121 : tsz 121 = some 2 := rfl
@[go_sem] theorem tsz_122 : tsz 122 = some 2 := rfl
@[go_sem] theorem tsz_123 : tsz 123 = some 6 := rfl
@[go_sem] theorem tsz_124 : tsz 124 = some 6 := rfl
@[go_sem] theorem tsz_127 : tsz 127 = some 1 := rfl
@[go_sem] theorem tsz_128 : tsz 128 = some 2 := rfl
@[go_sem] theorem tsz_129 : tsz 129 = some 2 := rfl
@[go_sem] theorem tsz_132 : tsz 132 = some 1 := rfl
@[go_sem] theorem tsz_133 : tsz 133 = some 2 := rfl
@[go_sem] theorem tsz_134 : tsz 134 = some 2 := rfl
@[go_sem] theorem tsz_135 : tsz 135 = some 6 := rfl
@[go_sem] theorem tsz_136 : tsz 136 = some 6 := rfl
@[go_sem] theorem tsz_139 : tsz 139 = some 1 := rfl
@[go_sem] theorem tsz_140 : tsz 140 = some 2 := rfl
@[go_sem] theorem tsz_141 : tsz 141 = some 2 := rfl
@[go_sem] theorem tsz_153 : tsz 153 = some 5 := rfl
@[go_sem] theorem tsz_154 : tsz 154 = some 5 := rfl
@[go_sem] theorem tsz_158 : tsz 158 = some 5 := rfl
@[go_sem] theorem tsz_162 : tsz 162 = some 3 := rfl
@[go_sem] theorem tsz_163 : tsz 163 = some 3 := rfl
@[go_sem] theorem tsz_165 : tsz 165 = some 3 := rfl
@[go_sem] theorem tsz_173 : tsz 173 = some 1 := rfl
@[go_sem] theorem tsz_174 : tsz 174 = some 3 := rfl
@[go_sem] theorem tsz_175 : tsz 175 = some 3 := rfl
@[go_sem] theorem tsz_177 : tsz 177 = some 2 := rfl
@[go_sem] theorem tsz_178 : tsz 178 = some 2 := rfl
@[go_sem] theorem tsz_180 : tsz 180 = some 2 := rfl
@[go_sem] theorem tsz_186 : tsz 186 = some 1 := rfl
@[go_sem] theorem tsz_187 : tsz 187 = some 6 := rfl
@[go_sem] theorem tsz_188 : tsz 188 = some 6 := rfl
@[go_sem] theorem tsz_190 : tsz 190 = some 1 := rfl
@[go_sem] theorem tsz_191 : tsz 191 = some 6 := rfl
@[go_sem] theorem tsz_192 : tsz 192 = some 6 := rfl
@[go_sem] theorem tsz_199 : tsz 199 = some 2 := rfl
@[go_sem] theorem tsz_205 : tsz 205 = some 2 := rfl
@[go_sem] theorem tsz_206 : tsz 206 = some 2 := rfl
@[go_sem] theorem tsz_207 : tsz 207 = some 2 := rfl
@[go_sem] theorem tsz_217 : tsz 217 = some 1 := rfl
@[go_sem] theorem tsz_218 : tsz 218 = some 1 := rfl
@[go_sem] theorem tsz_219 : tsz 219 = some 1 := rfl
@[go_sem] theorem tsz_222 : tsz 222 = some 1 := rfl
@[go_sem] theorem tsz_223 : tsz 223 = some 1 := rfl
@[go_sem] theorem tby_2 : tby 2 = some 8 := rfl
@[go_sem] theorem tby_3 : tby 3 = some 8 := rfl
@[go_sem] theorem tby_4 : tby 4 = some 1 := rfl
@[go_sem] theorem tby_5 : tby 5 = some 1 := rfl
@[go_sem] theorem tby_6 : tby 6 = some 1 := rfl
@[go_sem] theorem tby_7 : tby 7 = some 24 := rfl
@[go_sem] theorem tby_8 : tby 8 = some 24 := rfl
@[go_sem] theorem tby_9 : tby 9 = some 16 := rfl
@[go_sem] theorem tby_10 : tby 10 = some 16 := rfl
@[go_sem] theorem tby_11 : tby 11 = some 16 := rfl
@[go_sem] theorem tby_12 : tby 12 = some 8 := rfl
@[go_sem] theorem tby_13 : tby 13 = some 24 := rfl
@[go_sem] theorem tby_14 : tby 14 = some 24 := rfl
@[go_sem] theorem tby_21 : tby 21 = some 4 := rfl
@[go_sem] theorem tby_22 : tby 22 = some 24 := rfl
@[go_sem] theorem tby_23 : tby 23 = some 24 := rfl
@[go_sem] theorem tby_24 : tby 24 = some 88 := rfl
@[go_sem] theorem tby_25 : tby 25 = some 88 := rfl
@[go_sem] theorem tby_28 : tby 28 = some 24 := rfl
@[go_sem] theorem tby_29 : tby 29 = some 88 := rfl
@[go_sem] theorem tby_30 : tby 30 = some 88 := rfl
@[go_sem] theorem tby_34 : tby 34 = some 24 := rfl
@[go_sem] theorem tby_35 : tby 35 = some 32 := rfl
@[go_sem] theorem tby_36 : tby 36 = some 32 := rfl
@[go_sem] theorem tby_37 : tby 37 = some 24 := rfl
@[go_sem] theorem tby_38 : tby 38 = some 32 := rfl
@[go_sem] theorem tby_39 : tby 39 = some 32 := rfl
@[go_sem] theorem tby_40 : tby 40 = some 24 := rfl
@[go_sem] theorem tby_41 : tby 41 = some 104 := rfl
@[go_sem] theorem tby_42 : tby 42 = some 104 := rfl
@[go_sem] theorem tby_43 : tby 43 = some 24 := rfl
@[go_sem] theorem tby_44 : tby 44 = some 24 := rfl
@[go_sem] theorem tby_45 : tby 45 = some 24 := rfl
@[go_sem] theorem tby_46 : tby 46 = some 24 := rfl
@[go_sem] theorem tby_47 : tby 47 = some 64 := rfl
@[go_sem] theorem tby_48 : tby 48 = some 64 := rfl
@[go_sem] theorem tby_49 : tby 49 = some 72 := rfl
@[go_sem] theorem tby_50 : tby 50 = some 72 := rfl
@[go_sem] theorem tby_51 : tby 51 = some 208 := rfl
@[go_sem] theorem tby_52 : tby 52 = some 208 := rfl
@[go_sem] theorem tby_55 : tby 55 = some 24 := rfl
@[go_sem] theorem tby_56 : tby 56 = some 32 := rfl
@[go_sem] theorem tby_57 : tby 57 = some 32 := rfl
@[go_sem] theorem tby_58 : tby 58 = some 24 := rfl
@[go_sem] theorem tby_59 : tby 59 = some 32 := rfl
@[go_sem] theorem tby_60 : tby 60 = some 32 := rfl
@[go_sem] theorem tby_61 : tby 61 = some 24 := rfl
@[go_sem] theorem tby_62 : tby 62 = some 104 := rfl
@[go_sem] theorem tby_63 : tby 63 = some 104 := rfl
@[go_sem] theorem tby_64 : tby 64 = some 24 := rfl
@[go_sem] theorem tby_65 : tby 65 = some 24 := rfl
@[go_sem] theorem tby_66 : tby 66 = some 24 := rfl
@[go_sem] theorem tby_67 : tby 67 = some 24 := rfl
@[go_sem] theorem tby_68 : tby 68 = some 64 := rfl
@[go_sem] theorem tby_69 : tby 69 = some 64 := rfl
@[go_sem] theorem tby_70 : tby 70 = some 72 := rfl
@[go_sem] theorem tby_71 : tby 71 = some 72 := rfl
@[go_sem] theorem tby_72 : tby 72 = some 208 := rfl
@[go_sem] theorem tby_73 : tby 73 = some 208 := rfl
@[go_sem] theorem tby_80 : tby 80 = some 32 := rfl
@[go_sem] theorem tby_81 : tby 81 = some 32 := rfl
@[go_sem] theorem tby_89 : tby 89 = some 24 := rfl
@[go_sem] theorem tby_90 : tby 90 = some 40 := rfl
@[go_sem] theorem tby_91 : tby 91 = some 40 := rfl
@[go_sem] theorem tby_101 : tby 101 = some 32 := rfl
@[go_sem] theorem tby_108 : tby 108 = some 32 := rfl
@[go_sem] theorem tby_109 : tby 109 = some 32 := rfl
@[go_sem] theorem tby_120 : tby 120 = some 24 := rfl
@[go_sem] theorem tby_121 : tby 121 = some 32 := rfl
@[go_sem] theorem tby_122 : tby 122 = some 32 := rfl
@[go_sem] theorem tby_123 : tby 123 = some 72 := rfl
@[go_sem] theorem tby_124 : tby 124 = some 72 := rfl
@[go_sem] theorem tby_127 : tby 127 = some 24 := rfl
@[go_sem] theorem tby_128 : tby 128 = some 32 := rfl
@[go_sem] theorem tby_129 : tby 129 = some 32 := rfl
@[go_sem] theorem tby_132 : tby 132 = some 24 := rfl
@[go_sem] theorem tby_133 : tby 133 = some 32 := rfl
@[go_sem] theorem tby_134 : tby 134 = some 32 := rfl
@[go_sem] theorem tby_135 : tby 135 = some 72 := rfl
@[go_sem] theorem tby_136 : tby 136 = some 72 := rfl
@[go_sem] theorem tby_139 : tby 139 = some 24 := rfl
@[go_sem] theorem tby_140 : tby 140 = some 32 := rfl
@[go_sem] theorem tby_141 : tby 141 = some 32 := rfl
@[go_sem] theorem tby_153 : tby 153 = some 48 := rfl
@[go_sem] theorem tby_154 : tby 154 = some 48 := rfl
@[go_sem] theorem tby_158 : tby 158 = some 48 := rfl
@[go_sem] theorem tby_162 : tby 162 = some 24 := rfl
@[go_sem] theorem tby_163 : tby 163 = some 24 := rfl
@[go_sem] theorem tby_165 : tby 165 = some 24 := rfl
@[go_sem] theorem tby_173 : tby 173 = some 24 := rfl
@[go_sem] theorem tby_174 : tby 174 = some 40 := rfl
@[go_sem] theorem tby_175 : tby 175 = some 40 := rfl
@[go_sem] theorem tby_177 : tby 177 = some 16 := rfl
@[go_sem] theorem tby_178 : tby 178 = some 16 := rfl
@[go_sem] theorem tby_180 : tby 180 = some 16 := rfl
@[go_sem] theorem tby_186 : tby 186 = some 24 := rfl
@[go_sem] theorem tby_187 : tby 187 = some 96 := rfl
@[go_sem] theorem tby_188 : tby 188 = some 96 := rfl
@[go_sem] theorem tby_190 : tby 190 = some 24 := rfl
@[go_sem] theorem tby_191 : tby 191 = some 96 := rfl
@[go_sem] theorem tby_192 : tby 192 = some 96 := rfl
@[go_sem] theorem tby_199 : tby 199 = some 32 := rfl
@[go_sem] theorem tby_205 : tby 205 = some 24 := rfl
@[go_sem] theorem tby_206 : tby 206 = some 24 := rfl
@[go_sem] theorem tby_207 : tby 207 = some 24 := rfl
@[go_sem] theorem tby_217 : tby 217 = some 4 := rfl
@[go_sem] theorem tby_218 : tby 218 = some 1 := rfl
@[go_sem] theorem tby_219 : tby 219 = some 1 := rfl
@[go_sem] theorem tby_222 : tby 222 = some 4 := rfl
@[go_sem] theorem tby_223 : tby 223 = some 4 := rfl
@[go_sem] theorem tag_2 : tag 2 = some false := rfl
@[go_sem] theorem tag_3 : tag 3 = some false := rfl
@[go_sem] theorem tag_4 : tag 4 = some false := rfl
@[go_sem] theorem tag_5 : tag 5 = some false := rfl
@[go_sem] theorem tag_6 : tag 6 = some false := rfl
@[go_sem] theorem tag_7 : tag 7 = some true := rfl
@[go_sem] theorem tag_8 : tag 8 = some true := rfl
@[go_sem] theorem tag_9 : tag 9 = some false := rfl
@[go_sem] theorem tag_10 : tag 10 = some false := rfl
@[go_sem] theorem tag_11 : tag 11 = some false := rfl
@[go_sem] theorem tag_12 : tag 12 = some false := rfl
@[go_sem] theorem tag_13 : tag 13 = some true := rfl
@[go_sem] theorem tag_14 : tag 14 = some true := rfl
@[go_sem] theorem tag_21 : tag 21 = some false := rfl
@[go_sem] theorem tag_22 : tag 22 = some false := rfl
@[go_sem] theorem tag_23 : tag 23 = some false := rfl
@[go_sem] theorem tag_24 : tag 24 = some true := rfl
@[go_sem] theorem tag_25 : tag 25 = some true := rfl
@[go_sem] theorem tag_28 : tag 28 = some false := rfl
@[go_sem] theorem tag_29 : tag 29 = some true := rfl
@[go_sem] theorem tag_30 : tag 30 = some true := rfl
@[go_sem] theorem tag_34 : tag 34 = some false := rfl
@[go_sem] theorem tag_35 : tag 35 = some true := rfl
@[go_sem] theorem tag_36 : tag 36 = some true := rfl
@[go_sem] theorem tag_37 : tag 37 = some false := rfl
@[go_sem] theorem tag_38 : tag 38 = some true := rfl
@[go_sem] theorem tag_39 : tag 39 = some true := rfl
@[go_sem] theorem tag_40 : tag 40 = some false := rfl
@[go_sem] theorem tag_41 : tag 41 = some true := rfl
@[go_sem] theorem tag_42 : tag 42 = some true := rfl
@[go_sem] theorem tag_43 : tag 43 = some false := rfl
@[go_sem] theorem tag_44 : tag 44 = some true := rfl
@[go_sem] theorem tag_45 : tag 45 = some true := rfl
@[go_sem] theorem tag_46 : tag 46 = some false := rfl
@[go_sem] theorem tag_47 : tag 47 = some true := rfl
@[go_sem] theorem tag_48 : tag 48 = some true := rfl
@[go_sem] theorem tag_49 : tag 49 = some true := rfl
@[go_sem] theorem tag_50 : tag 50 = some true := rfl
@[go_sem] theorem tag_51 : tag 51 = some true := rfl
@[go_sem] theorem tag_52 : tag 52 = some true := rfl
@[go_sem] theorem tag_55 : tag 55 = some false := rfl
@[go_sem] theorem tag_56 : tag 56 = some true := rfl
@[go_sem] theorem tag_57 : tag 57 = some true := rfl
@[go_sem] theorem tag_58 : tag 58 = some false := rfl
@[go_sem] theorem tag_59 : tag 59 = some true := rfl
@[go_sem] theorem tag_60 : tag 60 = some true := rfl
@[go_sem] theorem tag_61 : tag 61 = some false := rfl
@[go_sem] theorem tag_62 : tag 62 = some true := rfl
@[go_sem] theorem tag_63 : tag 63 = some true := rfl
@[go_sem] theorem tag_64 : tag 64 = some false := rfl
@[go_sem] theorem tag_65 : tag 65 = some true := rfl
@[go_sem] theorem tag_66 : tag 66 = some true := rfl
@[go_sem] theorem tag_67 : tag 67 = some false := rfl
@[go_sem] theorem tag_68 : tag 68 = some true := rfl
@[go_sem] theorem tag_69 : tag 69 = some true := rfl
@[go_sem] theorem tag_70 : tag 70 = some true := rfl
@[go_sem] theorem tag_71 : tag 71 = some true := rfl
@[go_sem] theorem tag_72 : tag 72 = some true := rfl
@[go_sem] theorem tag_73 : tag 73 = some true := rfl
@[go_sem] theorem tag_80 : tag 80 = some true := rfl
@[go_sem] theorem tag_81 : tag 81 = some true := rfl
@[go_sem] theorem tag_89 : tag 89 = some false := rfl
@[go_sem] theorem tag_90 : tag 90 = some true := rfl
@[go_sem] theorem tag_91 : tag 91 = some true := rfl
@[go_sem] theorem tag_101 : tag 101 = some true := rfl
@[go_sem] theorem tag_108 : tag 108 = some true := rfl
@[go_sem] theorem tag_109 : tag 109 = some true := rfl
@[go_sem] theorem tag_120 : tag 120 = some false := rfl
@[go_sem] theorem tag_121 : tag 121 = some true := rfl
@[go_sem] theorem tag_122 : tag 122 = some true := rfl
@[go_sem] theorem tag_123 : tag 123 = some true := rfl
@[go_sem] theorem tag_124 : tag 124 = some true := rfl
@[go_sem] theorem tag_127 : tag 127 = some false := rfl
@[go_sem] theorem tag_128 : tag 128 = some true := rfl
@[go_sem] theorem tag_129 : tag 129 = some true := rfl
@[go_sem] theorem tag_132 : tag 132 = some false := rfl
@[go_sem] theorem tag_133 : tag 133 = some true := rfl
@[go_sem] theorem tag_134 : tag 134 = some true := rfl
@[go_sem] theorem tag_135 : tag 135 = some true := rfl
@[go_sem] theorem tag_136 : tag 136 = some true := rfl
@[go_sem] theorem tag_139 : tag 139 = some false := rfl
@[go_sem] theorem tag_140 : tag 140 = some true := rfl
@[go_sem] theorem tag_141 : tag 141 = some true := rfl
@[go_sem] theorem tag_153 : tag 153 = some true := rfl
@[go_sem] theorem tag_154 : tag 154 = some true := rfl
@[go_sem] theorem tag_158 : tag 158 = some true := rfl
@[go_sem] theorem tag_162 : tag 162 = some true := rfl
@[go_sem] theorem tag_163 : tag 163 = some true := rfl
@[go_sem] theorem tag_165 : tag 165 = some true := rfl
@[go_sem] theorem tag_173 : tag 173 = some false := rfl
@[go_sem] theorem tag_174 : tag 174 = some true := rfl
@[go_sem] theorem tag_175 : tag 175 = some true := rfl
@[go_sem] theorem tag_177 : tag 177 = some true := rfl
@[go_sem] theorem tag_178 : tag 178 = some true := rfl
@[go_sem] theorem tag_180 : tag 180 = some true := rfl
@[go_sem] theorem tag_186 : tag 186 = some false := rfl
@[go_sem] theorem tag_187 : tag 187 = some true := rfl
@[go_sem] theorem tag_188 : tag 188 = some true := rfl
@[go_sem] theorem tag_190 : tag 190 = some false := rfl
@[go_sem] theorem tag_191 : tag 191 = some true := rfl
@[go_sem] theorem tag_192 : tag 192 = some true := rfl
@[go_sem] theorem tag_199 : tag 199 = some true := rfl
@[go_sem] theorem tag_205 : tag 205 = some true := rfl
@[go_sem] theorem tag_206 : tag 206 = some true := rfl
@[go_sem] theorem tag_207 : tag 207 = some true := rfl
@[go_sem] theorem tag_217 : tag 217 = some false := rfl
@[go_sem] theorem tag_218 : tag 218 = some false := rfl
@[go_sem] theorem tag_219 : tag 219 = some false := rfl
@[go_sem] theorem tag_222 : tag 222 = some false := rfl
@[go_sem] theorem tag_223 : tag 223 = some false := rfl
@[go_sem] theorem tzr_2 : tzr 2 = some [.i .i64 0] := rfl
@[go_sem] theorem tzr_3 : tzr 3 = some [.i .i64 0] := rfl
@[go_sem] theorem tzr_4 : tzr 4 = some [.b false] := rfl
@[go_sem] theorem tzr_5 : tzr 5 = some [.i .u8 0] := rfl
@[go_sem] theorem tzr_6 : tzr 6 = some [.i .u8 0] := rfl
@[go_sem] theorem tzr_7 : tzr 7 = some [.i .i64 0, .i .i64 0, .b false, .i .u8 0] := rfl
@[go_sem] theorem tzr_8 : tzr 8 = some [.i .i64 0, .i .i64 0, .b false, .i .u8 0] := rfl
@[go_sem] theorem tzr_9 : tzr 9 = some [.t ⟨#[]⟩] := rfl
@[go_sem] theorem tzr_10 : tzr 10 = some [.t ⟨#[]⟩] := rfl
@[go_sem] theorem tzr_11 : tzr 11 = some [.t ⟨#[]⟩] := rfl
@[go_sem] theorem tzr_12 : tzr 12 = some [.i .u64 0] := rfl
@[go_sem] theorem tzr_13 : tzr 13 = some [.t ⟨#[]⟩, .i .u64 0] := rfl
@[go_sem] theorem tzr_14 : tzr 14 = some [.t ⟨#[]⟩, .i .u64 0] := rfl
@[go_sem] theorem tzr_21 : tzr 21 = some [.i .i32 0] := rfl
@[go_sem] theorem tzr_22 : tzr 22 = some [.s 1 []] := rfl
@[go_sem] theorem tzr_23 : tzr 23 = some [.s 2 []] := rfl
@[go_sem] theorem tzr_24 : tzr 24 = some [.t ⟨#[]⟩, .i .i64 0, .s 1 [], .s 2 [], .t ⟨#[]⟩] := rfl
@[go_sem] theorem tzr_25 : tzr 25 = some [.t ⟨#[]⟩, .i .i64 0, .s 1 [], .s 2 [], .t ⟨#[]⟩] := rfl
@[go_sem] theorem tzr_28 : tzr 28 = some [.s 2 []] := rfl
@[go_sem] theorem tzr_29 : tzr 29 = some [.t ⟨#[]⟩, .i .i64 0, .s 1 [], .s 2 [], .t ⟨#[]⟩] := rfl
@[go_sem] theorem tzr_30 : tzr 30 = some [.t ⟨#[]⟩, .i .i64 0, .s 1 [], .s 2 [], .t ⟨#[]⟩] := rfl
@[go_sem] theorem tzr_34 : tzr 34 = some [.s 6 []] := rfl
@[go_sem] theorem tzr_35 : tzr 35 = some [.s 6 [], .i .i64 0] := rfl
@[go_sem] theorem tzr_36 : tzr 36 = some [.s 6 [], .i .i64 0] := rfl
@[go_sem] theorem tzr_37 : tzr 37 = some [.s 5 []] := rfl
@[go_sem] theorem tzr_38 : tzr 38 = some [.i .i64 0, .s 5 []] := rfl
@[go_sem] theorem tzr_39 : tzr 39 = some [.i .i64 0, .s 5 []] := rfl
@[go_sem] theorem tzr_40 : tzr 40 = some [.s 2 []] := rfl
@[go_sem] theorem tzr_41 : tzr 41 = some [.s 6 [], .i .i64 0, .i .i64 0, .s 5 [], .s 2 [], .i .i64 0, .i .i64 0] := rfl
@[go_sem] theorem tzr_42 : tzr 42 = some [.s 6 [], .i .i64 0, .i .i64 0, .s 5 [], .s 2 [], .i .i64 0, .i .i64 0] := rfl
@[go_sem] theorem tzr_43 : tzr 43 = some [.s 3 []] := rfl
@[go_sem] theorem tzr_44 : tzr 44 = some [.s 3 []] := rfl
@[go_sem] theorem tzr_45 : tzr 45 = some [.s 3 []] := rfl
@[go_sem] theorem tzr_46 : tzr 46 = some [.s 3 []] := rfl
@[go_sem] theorem tzr_47 : tzr 47 = some [.s 3 [], .i .i64 0, .s 3 [], .b false] := rfl
@[go_sem] theorem tzr_48 : tzr 48 = some [.s 3 [], .i .i64 0, .s 3 [], .b false] := rfl
@[go_sem] theorem tzr_49 : tzr 49 = some [.s 3 [], .i .i64 0, .s 3 [], .b false, .i .i64 0] := rfl
@[go_sem] theorem tzr_50 : tzr 50 = some [.s 3 [], .i .i64 0, .s 3 [], .b false, .i .i64 0] := rfl
@[go_sem] theorem tzr_51 : tzr 51 = some [.s 6 [], .i .i64 0, .s 6 [], .i .i64 0, .i .i64 0, .s 5 [], .s 2 [], .i .i64 0, .i .i64 0, .s 3 [], .i .i64 0, .s 3 [], .b false, .i .i64 0] := rfl
@[go_sem] theorem tzr_52 : tzr 52 = some [.s 6 [], .i .i64 0, .s 6 [], .i .i64 0, .i .i64 0, .s 5 [], .s 2 [], .i .i64 0, .i .i64 0, .s 3 [], .i .i64 0, .s 3 [], .b false, .i .i64 0] := rfl
@[go_sem] theorem tzr_55 : tzr 55 = some [.s 6 []] := rfl
@[go_sem] theorem tzr_56 : tzr 56 = some [.s 6 [], .i .i64 0] := rfl
@[go_sem] theorem tzr_57 : tzr 57 = some [.s 6 [], .i .i64 0] := rfl
@[go_sem] theorem tzr_58 : tzr 58 = some [.s 5 []] := rfl
@[go_sem] theorem tzr_59 : tzr 59 = some [.i .i64 0, .s 5 []] := rfl
@[go_sem] theorem tzr_60 : tzr 60 = some [.i .i64 0, .s 5 []] := rfl
@[go_sem] theorem tzr_61 : tzr 61 = some [.s 2 []] := rfl
@[go_sem] theorem tzr_62 : tzr 62 = some [.s 6 [], .i .i64 0, .i .i64 0, .s 5 [], .s 2 [], .i .i64 0, .i .i64 0] := rfl
@[go_sem] theorem tzr_63 : tzr 63 = some [.s 6 [], .i .i64 0, .i .i64 0, .s 5 [], .s 2 [], .i .i64 0, .i .i64 0] := rfl
@[go_sem] theorem tzr_64 : tzr 64 = some [.s 3 []] := rfl
@[go_sem] theorem tzr_65 : tzr 65 = some [.s 3 []] := rfl
@[go_sem] theorem tzr_66 : tzr 66 = some [.s 3 []] := rfl
@[go_sem] theorem tzr_67 : tzr 67 = some [.s 3 []] := rfl
@[go_sem] theorem tzr_68 : tzr 68 = some [.s 3 [], .i .i64 0, .s 3 [], .b false] := rfl
@[go_sem] theorem tzr_69 : tzr 69 = some [.s 3 [], .i .i64 0, .s 3 [], .b false] := rfl
@[go_sem] theorem tzr_70 : tzr 70 = some [.s 3 [], .i .i64 0, .s 3 [], .b false, .i .i64 0] := rfl
@[go_sem] theorem tzr_71 : tzr 71 = some [.s 3 [], .i .i64 0, .s 3 [], .b false, .i .i64 0] := rfl
@[go_sem] theorem tzr_72 : tzr 72 = some [.s 6 [], .i .i64 0, .s 6 [], .i .i64 0, .i .i64 0, .s 5 [], .s 2 [], .i .i64 0, .i .i64 0, .s 3 [], .i .i64 0, .s 3 [], .b false, .i .i64 0] := rfl
@[go_sem] theorem tzr_73 : tzr 73 = some [.s 6 [], .i .i64 0, .s 6 [], .i .i64 0, .i .i64 0, .s 5 [], .s 2 [], .i .i64 0, .i .i64 0, .s 3 [], .i .i64 0, .s 3 [], .b false, .i .i64 0] := rfl
@[go_sem] theorem tzr_80 : tzr 80 = some [.t ⟨#[]⟩, .t ⟨#[]⟩] := rfl
@[go_sem] theorem tzr_81 : tzr 81 = some [.t ⟨#[]⟩, .t ⟨#[]⟩] := rfl
@[go_sem] theorem tzr_89 : tzr 89 = some [.s 2 []] := rfl
@[go_sem] theorem tzr_90 : tzr 90 = some [.s 2 [], .i .i64 0, .b false] := rfl
@[go_sem] theorem tzr_91 : tzr 91 = some [.s 2 [], .i .i64 0, .b false] := rfl
@[go_sem] theorem tzr_101 : tzr 101 = some [.t ⟨#[]⟩, .t ⟨#[]⟩] := rfl
@[go_sem] theorem tzr_108 : tzr 108 = some [.b false, .s 1 []] := rfl
@[go_sem] theorem tzr_109 : tzr 109 = some [.b false, .s 1 []] := rfl
@[go_sem] theorem tzr_120 : tzr 120 = some [.s 6 []] := rfl
@[go_sem] theorem tzr_121 : tzr 121 = some [.s 6 [], .i .i64 0] := rfl
@[go_sem] theorem tzr_122 : tzr 122 = some [.s 6 [], .i .i64 0] := rfl
@[go_sem] theorem tzr_123 : tzr 123 = some [.i .i64 0, .t ⟨#[]⟩, .b false, .i .i64 0, .s 6 [], .i .i64 0] := rfl
@[go_sem] theorem tzr_124 : tzr 124 = some [.i .i64 0, .t ⟨#[]⟩, .b false, .i .i64 0, .s 6 [], .i .i64 0] := rfl
@[go_sem] theorem tzr_127 : tzr 127 = some [.s 2 []] := rfl
@[go_sem] theorem tzr_128 : tzr 128 = some [.i .i64 0, .s 2 []] := rfl
@[go_sem] theorem tzr_129 : tzr 129 = some [.i .i64 0, .s 2 []] := rfl
@[go_sem] theorem tzr_132 : tzr 132 = some [.s 6 []] := rfl
@[go_sem] theorem tzr_133 : tzr 133 = some [.s 6 [], .i .i64 0] := rfl
@[go_sem] theorem tzr_134 : tzr 134 = some [.s 6 [], .i .i64 0] := rfl
@[go_sem] theorem tzr_135 : tzr 135 = some [.i .i64 0, .t ⟨#[]⟩, .b false, .i .i64 0, .s 6 [], .i .i64 0] := rfl
@[go_sem] theorem tzr_136 : tzr 136 = some [.i .i64 0, .t ⟨#[]⟩, .b false, .i .i64 0, .s 6 [], .i .i64 0] := rfl
@[go_sem] theorem tzr_139 : tzr 139 = some [.s 2 []] := rfl
@[go_sem] theorem tzr_140 : tzr 140 = some [.i .i64 0, .s 2 []] := rfl
@[go_sem] theorem tzr_141 : tzr 141 = some [.i .i64 0, .s 2 []] := rfl
@[go_sem] theorem tzr_153 : tzr 153 = some [.i .i64 0, .t ⟨#[]⟩, .b false, .i .i64 0, .i .i64 0] := rfl
@[go_sem] theorem tzr_154 : tzr 154 = some [.i .i64 0, .t ⟨#[]⟩, .b false, .i .i64 0, .i .i64 0] := rfl
@[go_sem] theorem tzr_158 : tzr 158 = some [.i .i64 0, .t ⟨#[]⟩, .b false, .i .i64 0, .i .i64 0] := rfl
@[go_sem] theorem tzr_162 : tzr 162 = some [.i .i64 0, .i .i64 0, .i .i64 0] := rfl
@[go_sem] theorem tzr_163 : tzr 163 = some [.i .i64 0, .i .i64 0, .i .i64 0] := rfl
@[go_sem] theorem tzr_165 : tzr 165 = some [.i .i64 0, .i .i64 0, .i .i64 0] := rfl
@[go_sem] theorem tzr_173 : tzr 173 = some [.s 2 []] := rfl
@[go_sem] theorem tzr_174 : tzr 174 = some [.s 2 [], .i .i64 0, .b false] := rfl
@[go_sem] theorem tzr_175 : tzr 175 = some [.s 2 [], .i .i64 0, .b false] := rfl
@[go_sem] theorem tzr_177 : tzr 177 = some [.i .i64 0, .i .i64 0] := rfl
@[go_sem] theorem tzr_178 : tzr 178 = some [.i .i64 0, .i .i64 0] := rfl
@[go_sem] theorem tzr_180 : tzr 180 = some [.i .i64 0, .i .i64 0] := rfl
@[go_sem] theorem tzr_186 : tzr 186 = some [.s 2 []] := rfl
@[go_sem] theorem tzr_187 : tzr 187 = some [.i .i64 0, .i .i64 0, .i .i64 0, .s 1 [], .s 2 [], .s 2 []] := rfl
@[go_sem] theorem tzr_188 : tzr 188 = some [.i .i64 0, .i .i64 0, .i .i64 0, .s 1 [], .s 2 [], .s 2 []] := rfl
@[go_sem] theorem tzr_190 : tzr 190 = some [.s 2 []] := rfl
@[go_sem] theorem tzr_191 : tzr 191 = some [.i .i64 0, .i .i64 0, .i .i64 0, .s 1 [], .s 2 [], .s 2 []] := rfl
@[go_sem] theorem tzr_192 : tzr 192 = some [.i .i64 0, .i .i64 0, .i .i64 0, .s 1 [], .s 2 [], .s 2 []] := rfl
@[go_sem] theorem tzr_199 : tzr 199 = some [.b false, .s 1 []] := rfl
@[go_sem] theorem tzr_205 : tzr 205 = some [.t ⟨#[]⟩, .i .i64 0] := rfl
@[go_sem] theorem tzr_206 : tzr 206 = some [.t ⟨#[]⟩, .i .i64 0] := rfl
@[go_sem] theorem tzr_207 : tzr 207 = some [.t ⟨#[]⟩, .i .i64 0] := rfl
@[go_sem] theorem tzr_217 : tzr 217 = some [.i .u32 0] := rfl
@[go_sem] theorem tzr_218 : tzr 218 = some [.i .u8 0] := rfl
@[go_sem] theorem tzr_219 : tzr 219 = some [.i .u8 0] := rfl
@[go_sem] theorem tzr_222 : tzr 222 = some [.i .i32 0] := rfl
@[go_sem] theorem tzr_223 : tzr 223 = some [.i .i32 0] := rfl
@[go_sem] theorem tfs_7 : tfs 7 = [(0, 1), (1, 1), (2, 1), (3, 1)] := rfl
@[go_sem] theorem tfs_8 : tfs 8 = [(0, 1), (1, 1), (2, 1), (3, 1)] := rfl
@[go_sem] theorem tfs_13 : tfs 13 = [(0, 1), (1, 1)] := rfl
@[go_sem] theorem tfs_14 : tfs 14 = [(0, 1), (1, 1)] := rfl
@[go_sem] theorem tfs_24 : tfs 24 = [(0, 1), (1, 1), (2, 1), (3, 1), (4, 1)] := rfl
@[go_sem] theorem tfs_25 : tfs 25 = [(0, 1), (1, 1), (2, 1), (3, 1), (4, 1)] := rfl
@[go_sem] theorem tfs_29 : tfs 29 = [(0, 1), (1, 1), (2, 1), (3, 1), (4, 1)] := rfl
@[go_sem] theorem tfs_30 : tfs 30 = [(0, 1), (1, 1), (2, 1), (3, 1), (4, 1)] := rfl
@[go_sem] theorem tfs_35 : tfs 35 = [(0, 1), (1, 1)] := rfl
@[go_sem] theorem tfs_36 : tfs 36 = [(0, 1), (1, 1)] := rfl
@[go_sem] theorem tfs_38 : tfs 38 = [(0, 1), (1, 1)] := rfl
@[go_sem] theorem tfs_39 : tfs 39 = [(0, 1), (1, 1)] := rfl
@[go_sem] theorem tfs_41 : tfs 41 = [(0, 2), (2, 2), (4, 1), (5, 1), (6, 1)] := rfl
@[go_sem] theorem tfs_42 : tfs 42 = [(0, 2), (2, 2), (4, 1), (5, 1), (6, 1)] := rfl
@[go_sem] theorem tfs_44 : tfs 44 = [(0, 1)] := rfl
@[go_sem] theorem tfs_45 : tfs 45 = [(0, 1)] := rfl
@[go_sem] theorem tfs_47 : tfs 47 = [(0, 1), (1, 1), (2, 1), (3, 1)] := rfl
@[go_sem] theorem tfs_48 : tfs 48 = [(0, 1), (1, 1), (2, 1), (3, 1)] := rfl
@[go_sem] theorem tfs_49 : tfs 49 = [(0, 4), (4, 1)] := rfl
@[go_sem] theorem tfs_50 : tfs 50 = [(0, 4), (4, 1)] := rfl
@[go_sem] theorem tfs_51 : tfs 51 = [(0, 2), (2, 7), (9, 5)] := rfl
@[go_sem] theorem tfs_52 : tfs 52 = [(0, 2), (2, 7), (9, 5)] := rfl
@[go_sem] theorem tfs_56 : tfs 56 = [(0, 1), (1, 1)] := rfl
@[go_sem] theorem tfs_57 : tfs 57 = [(0, 1), (1, 1)] := rfl
@[go_sem] theorem tfs_59 : tfs 59 = [(0, 1), (1, 1)] := rfl
@[go_sem] theorem tfs_60 : tfs 60 = [(0, 1), (1, 1)] := rfl
@[go_sem] theorem tfs_62 : tfs 62 = [(0, 2), (2, 2), (4, 1), (5, 1), (6, 1)] := rfl
@[go_sem] theorem tfs_63 : tfs 63 = [(0, 2), (2, 2), (4, 1), (5, 1), (6, 1)] := rfl
@[go_sem] theorem tfs_65 : tfs 65 = [(0, 1)] := rfl
@[go_sem] theorem tfs_66 : tfs 66 = [(0, 1)] := rfl
@[go_sem] theorem tfs_68 : tfs 68 = [(0, 1), (1, 1), (2, 1), (3, 1)] := rfl
@[go_sem] theorem tfs_69 : tfs 69 = [(0, 1), (1, 1), (2, 1), (3, 1)] := rfl
@[go_sem] theorem tfs_70 : tfs 70 = [(0, 4), (4, 1)] := rfl
@[go_sem] theorem tfs_71 : tfs 71 = [(0, 4), (4, 1)] := rfl
@[go_sem] theorem tfs_72 : tfs 72 = [(0, 2), (2, 7), (9, 5)] := rfl
@[go_sem] theorem tfs_73 : tfs 73 = [(0, 2), (2, 7), (9, 5)] := rfl
@[go_sem] theorem tfs_80 : tfs 80 = [(0, 1), (1, 1)] := rfl
@[go_sem] theorem tfs_81 : tfs 81 = [(0, 1), (1, 1)] := rfl
@[go_sem] theorem tfs_90 : tfs 90 = [(0, 1), (1, 1), (2, 1)] := rfl
@[go_sem] theorem tfs_91 : tfs 91 = [(0, 1), (1, 1), (2, 1)] := rfl
@[go_sem] theorem tfs_101 : tfs 101 = [(0, 1), (1, 1)] := rfl
@[go_sem] theorem tfs_108 : tfs 108 = [(0, 1), (1, 1)] := rfl
@[go_sem] theorem tfs_109 : tfs 109 = [(0, 1), (1, 1)] := rfl
@[go_sem] theorem tfs_121 : tfs 121 = [(0, 1), (1, 1)] := rfl
@[go_sem] theorem tfs_122 : tfs 122 = [(0, 1), (1, 1)] := rfl
@[go_sem] theorem tfs_123 : tfs 123 = [(0, 1), (1, 1), (2, 1), (3, 1), (4, 2)] := rfl
@[go_sem] theorem tfs_124 : tfs 124 = [(0, 1), (1, 1), (2, 1), (3, 1), (4, 2)] := rfl
@[go_sem] theorem tfs_128 : tfs 128 = [(0, 1), (1, 1)] := rfl
@[go_sem] theorem tfs_129 : tfs 129 = [(0, 1), (1, 1)] := rfl
@[go_sem] theorem tfs_133 : tfs 133 = [(0, 1), (1, 1)] := rfl
@[go_sem] theorem tfs_134 : tfs 134 = [(0, 1), (1, 1)] := rfl
@[go_sem] theorem tfs_135 : tfs 135 = [(0, 1), (1, 1), (2, 1), (3, 1), (4, 2)] := rfl
@[go_sem] theorem tfs_136 : tfs 136 = [(0, 1), (1, 1), (2, 1), (3, 1), (4, 2)] := rfl
@[go_sem] theorem tfs_140 : tfs 140 = [(0, 1), (1, 1)] := rfl
@[go_sem] theorem tfs_141 : tfs 141 = [(0, 1), (1, 1)] := rfl
@[go_sem] theorem tfs_153 : tfs 153 = [(0, 1), (1, 1), (2, 1), (3, 1), (4, 1)] := rfl
@[go_sem] theorem tfs_154 : tfs 154 = [(0, 1), (1, 1), (2, 1), (3, 1), (4, 1)] := rfl
@[go_sem] theorem tfs_158 : tfs 158 = [(0, 1), (1, 1), (2, 1), (3, 1), (4, 1)] := rfl
@[go_sem] theorem tfs_162 : tfs 162 = [(0, 1), (1, 1), (2, 1)] := rfl
@[go_sem] theorem tfs_163 : tfs 163 = [(0, 1), (1, 1), (2, 1)] := rfl
@[go_sem] theorem tfs_165 : tfs 165 = [(0, 1), (1, 1), (2, 1)] := rfl
@[go_sem] theorem tfs_174 : tfs 174 = [(0, 1), (1, 1), (2, 1)] := rfl
@[go_sem] theorem tfs_175 : tfs 175 = [(0, 1), (1, 1), (2, 1)] := rfl
@[go_sem] theorem tfs_177 : tfs 177 = [(0, 1), (1, 1)] := rfl
@[go_sem] theorem tfs_178 : tfs 178 = [(0, 1), (1, 1)] := rfl
@[go_sem] theorem tfs_180 : tfs 180 = [(0, 1), (1, 1)] := rfl
@[go_sem] theorem tfs_187 : tfs 187 = [(0, 1), (1, 1), (2, 1), (3, 1), (4, 1), (5, 1)] := rfl
@[go_sem] theorem tfs_188 : tfs 188 = [(0, 1), (1, 1), (2, 1), (3, 1), (4, 1), (5, 1)] := rfl
@[go_sem] theorem tfs_191 : tfs 191 = [(0, 1), (1, 1), (2, 1), (3, 1), (4, 1), (5, 1)] := rfl
@[go_sem] theorem tfs_192 : tfs 192 = [(0, 1), (1, 1), (2, 1), (3, 1), (4, 1), (5, 1)] := rfl
@[go_sem] theorem tfs_199 : tfs 199 = [(0, 1), (1, 1)] := rfl
@[go_sem] theorem tfs_205 : tfs 205 = [(0, 1), (1, 1)] := rfl
@[go_sem] theorem tfs_206 : tfs 206 = [(0, 1), (1, 1)] := rfl
@[go_sem] theorem tfs_207 : tfs 207 = [(0, 1), (1, 1)] := rfl
@[go_sem] theorem tik_2 : tik 2 = some .i64 := rfl
@[go_sem] theorem tik_3 : tik 3 = some .i64 := rfl
@[go_sem] theorem tik_4 : tik 4 = none := rfl
@[go_sem] theorem tik_5 : tik 5 = some .u8 := rfl
@[go_sem] theorem tik_6 : tik 6 = some .u8 := rfl
@[go_sem] theorem tik_7 : tik 7 = none := rfl
@[go_sem] theorem tik_8 : tik 8 = none := rfl
@[go_sem] theorem tik_9 : tik 9 = none := rfl
@[go_sem] theorem tik_10 : tik 10 = none := rfl
@[go_sem] theorem tik_11 : tik 11 = none := rfl
@[go_sem] theorem tik_12 : tik 12 = some .u64 := rfl
@[go_sem] theorem tik_13 : tik 13 = none := rfl
@[go_sem] theorem tik_14 : tik 14 = none := rfl
@[go_sem] theorem tik_21 : tik 21 = some .i32 := rfl
@[go_sem] theorem tik_22 : tik 22 = none := rfl
@[go_sem] theorem tik_23 : tik 23 = none := rfl
@[go_sem] theorem tik_24 : tik 24 = none := rfl
@[go_sem] theorem tik_25 : tik 25 = none := rfl
@[go_sem] theorem tik_28 : tik 28 = none := rfl
@[go_sem] theorem tik_29 : tik 29 = none := rfl
@[go_sem] theorem tik_30 : tik 30 = none := rfl
@[go_sem] theorem tik_34 : tik 34 = none := rfl
@[go_sem] theorem tik_35 : tik 35 = none := rfl
@[go_sem] theorem tik_36 : tik 36 = none := rfl
@[go_sem] theorem tik_37 : tik 37 = none := rfl
@[go_sem] theorem tik_38 : tik 38 = none := rfl
@[go_sem] theorem tik_39 : tik 39 = none := rfl
@[go_sem] theorem tik_40 : tik 40 = none := rfl
@[go_sem] theorem tik_41 : tik 41 = none := rfl
@[go_sem] theorem tik_42 : tik 42 = none := rfl
@[go_sem] theorem tik_43 : tik 43 = none := rfl
@[go_sem] theorem tik_44 : tik 44 = none := rfl
@[go_sem] theorem tik_45 : tik 45 = none := rfl
@[go_sem] theorem tik_46 : tik 46 = none := rfl
@[go_sem] theorem tik_47 : tik 47 = none := rfl
@[go_sem] theorem tik_48 : tik 48 = none := rfl
@[go_sem] theorem tik_49 : tik 49 = none := rfl
@[go_sem] theorem tik_50 : tik 50 = none := rfl
@[go_sem] theorem tik_51 : tik 51 = none := rfl
@[go_sem] theorem tik_52 : tik 52 = none := rfl
@[go_sem] theorem tik_55 : tik 55 = none := rfl
@[go_sem] theorem tik_56 : tik 56 = none := rfl
@[go_sem] theorem tik_57 : tik 57 = none := rfl
@[go_sem] theorem tik_58 : tik 58 = none := rfl
@[go_sem] theorem tik_59 : tik 59 = none := rfl
@[go_sem] theorem tik_60 : tik 60 = none := rfl
@[go_sem] theorem tik_61 : tik 61 = none := rfl
@[go_sem] theorem tik_62 : tik 62 = none := rfl
@[go_sem] theorem tik_63 : tik 63 = none := rfl
@[go_sem] theorem tik_64 : tik 64 = none := rfl
@[go_sem] theorem tik_65 : tik 65 = none := rfl
@[go_sem] theorem tik_66 : tik 66 = none := rfl
@[go_sem] theorem tik_67 : tik 67 = none := rfl
@[go_sem] theorem tik_68 : tik 68 = none := rfl
@[go_sem] theorem tik_69 : tik 69 = none := rfl
@[go_sem] theorem tik_70 : tik 70 = none := rfl
@[go_sem] theorem tik_71 : tik 71 = none := rfl
@[go_sem] theorem tik_72 : tik 72 = none := rfl
@[go_sem] theorem tik_73 : tik 73 = none := rfl
@[go_sem] theorem tik_80 : tik 80 = none := rfl
@[go_sem] theorem tik_81 : tik 81 = none := rfl
@[go_sem] theorem tik_89 : tik 89 = none := rfl
@[go_sem] theorem tik_90 : tik 90 = none := rfl
@[go_sem] theorem tik_91 : tik 91 = none := rfl
@[go_sem] theorem tik_101 : tik 101 = none := rfl
@[go_sem] theorem tik_108 : tik 108 = none := rfl
@[go_sem] theorem tik_109 : tik 109 = none := rfl
@[go_sem] theorem tik_120 : tik 120 = none := rfl
@[go_sem] theorem tik_121 : tik 121 = none := rfl
@[go_sem] theorem tik_122 : tik 122 = none := rfl
@[go_sem] theorem tik_123 : tik 123 = none := rfl
@[go_sem] theorem tik_124 : tik 124 = none := rfl
@[go_sem] theorem tik_127 : tik 127 = none := rfl
@[go_sem] theorem tik_128 : tik 128 = none := rfl
@[go_sem] theorem tik_129 : tik 129 = none := rfl
@[go_sem] theorem tik_132 : tik 132 = none := rfl
@[go_sem] theorem tik_133 : tik 133 = none := rfl
@[go_sem] theorem tik_134 : tik 134 = none := rfl
@[go_sem] theorem tik_135 : tik 135 = none := rfl
@[go_sem] theorem tik_136 : tik 136 = none := rfl
@[go_sem] theorem tik_139 : tik 139 = none := rfl
@[go_sem] theorem tik_140 : tik 140 = none := rfl
@[go_sem] theorem tik_141 : tik 141 = none := rfl
@[go_sem] theorem tik_153 : tik 153 = none := rfl
@[go_sem] theorem tik_154 : tik 154 = none := rfl
@[go_sem] theorem tik_158 : tik 158 = none := rfl
@[go_sem] theorem tik_162 : tik 162 = none := rfl
@[go_sem] theorem tik_163 : tik 163 = none := rfl
@[go_sem] theorem tik_165 : tik 165 = none := rfl
@[go_sem] theorem tik_173 : tik 173 = none := rfl
@[go_sem] theorem tik_174 : tik 174 = none := rfl
@[go_sem] theorem tik_175 : tik 175 = none := rfl
@[go_sem] theorem tik_177 : tik 177 = none := rfl
@[go_sem] theorem tik_178 : tik 178 = none := rfl
@[go_sem] theorem tik_180 : tik 180 = none := rfl
@[go_sem] theorem tik_186 : tik 186 = none := rfl
@[go_sem] theorem tik_187 : tik 187 = none := rfl
@[go_sem] theorem tik_188 : tik 188 = none := rfl
@[go_sem] theorem tik_190 : tik 190 = none := rfl
@[go_sem] theorem tik_191 : tik 191 = none := rfl
@[go_sem] theorem tik_192 : tik 192 = none := rfl
@[go_sem] theorem tik_199 : tik 199 = none := rfl
@[go_sem] theorem tik_205 : tik 205 = none := rfl
@[go_sem] theorem tik_206 : tik 206 = none := rfl
@[go_sem] theorem tik_207 : tik 207 = none := rfl
@[go_sem] theorem tik_217 : tik 217 = some .u32 := rfl
@[go_sem] theorem tik_218 : tik 218 = some .u8 := rfl
@[go_sem] theorem tik_219 : tik 219 = some .u8 := rfl
@[go_sem] theorem tik_222 : tik 222 = some .i32 := rfl
@[go_sem] theorem tik_223 : tik 223 = some .i32 := rfl
@[go_sem] theorem tst_2 : tst 2 = false := rfl
@[go_sem] theorem tst_3 : tst 3 = false := rfl
@[go_sem] theorem tst_4 : tst 4 = false := rfl
@[go_sem] theorem tst_5 : tst 5 = false := rfl
@[go_sem] theorem tst_6 : tst 6 = false := rfl
@[go_sem] theorem tst_7 : tst 7 = false := rfl
@[go_sem] theorem tst_8 : tst 8 = false := rfl
@[go_sem] theorem tst_9 : tst 9 = true := rfl
@[go_sem] theorem tst_10 : tst 10 = true := rfl
@[go_sem] theorem tst_11 : tst 11 = true := rfl
@[go_sem] theorem tst_12 : tst 12 = false := rfl
@[go_sem] theorem tst_13 : tst 13 = false := rfl
@[go_sem] theorem tst_14 : tst 14 = false := rfl
@[go_sem] theorem tst_21 : tst 21 = false := rfl
@[go_sem] theorem tst_22 : tst 22 = false := rfl
@[go_sem] theorem tst_23 : tst 23 = false := rfl
@[go_sem] theorem tst_24 : tst 24 = false := rfl
@[go_sem] theorem tst_25 : tst 25 = false := rfl
@[go_sem] theorem tst_28 : tst 28 = false := rfl
@[go_sem] theorem tst_29 : tst 29 = false := rfl
@[go_sem] theorem tst_30 : tst 30 = false := rfl
@[go_sem] theorem tst_34 : tst 34 = false := rfl
@[go_sem] theorem tst_35 : tst 35 = false := rfl
@[go_sem] theorem tst_36 : tst 36 = false := rfl
@[go_sem] theorem tst_37 : tst 37 = false := rfl
@[go_sem] theorem tst_38 : tst 38 = false := rfl
@[go_sem] theorem tst_39 : tst 39 = false := rfl
@[go_sem] theorem tst_40 : tst 40 = false := rfl
@[go_sem] theorem tst_41 : tst 41 = false := rfl
@[go_sem] theorem tst_42 : tst 42 = false := rfl
@[go_sem] theorem tst_43 : tst 43 = false := rfl
@[go_sem] theorem tst_44 : tst 44 = false := rfl
@[go_sem] theorem tst_45 : tst 45 = false := rfl
@[go_sem] theorem tst_46 : tst 46 = false := rfl
@[go_sem] theorem tst_47 : tst 47 = false := rfl
@[go_sem] theorem tst_48 : tst 48 = false := rfl
@[go_sem] theorem tst_49 : tst 49 = false := rfl
@[go_sem] theorem tst_50 : tst 50 = false := rfl
@[go_sem] theorem tst_51 : tst 51 = false := rfl
@[go_sem] theorem tst_52 : tst 52 = false := rfl
@[go_sem] theorem tst_55 : tst 55 = false := rfl
@[go_sem] theorem tst_56 : tst 56 = false := rfl
@[go_sem] theorem tst_57 : tst 57 = false := rfl
@[go_sem] theorem tst_58 : tst 58 = false := rfl
@[go_sem] theorem tst_59 : tst 59 = false := rfl
@[go_sem] theorem tst_60 : tst 60 = false := rfl
@[go_sem] theorem tst_61 : tst 61 = false := rfl
@[go_sem] theorem tst_62 : tst 62 = false := rfl
@[go_sem] theorem tst_63 : tst 63 = false := rfl
@[go_sem] theorem tst_64 : tst 64 = false := rfl
@[go_sem] theorem tst_65 : tst 65 = false := rfl
@[go_sem] theorem tst_66 : tst 66 = false := rfl
@[go_sem] theorem tst_67 : tst 67 = false := rfl
@[go_sem] theorem tst_68 : tst 68 = false := rfl
@[go_sem] theorem tst_69 : tst 69 = false := rfl
@[go_sem] theorem tst_70 : tst 70 = false := rfl
@[go_sem] theorem tst_71 : tst 71 = false := rfl
@[go_sem] theorem tst_72 : tst 72 = false := rfl
@[go_sem] theorem tst_73 : tst 73 = false := rfl
@[go_sem] theorem tst_80 : tst 80 = false := rfl
@[go_sem] theorem tst_81 : tst 81 = false := rfl
@[go_sem] theorem tst_89 : tst 89 = false := rfl
@[go_sem] theorem tst_90 : tst 90 = false := rfl
@[go_sem] theorem tst_91 : tst 91 = false := rfl
@[go_sem] theorem tst_101 : tst 101 = false := rfl
@[go_sem] theorem tst_108 : tst 108 = false := rfl
@[go_sem] theorem tst_109 : tst 109 = false := rfl
@[go_sem] theorem tst_120 : tst 120 = false := rfl
@[go_sem] theorem tst_121 : tst 121 = false := rfl
@[go_sem] theorem tst_122 : tst 122 = false := rfl
@[go_sem] theorem tst_123 : tst 123 = false := rfl
@[go_sem] theorem tst_124 : tst 124 = false := rfl
@[go_sem] theorem tst_127 : tst 127 = false := rfl
@[go_sem] theorem tst_128 : tst 128 = false := rfl
@[go_sem] theorem tst_129 : tst 129 = false := rfl
@[go_sem] theorem tst_132 : tst 132 = false := rfl
@[go_sem] theorem tst_133 : tst 133 = false := rfl
@[go_sem] theorem tst_134 : tst 134 = false := rfl
@[go_sem] theorem tst_135 : tst 135 = false := rfl
@[go_sem] theorem tst_136 : tst 136 = false := rfl
@[go_sem] theorem tst_139 : tst 139 = false := rfl
@[go_sem] theorem tst_140 : tst 140 = false := rfl
@[go_sem] theorem tst_141 : tst 141 = false := rfl
@[go_sem] theorem tst_153 : tst 153 = false := rfl
@[go_sem] theorem tst_154 : tst 154 = false := rfl
@[go_sem] theorem tst_158 : tst 158 = false := rfl
@[go_sem] theorem tst_162 : tst 162 = false := rfl
@[go_sem] theorem tst_163 : tst 163 = false := rfl
@[go_sem] theorem tst_165 : tst 165 = false := rfl
@[go_sem] theorem tst_173 : tst 173 = false := rfl
@[go_sem] theorem tst_174 : tst 174 = false := rfl
@[go_sem] theorem tst_175 : tst 175 = false := rfl
@[go_sem] theorem tst_177 : tst 177 = false := rfl
@[go_sem] theorem tst_178 : tst 178 = false := rfl
@[go_sem] theorem tst_180 : tst 180 = false := rfl
@[go_sem] theorem tst_186 : tst 186 = false := rfl
@[go_sem] theorem tst_187 : tst 187 = false := rfl
@[go_sem] theorem tst_188 : tst 188 = false := rfl
@[go_sem] theorem tst_190 : tst 190 = false := rfl
@[go_sem] theorem tst_191 : tst 191 = false := rfl
@[go_sem] theorem tst_192 : tst 192 = false := rfl
@[go_sem] theorem tst_199 : tst 199 = false := rfl
@[go_sem] theorem tst_205 : tst 205 = false := rfl
@[go_sem] theorem tst_206 : tst 206 = false := rfl
@[go_sem] theorem tst_207 : tst 207 = false := rfl
@[go_sem] theorem tst_217 : tst 217 = false := rfl
@[go_sem] theorem tst_218 : tst 218 = false := rfl
@[go_sem] theorem tst_219 : tst 219 = false := rfl
@[go_sem] theorem tst_222 : tst 222 = false := rfl
@[go_sem] theorem tst_223 : tst 223 = false := rfl
@[go_sem] theorem tbo_2 : tbo 2 = false := rfl
@[go_sem] theorem tbo_3 : tbo 3 = false := rfl
@[go_sem] theorem tbo_4 : tbo 4 = true := rfl
@[go_sem] theorem tbo_5 : tbo 5 = false := rfl
@[go_sem] theorem tbo_6 : tbo 6 = false := rfl
@[go_sem] theorem tbo_7 : tbo 7 = false := rfl
@[go_sem] theorem tbo_8 : tbo 8 = false := rfl
@[go_sem] theorem tbo_9 : tbo 9 = false := rfl
@[go_sem] theorem tbo_10 : tbo 10 = false := rfl
@[go_sem] theorem tbo_11 : tbo 11 = false := rfl
@[go_sem] theorem tbo_12 : tbo 12 = false := rfl
@[go_sem] theorem tbo_13 : tbo 13 = false := rfl
@[go_sem] theorem tbo_14 : tbo 14 = false := rfl
@[go_sem] theorem tbo_21 : tbo 21 = false := rfl
@[go_sem] theorem tbo_22 : tbo 22 = false := rfl
@[go_sem] theorem tbo_23 : tbo 23 = false := rfl
@[go_sem] theorem tbo_24 : tbo 24 = false := rfl
@[go_sem] theorem tbo_25 : tbo 25 = false := rfl
@[go_sem] theorem tbo_28 : tbo 28 = false := rfl
@[go_sem] theorem tbo_29 : tbo 29 = false := rfl
@[go_sem] theorem tbo_30 : tbo 30 = false := rfl
@[go_sem] theorem tbo_34 : tbo 34 = false := rfl
@[go_sem] theorem tbo_35 : tbo 35 = false := rfl
@[go_sem] theorem tbo_36 : tbo 36 = false := rfl
@[go_sem] theorem tbo_37 : tbo 37 = false := rfl
@[go_sem] theorem tbo_38 : tbo 38 = false := rfl
@[go_sem] theorem tbo_39 : tbo 39 = false := rfl
@[go_sem] theorem tbo_40 : tbo 40 = false := rfl
@[go_sem] theorem tbo_41 : tbo 41 = false := rfl
@[go_sem] theorem tbo_42 : tbo 42 = false := rfl
@[go_sem] theorem tbo_43 : tbo 43 = false := rfl
@[go_sem] theorem tbo_44 : tbo 44 = false := rfl
@[go_sem] theorem tbo_45 : tbo 45 = false := rfl
@[go_sem] theorem tbo_46 : tbo 46 = false := rfl
@[go_sem] theorem tbo_47 : tbo 47 = false := rfl
@[go_sem] theorem tbo_48 : tbo 48 = false := rfl
@[go_sem] theorem tbo_49 : tbo 49 = false := rfl
@[go_sem] theorem tbo_50 : tbo 50 = false := rfl
@[go_sem] theorem tbo_51 : tbo 51 = false := rfl
@[go_sem] theorem tbo_52 : tbo 52 = false := rfl
@[go_sem] theorem tbo_55 : tbo 55 = false := rfl
@[go_sem] theorem tbo_56 : tbo 56 = false := rfl
@[go_sem] theorem tbo_57 : tbo 57 = false := rfl
@[go_sem] theorem tbo_58 : tbo 58 = false := rfl
@[go_sem] theorem tbo_59 : tbo 59 = false := rfl
@[go_sem] theorem tbo_60 : tbo 60 = false := rfl
@[go_sem] theorem tbo_61 : tbo 61 = false := rfl
@[go_sem] theorem tbo_62 : tbo 62 = false := rfl
@[go_sem] theorem tbo_63 : tbo 63 = false := rfl
@[go_sem] theorem tbo_64 : tbo 64 = false := rfl
@[go_sem] theorem tbo_65 : tbo 65 = false := rfl
@[go_sem] theorem tbo_66 : tbo 66 = false := rfl
@[go_sem] theorem tbo_67 : tbo 67 = false := rfl
@[go_sem] theorem tbo_68 : tbo 68 = false := rfl
@[go_sem] theorem tbo_69 : tbo 69 = false := rfl
@[go_sem] theorem tbo_70 : tbo 70 = false := rfl
@[go_sem] theorem tbo_71 : tbo 71 = false := rfl
@[go_sem] theorem tbo_72 : tbo 72 = false := rfl
@[go_sem] theorem tbo_73 : tbo 73 = false := rfl
@[go_sem] theorem tbo_80 : tbo 80 = false := rfl
@[go_sem] theorem tbo_81 : tbo 81 = false := rfl
@[go_sem] theorem tbo_89 : tbo 89 = false := rfl
@[go_sem] theorem tbo_90 : tbo 90 = false := rfl
@[go_sem] theorem tbo_91 : tbo 91 = false := rfl
@[go_sem] theorem tbo_101 : tbo 101 = false := rfl
@[go_sem] theorem tbo_108 : tbo 108 = false := rfl
@[go_sem] theorem tbo_109 : tbo 109 = false := rfl
@[go_sem] theorem tbo_120 : tbo 120 = false := rfl
@[go_sem] theorem tbo_121 : tbo 121 = false := rfl
@[go_sem] theorem tbo_122 : tbo 122 = false := rfl
@[go_sem] theorem tbo_123 : tbo 123 = false := rfl
@[go_sem] theorem tbo_124 : tbo 124 = false := rfl
@[go_sem] theorem tbo_127 : tbo 127 = false := rfl
@[go_sem] theorem tbo_128 : tbo 128 = false := rfl
@[go_sem] theorem tbo_129 : tbo 129 = false := rfl
@[go_sem] theorem tbo_132 : tbo 132 = false := rfl
@[go_sem] theorem tbo_133 : tbo 133 = false := rfl
@[go_sem] theorem tbo_134 : tbo 134 = false := rfl
@[go_sem] theorem tbo_135 : tbo 135 = false := rfl
@[go_sem] theorem tbo_136 : tbo 136 = false := rfl
@[go_sem] theorem tbo_139 : tbo 139 = false := rfl
@[go_sem] theorem tbo_140 : tbo 140 = false := rfl
@[go_sem] theorem tbo_141 : tbo 141 = false := rfl
@[go_sem] theorem tbo_153 : tbo 153 = false := rfl
@[go_sem] theorem tbo_154 : tbo 154 = false := rfl
@[go_sem] theorem tbo_158 : tbo 158 = false := rfl
@[go_sem] theorem tbo_162 : tbo 162 = false := rfl
@[go_sem] theorem tbo_163 : tbo 163 = false := rfl
@[go_sem] theorem tbo_165 : tbo 165 = false := rfl
@[go_sem] theorem tbo_173 : tbo 173 = false := rfl
@[go_sem] theorem tbo_174 : tbo 174 = false := rfl
@[go_sem] theorem tbo_175 : tbo 175 = false := rfl
@[go_sem] theorem tbo_177 : tbo 177 = false := rfl
@[go_sem] theorem tbo_178 : tbo 178 = false := rfl
@[go_sem] theorem tbo_180 : tbo 180 = false := rfl
@[go_sem] theorem tbo_186 : tbo 186 = false := rfl
@[go_sem] theorem tbo_187 : tbo 187 = false := rfl
@[go_sem] theorem tbo_188 : tbo 188 = false := rfl
@[go_sem] theorem tbo_190 : tbo 190 = false := rfl
@[go_sem] theorem tbo_191 : tbo 191 = false := rfl
@[go_sem] theorem tbo_192 : tbo 192 = false := rfl
@[go_sem] theorem tbo_199 : tbo 199 = false := rfl
@[go_sem] theorem tbo_205 : tbo 205 = false := rfl
@[go_sem] theorem tbo_206 : tbo 206 = false := rfl
@[go_sem] theorem tbo_207 : tbo 207 = false := rfl
@[go_sem] theorem tbo_217 : tbo 217 = false := rfl
@[go_sem] theorem tbo_218 : tbo 218 = false := rfl
@[go_sem] theorem tbo_219 : tbo 219 = false := rfl
@[go_sem] theorem tbo_222 : tbo 222 = false := rfl
@[go_sem] theorem tbo_223 : tbo 223 = false := rfl
@[go_sem] theorem dead_6_8 : dead 6 8 = [0, 2, 5, 6, 7, 8, 9, 10, 11, 12, 13, 14, 15, 16, 17, 18, 19, 20, 21, 22, 23, 24, 25, 26, 27, 28, 29, 30, 31, 32, 33, 34, 35, 36, 37, 38, 39, 40, 41, 42, 43, 44, 45, 46, 47, 48, 49, 50, 51, 52, 53] := rfl
@[go_sem] theorem dead_8_8 : dead 8 8 = [0, 2, 4, 5, 6, 7, 8, 9, 10, 11, 12, 13, 14, 15, 16, 17, 18, 19, 20, 21, 22, 23, 24, 25, 26, 27, 28, 29, 30, 34, 35, 36, 37, 38, 39, 40, 41, 42, 43, 44, 45, 46, 47] := rfl
@[go_sem] theorem dead_11_3 : dead 11 3 = [0, 2, 5, 6, 7, 8, 9, 10, 11, 12, 13, 14, 15, 16, 17, 18, 19, 20, 21, 22, 23, 24, 25, 26, 27, 28, 29, 30, 31, 32, 33, 34, 35] := rfl
@[go_sem] theorem dead_13_3 : dead 13 3 = [0, 2, 4, 5, 6, 7, 8, 9, 13, 14, 15, 16, 17, 18, 19, 20, 21, 22, 23, 24, 25, 26, 27, 28, 29, 30, 31, 32, 33] := rfl
@[go_sem] theorem dead_16_5 : dead 16 5 = [2, 3, 4, 6, 7, 8, 9, 10, 11, 12, 13, 14, 15, 16, 17, 18, 19, 20, 21, 22, 23, 24, 25, 26] := rfl
@[go_sem] theorem dead_18_3 : dead 18 3 = [1, 2, 5, 6, 7, 8, 9, 10, 11, 12, 13, 14, 15, 16, 17, 18, 19, 20, 21] := rfl
@[go_sem] theorem dead_19_3 : dead 19 3 = [1, 2, 5, 6, 7, 8, 9, 10, 11, 12, 13, 14, 15, 16, 17, 18, 19, 20, 21, 22] := rfl
@[go_sem] theorem dead_21_4 : dead 21 4 = [2, 3, 4, 6, 7, 8, 9, 10, 11, 12, 13, 14, 15, 16, 17, 18, 19, 20, 21, 22, 23, 24, 25] := rfl
@[go_sem] theorem dead_22_4 : dead 22 4 = [2, 3, 4, 6, 7, 8, 9, 10, 11, 12, 13, 14, 15, 16, 17, 18, 19, 20, 21, 22, 23, 24, 25, 26] := rfl
@[go_sem] theorem dead_26_3 : dead 26 3 = [0, 2, 5, 6, 7, 8, 9, 10, 11, 12, 13, 14, 15, 16, 17, 18, 19, 20] := rfl
@[go_sem] theorem dead_30_5 : dead 30 5 = [0, 1, 3, 4, 6, 7, 8, 9, 10, 11, 12, 13, 14, 15, 16, 20, 21, 22, 23, 24, 25, 26, 27, 28] := rfl
@[go_sem] theorem dead_37_5 : dead 37 5 = [2, 3, 4, 6, 7, 8, 9, 10, 11, 12, 13, 14, 15, 16, 17, 18, 19, 20, 21, 22, 23, 24, 25, 26] := rfl
@[go_sem] theorem dead_39_5 : dead 39 5 = [2, 3, 4, 6, 7, 8, 9, 10, 11, 12, 13, 14, 15, 16, 17, 18, 19, 20, 21, 22, 23, 24, 25, 26] := rfl
@[go_sem] theorem dead_41_3 : dead 41 3 = [1, 2, 5, 6, 7, 8, 9, 10, 11, 12, 13, 14, 15, 16, 17, 18, 19, 20, 21, 22] := rfl
@[go_sem] theorem dead_43_3 : dead 43 3 = [1, 2, 5, 6, 7, 8, 9, 10, 11, 12, 13, 14, 15, 16, 17, 18, 19, 20, 21, 22] := rfl
@[go_sem] theorem dead_46_4 : dead 46 4 = [2, 3, 4, 6, 7, 8, 9, 10, 11, 12, 13, 14, 15, 16, 17, 18, 19, 20, 21, 22, 23, 24, 25, 26] := rfl
@[go_sem] theorem dead_48_4 : dead 48 4 = [2, 3, 4, 6, 7, 8, 9, 10, 11, 12, 13, 14, 15, 16, 17, 18, 19, 20, 21, 22, 23, 24, 25, 26] := rfl
@[go_sem] theorem dead_51_5 : dead 51 5 = [2, 3, 4, 6, 7, 8, 9, 10, 11, 12, 13, 14, 15, 16, 17, 18, 19, 20, 21, 22, 23, 24, 25, 26] := rfl
@[go_sem] theorem dead_56_3 : dead 56 3 = [1, 2, 5, 6, 7, 8, 9, 10, 11, 12, 13, 14, 15, 16, 17, 18, 19, 20, 21, 22] := rfl
@[go_sem] theorem dead_59_3 : dead 59 3 = [1, 2, 5, 6, 7, 8, 9, 10, 11, 12, 13, 14, 15, 16, 17, 18, 19, 20, 21, 22] := rfl
@[go_sem] theorem dead_62_4 : dead 62 4 = [2, 3, 4, 6, 7, 8, 9, 10, 11, 12, 13, 14, 15, 16, 17, 18, 19, 20, 21, 22, 23, 24, 25, 26] := rfl
@[go_sem] theorem dead_65_4 : dead 65 4 = [2, 3, 4, 6, 7, 8, 9, 10, 11, 12, 13, 14, 15, 16, 17, 18, 19, 20, 21, 22, 23, 24, 25, 26] := rfl
@[go_sem] theorem dead_69_5 : dead 69 5 = [2, 3, 4, 6, 7, 8, 9, 10, 11, 12, 13, 14, 15, 16, 17, 18, 19, 20, 21, 22, 23, 24, 25, 26] := rfl
@[go_sem] theorem dead_72_3 : dead 72 3 = [1, 2, 5, 6, 7, 8, 9, 10, 11, 12, 13, 14, 15, 16, 17, 18, 19, 20, 21, 22] := rfl
@[go_sem] theorem dead_73_3 : dead 73 3 = [1, 2, 5, 6, 7, 8, 9, 10, 11, 12, 13, 14, 15, 16, 17, 18, 19, 20, 21, 22] := rfl
@[go_sem] theorem dead_77_4 : dead 77 4 = [2, 3, 4, 6, 7, 8, 9, 10, 11, 12, 13, 14, 15, 16, 17, 18, 19, 20, 21, 22, 23, 24, 25, 26] := rfl
@[go_sem] theorem dead_78_4 : dead 78 4 = [2, 3, 4, 6, 7, 8, 9, 10, 11, 12, 13, 14, 15, 16, 17, 18, 19, 20, 21, 22, 23, 24, 25, 26] := rfl
@[go_sem] theorem dead_80_5 : dead 80 5 = [2, 3, 4, 6, 7, 8, 9, 10, 11, 12, 13, 14, 15, 16, 17, 18, 19, 20, 21, 22, 23, 24, 25, 26] := rfl
@[go_sem] theorem dead_82_3 : dead 82 3 = [1, 2, 5, 6, 7, 8, 9, 10, 11, 12, 13, 14, 15, 16, 17, 18, 19, 20, 21, 22] := rfl
@[go_sem] theorem dead_85_4 : dead 85 4 = [2, 3, 4, 6, 7, 8, 9, 10, 11, 12, 13, 14, 15, 16, 17, 18, 19, 20, 21, 22, 23, 24, 25, 26] := rfl
@[go_sem] theorem dead_89_5 : dead 89 5 = [2, 3, 4, 6, 7, 8, 9, 10, 11, 12, 13, 14, 15, 16, 17, 18, 19, 20, 21, 22, 23, 24, 25, 26] := rfl
@[go_sem] theorem dead_91_3 : dead 91 3 = [1, 2, 5, 6, 7, 8, 9, 10, 11, 12, 13, 14, 15, 16, 17, 18, 19, 20, 21, 22] := rfl
@[go_sem] theorem dead_93_4 : dead 93 4 = [2, 3, 4, 6, 7, 8, 9, 10, 11, 12, 13, 14, 15, 16, 17, 18, 19, 20, 21, 22, 23, 24, 25, 26] := rfl
@[go_sem] theorem dead_94_5 : dead 94 5 = [2, 3, 4, 6, 7, 8, 9, 10, 11, 12, 13, 14, 15, 16, 17, 18, 19, 20, 21, 22, 23, 24, 25, 26] := rfl
@[go_sem] theorem dead_96_3 : dead 96 3 = [1, 2, 5, 6, 7, 8, 9, 10, 11, 12, 13, 14, 15, 16, 17, 18, 19, 20, 21, 22] := rfl
@[go_sem] theorem dead_98_4 : dead 98 4 = [2, 3, 4, 6, 7, 8, 9, 10, 11, 12, 13, 14, 15, 16, 17, 18, 19, 20, 21, 22, 23, 24, 25, 26] := rfl
attribute [go_sem] tfo tfz
@[go_sem] theorem tys_sl {t} : tys.sl t = tsl t := rfl
@[go_sem] theorem tys_sz {t} : tys.sz t = tsz t := rfl
@[go_sem] theorem tys_by {t} : tys.byt t = tby t := rfl
@[go_sem] theorem tys_ag {t} : tys.ag t = tag t := rfl
@[go_sem] theorem tys_zr {t} : tys.zr t = tzr t := rfl
@[go_sem] theorem tys_fo {t f} : tys.fo t f = tfo t f := rfl
@[go_sem] theorem tys_fz {t f} : tys.fz t f = tfz t f := rfl
@[go_sem] theorem tys_ik {t} : tys.ik t = tik t := rfl
@[go_sem] theorem tys_st {t} : tys.str t = tst t := rfl
@[go_sem] theorem tys_bo {t} : tys.boo t = tbo t := rfl
noncomputable def env : Env := ⟨tys, fns, fun _ => none, dead, fun _ => []⟩
@[go_sem] theorem env_T : env.T = tys := rfl
@[go_sem] theorem env_dead : env.dead = dead := rfl
end Go.Proofs.Ytlbigobmhglppaa.R
