/- The tables' entries as laws for simp. Printed by genv.py. -/
import Derived.Test.YticgilhndadkiaaGreatDoorE
import Derived.Test.YticgilhndadkiaaGreatDoorM5
import Derived.Test.YticgilhndadkiaaGreatDoorM4
namespace Go.Proofs.YticgilhndadkiaaGreatDoor.R
open Go
set_option maxRecDepth 100000
@[go_sem] theorem tsl_2 : tsl 2 = none := rfl
@[go_sem] theorem tsl_3 : tsl 3 = none := rfl
@[go_sem] theorem tsl_4 : tsl 4 = none := rfl
@[go_sem] theorem tsl_5 : tsl 5 = none := rfl
@[go_sem] theorem tsl_6 : tsl 6 = none := rfl
@[go_sem] theorem tsl_7 : tsl 7 = none := rfl
@[go_sem] theorem tsl_8 : tsl 8 = none := rfl
@[go_sem] theorem tsl_9 : tsl 9 = none := rfl
@[go_sem] theorem tsl_10 : tsl 10 = none := rfl
@[go_sem] theorem tsl_11 : tsl 11 = none := rfl
@[go_sem] theorem tsl_12 : tsl 12 = none := rfl
@[go_sem] theorem tsl_13 : tsl 13 = none := rfl
@[go_sem] theorem tsl_14 : tsl 14 = none := rfl
@[go_sem] theorem tsl_21 : tsl 21 = none := rfl
@[go_sem] theorem tsl_22 : tsl 22 = some 65 := rfl
@[go_sem] theorem tsl_23 : tsl 23 = none := rfl
@[go_sem] theorem tsl_24 : tsl 24 = none := rfl
@[go_sem] theorem tsl_27 : tsl 27 = some 70 := rfl
@[go_sem] theorem tsl_28 : tsl 28 = none := rfl
@[go_sem] theorem tsl_29 : tsl 29 = none := rfl
@[go_sem] theorem tsl_33 : tsl 33 = some 82 := rfl
@[go_sem] theorem tsl_34 : tsl 34 = none := rfl
@[go_sem] theorem tsl_35 : tsl 35 = none := rfl
@[go_sem] theorem tsl_38 : tsl 38 = some 56 := rfl
@[go_sem] theorem tsl_39 : tsl 39 = none := rfl
@[go_sem] theorem tsl_40 : tsl 40 = none := rfl
@[go_sem] theorem tsl_45 : tsl 45 = some 51 := rfl
@[go_sem] theorem tsl_48 : tsl 48 = some 5 := rfl
@[go_sem] theorem tsl_49 : tsl 49 = some 75 := rfl
@[go_sem] theorem tsl_50 : tsl 50 = none := rfl
@[go_sem] theorem tsl_51 : tsl 51 = none := rfl
@[go_sem] theorem tsl_55 : tsl 55 = none := rfl
@[go_sem] theorem tsl_56 : tsl 56 = none := rfl
@[go_sem] theorem tsl_62 : tsl 62 = some 107 := rfl
@[go_sem] theorem tsl_63 : tsl 63 = some 109 := rfl
@[go_sem] theorem tsl_64 : tsl 64 = none := rfl
@[go_sem] theorem tsl_65 : tsl 65 = none := rfl
@[go_sem] theorem tsl_66 : tsl 66 = some 9 := rfl
@[go_sem] theorem tsl_68 : tsl 68 = some 113 := rfl
@[go_sem] theorem tsl_69 : tsl 69 = none := rfl
@[go_sem] theorem tsl_70 : tsl 70 = none := rfl
@[go_sem] theorem tsl_74 : tsl 74 = none := rfl
@[go_sem] theorem tsl_75 : tsl 75 = none := rfl
@[go_sem] theorem tsl_81 : tsl 81 = none := rfl
@[go_sem] theorem tsl_82 : tsl 82 = none := rfl
@[go_sem] theorem tsl_106 : tsl 106 = none := rfl
@[go_sem] theorem tsl_107 : tsl 107 = none := rfl
@[go_sem] theorem tsl_109 : tsl 109 = none := rfl
@[go_sem] theorem tsl_110 : tsl 110 = some 3 := rfl
@[go_sem] theorem tsl_113 : tsl 113 = none := rfl
@[go_sem] theorem tsl_120 : tsl 120 = none := rfl
@[go_sem] theorem tsl_135 : tsl 135 = none := rfl
@[go_sem] theorem tsl_144 : tsl 144 = none := rfl
@[go_sem] theorem tsl_146 : tsl 146 = none := rfl
@[go_sem] theorem tsl_154 : tsl 154 = none := rfl
@[go_sem] theorem tsl_181 : tsl 181 = none := rfl
@[go_sem] theorem tsl_182 : tsl 182 = none := rfl
@[go_sem] theorem tsl_193 : tsl 193 = none := rfl
@[go_sem] theorem tsl_194 : tsl 194 = none := rfl
@[go_sem] theorem tsl_197 : tsl 197 = none := rfl
@[go_sem] theorem tsl_198 : tsl 198 = none := rfl
@[go_sem] theorem tsz_2 : tsz 2 = some 1 := rfl
@[go_sem] theorem tsz_3 : tsz 3 = some 1 := rfl
@[go_sem] theorem tsz_4 : tsz 4 = some 1 := rfl
@[go_sem] theorem tsz_5 : tsz 5 = some 1 := rfl
@[go_sem] theorem tsz_6 : tsz 6 = some 1 := rfl
@[go_sem] theorem tsz_7 : tsz 7 = some 4 := rfl
@[go_sem] theorem tsz_8 : tsz 8 = some 4 := rfl
@[go_sem] theorem tsz_9 : tsz 9 = some 1 := rfl
@[go_sem] theorem tsz_10 : tsz 10 = some 1 := rfl
@[go_sem] theorem tsz_11 : tsz 11 = some 1 := rfl
@[go_sem] theorem tsz_12 : tsz 12 = some 1 := rfl
@[go_sem] theorem tsz_13 : tsz 13 = some 2 := rfl
@[go_sem] theorem tsz_14 : tsz 14 = some 2 := rfl
@[go_sem] theorem tsz_21 : tsz 21 = some 1 := rfl
@[go_sem] theorem tsz_22 : tsz 22 = some 1 := rfl
@[go_sem] theorem tsz_23 : tsz 23 = some 2 := rfl
@[go_sem] theorem tsz_24 : tsz 24 = some 2 := rfl
@[go_sem] theorem tsz_27 : tsz 27 = some 1 := rfl
@[go_sem] theorem tsz_28 : tsz 28 = some 2 := rfl
@[go_sem] theorem tsz_29 : tsz 29 = some 2 := rfl
@[go_sem] theorem tsz_33 : tsz 33 = some 1 := rfl
@[go_sem] theorem tsz_34 : tsz 34 = some 2 := rfl
@[go_sem] theorem tsz_35 : tsz 35 = some 2 := rfl
@[go_sem] theorem tsz_38 : tsz 38 = some 1 := rfl
@[go_sem] theorem tsz_39 : tsz 39 = some 2 := rfl
@[go_sem] theorem tsz_40 : tsz 40 = some 2 := rfl
@[go_sem] theorem tsz_45 : tsz 45 = some 1 := rfl
@[go_sem] theorem tsz_48 : tsz 48 = some 1 := rfl
@[go_sem] theorem tsz_49 : tsz 49 = some 1 := rfl
@[go_sem] theorem tsz_50 : tsz 50 = some 5 := rfl
@[go_sem] theorem tsz_51 : tsz 51 = some 5 := rfl
@[go_sem] theorem tsz_55 : tsz 55 = some 6 := rfl
@[go_sem] theorem tsz_56 : tsz 56 = some 6 := rfl
@[go_sem] theorem tsz_62 : tsz 62 = some 1 := rfl
@[go_sem] theorem tsz_63 : tsz 63 = some 1 := rfl
@[go_sem] theorem tsz_64 : tsz 64 = some 6 := rfl
@[go_sem] theorem tsz_65 : tsz 65 = some 6 := rfl
@[go_sem] theorem tsz_66 : tsz 66 = some 1 := rfl
@[go_sem] theorem tsz_68 : tsz 68 = some 1 := rfl
@[go_sem] theorem tsz_69 : tsz 69 = some 6 := rfl
@[go_sem] theorem tsz_70 : tsz 70 = some 6 := rfl
@[go_sem] theorem tsz_74 : tsz 74 = some 2 := rfl
@[go_sem] theorem tsz_75 : tsz 75 = some 2 := rfl
@[go_sem] theorem tsz_81 : tsz 81 = some 6 := rfl
@[go_sem] theorem tsz_82 : tsz 82 = some 6 := rfl
@[go_sem] theorem tsz_106 : tsz 106 = some 2 := rfl
@[go_sem] theorem tsz_107 : tsz 107 = some 2 := rfl
@[go_sem] theorem tsz_109 : tsz 109 = some 2 := rfl
@[go_sem] theorem tsz_110 : tsz 110 = some 1 := rfl
@[go_sem] theorem tsz_113 : tsz 113 = some 2 := rfl
@[go_sem] theorem tsz_120 : tsz 120 = some 1 := rfl
@[go_sem] theorem tsz_135 : tsz 135 = some 1 := rfl
@[go_sem] theorem tsz_144 : tsz 144 = some 1 := rfl
@[go_sem] theorem tsz_146 : tsz 146 = some 1 := rfl
@[go_sem] theorem tsz_154 : tsz 154 = some 1 := rfl
@[go_sem] theorem tsz_181 : tsz 181 = some 2 := rfl
@[go_sem] theorem tsz_182 : tsz 182 = some 2 := rfl
@[go_sem] theorem tsz_193 : tsz 193 = some 1 := rfl
@[go_sem] theorem tsz_194 : tsz 194 = some 1 := rfl
@[go_sem] theorem tsz_197 : tsz 197 = some 1 := rfl
@[go_sem] theorem tsz_198 : tsz 198 = some 1 := rfl
@[go_sem] theorem tby_2 : tby 2 = some 8 := rfl
@[go_sem] theorem tby_3 : tby 3 = some 8 := rfl
@[go_sem] theorem tby_4 : tby 4 = some 1 := rfl
@[go_sem] theorem tby_5 : tby 5 = some 1 := rfl
@[go_sem] theorem tby_6 : tby 6 = some 1 := rfl
@[go_sem] theorem tby_7 : tby 7 = some 24 := rfl
@[go_sem] theorem tby_8 : tby 8 = some 24 := rfl
@[go_sem] theorem tby_9 : tby 9 = some 16 := rfl
@[go_sem] theorem tby_10 : tby 10 = some 16 := rfl
@[go_sem] theorem tby_11 : tby 11 = some 16 := rfl
@[go_sem] theorem tby_12 : tby 12 = some 8 := rfl
@[go_sem] theorem tby_13 : tby 13 = some 24 := rfl
@[go_sem] theorem tby_14 : tby 14 = some 24 := rfl
@[go_sem] theorem tby_21 : tby 21 = some 4 := rfl
@[go_sem] theorem tby_22 : tby 22 = some 24 := rfl
@[go_sem] theorem tby_23 : tby 23 = some 32 := rfl
@[go_sem] theorem tby_24 : tby 24 = some 32 := rfl
@[go_sem] theorem tby_27 : tby 27 = some 24 := rfl
@[go_sem] theorem tby_28 : tby 28 = some 32 := rfl
@[go_sem] theorem tby_29 : tby 29 = some 32 := rfl
@[go_sem] theorem tby_33 : tby 33 = some 24 := rfl
@[go_sem] theorem tby_34 : tby 34 = some 32 := rfl
@[go_sem] theorem tby_35 : tby 35 = some 32 := rfl
@[go_sem] theorem tby_38 : tby 38 = some 24 := rfl
@[go_sem] theorem tby_39 : tby 39 = some 32 := rfl
@[go_sem] theorem tby_40 : tby 40 = some 32 := rfl
@[go_sem] theorem tby_45 : tby 45 = some 24 := rfl
@[go_sem] theorem tby_48 : tby 48 = some 24 := rfl
@[go_sem] theorem tby_49 : tby 49 = some 24 := rfl
@[go_sem] theorem tby_50 : tby 50 = some 88 := rfl
@[go_sem] theorem tby_51 : tby 51 = some 88 := rfl
@[go_sem] theorem tby_55 : tby 55 = some 72 := rfl
@[go_sem] theorem tby_56 : tby 56 = some 72 := rfl
@[go_sem] theorem tby_62 : tby 62 = some 24 := rfl
@[go_sem] theorem tby_63 : tby 63 = some 24 := rfl
@[go_sem] theorem tby_64 : tby 64 = some 96 := rfl
@[go_sem] theorem tby_65 : tby 65 = some 96 := rfl
@[go_sem] theorem tby_66 : tby 66 = some 24 := rfl
@[go_sem] theorem tby_68 : tby 68 = some 24 := rfl
@[go_sem] theorem tby_69 : tby 69 = some 96 := rfl
@[go_sem] theorem tby_70 : tby 70 = some 96 := rfl
@[go_sem] theorem tby_74 : tby 74 = some 32 := rfl
@[go_sem] theorem tby_75 : tby 75 = some 32 := rfl
@[go_sem] theorem tby_81 : tby 81 = some 72 := rfl
@[go_sem] theorem tby_82 : tby 82 = some 72 := rfl
@[go_sem] theorem tby_106 : tby 106 = some 24 := rfl
@[go_sem] theorem tby_107 : tby 107 = some 24 := rfl
@[go_sem] theorem tby_109 : tby 109 = some 32 := rfl
@[go_sem] theorem tby_110 : tby 110 = some 24 := rfl
@[go_sem] theorem tby_113 : tby 113 = some 24 := rfl
@[go_sem] theorem tby_120 : tby 120 = some 8 := rfl
@[go_sem] theorem tby_135 : tby 135 = some 8 := rfl
@[go_sem] theorem tby_144 : tby 144 = some 4 := rfl
@[go_sem] theorem tby_146 : tby 146 = some 8 := rfl
@[go_sem] theorem tby_154 : tby 154 = some 8 := rfl
@[go_sem] theorem tby_181 : tby 181 = some 2 := rfl
@[go_sem] theorem tby_182 : tby 182 = some 2 := rfl
@[go_sem] theorem tby_193 : tby 193 = some 1 := rfl
@[go_sem] theorem tby_194 : tby 194 = some 1 := rfl
@[go_sem] theorem tby_197 : tby 197 = some 4 := rfl
@[go_sem] theorem tby_198 : tby 198 = some 4 := rfl
@[go_sem] theorem tag_2 : tag 2 = some false := rfl
@[go_sem] theorem tag_3 : tag 3 = some false := rfl
@[go_sem] theorem tag_4 : tag 4 = some false := rfl
@[go_sem] theorem tag_5 : tag 5 = some false := rfl
@[go_sem] theorem tag_6 : tag 6 = some false := rfl
@[go_sem] theorem tag_7 : tag 7 = some true := rfl
@[go_sem] theorem tag_8 : tag 8 = some true := rfl
@[go_sem] theorem tag_9 : tag 9 = some false := rfl
@[go_sem] theorem tag_10 : tag 10 = some false := rfl
@[go_sem] theorem tag_11 : tag 11 = some false := rfl
@[go_sem] theorem tag_12 : tag 12 = some false := rfl
@[go_sem] theorem tag_13 : tag 13 = some true := rfl
@[go_sem] theorem tag_14 : tag 14 = some true := rfl
@[go_sem] theorem tag_21 : tag 21 = some false := rfl
@[go_sem] theorem tag_22 : tag 22 = some false := rfl
@[go_sem] theorem tag_23 : tag 23 = some true := rfl
@[go_sem] theorem tag_24 : tag 24 = some true := rfl
@[go_sem] theorem tag_27 : tag 27 = some false := rfl
@[go_sem] theorem tag_28 : tag 28 = some true := rfl
@[go_sem] theorem tag_29 : tag 29 = some true := rfl
@[go_sem] theorem tag_33 : tag 33 = some false := rfl
@[go_sem] theorem tag_34 : tag 34 = some true := rfl
@[go_sem] theorem tag_35 : tag 35 = some true := rfl
@[go_sem] theorem tag_38 : tag 38 = some false := rfl
@[go_sem] theorem tag_39 : tag 39 = some true := rfl
@[go_sem] theorem tag_40 : tag 40 = some true := rfl
@[go_sem] theorem tag_45 : tag 45 = some false := rfl
@[go_sem] theorem tag_48 : tag 48 = some false := rfl
@[go_sem] theorem tag_49 : tag 49 = some false := rfl
@[go_sem] theorem tag_50 : tag 50 = some true := rfl
@[go_sem] theorem tag_51 : tag 51 = some true := rfl
@[go_sem] theorem tag_55 : tag 55 = some true := rfl
@[go_sem] theorem tag_56 : tag 56 = some true := rfl
@[go_sem] theorem tag_62 : tag 62 = some false := rfl
@[go_sem] theorem tag_63 : tag 63 = some false := rfl
@[go_sem] theorem tag_64 : tag 64 = some true := rfl
@[go_sem] theorem tag_65 : tag 65 = some true := rfl
@[go_sem] theorem tag_66 : tag 66 = some false := rfl
@[go_sem] theorem tag_68 : tag 68 = some false := rfl
@[go_sem] theorem tag_69 : tag 69 = some true := rfl
@[go_sem] theorem tag_70 : tag 70 = some true := rfl
@[go_sem] theorem tag_74 : tag 74 = some true := rfl
@[go_sem] theorem tag_75 : tag 75 = some true := rfl
@[go_sem] theorem tag_81 : tag 81 = some true := rfl
@[go_sem] theorem tag_82 : tag 82 = some true := rfl
@[go_sem] theorem tag_106 : tag 106 = some true := rfl
@[go_sem] theorem tag_107 : tag 107 = some true := rfl
@[go_sem] theorem tag_109 : tag 109 = some true := rfl
@[go_sem] theorem tag_110 : tag 110 = some false := rfl
@[go_sem] theorem tag_113 : tag 113 = some true := rfl
@[go_sem] theorem tag_120 : tag 120 = some false := rfl
@[go_sem] theorem tag_135 : tag 135 = some false := rfl
@[go_sem] theorem tag_144 : tag 144 = some false := rfl
@[go_sem] theorem tag_146 : tag 146 = some false := rfl
@[go_sem] theorem tag_154 : tag 154 = some false := rfl
@[go_sem] theorem tag_181 : tag 181 = some true := rfl
@[go_sem] theorem tag_182 : tag 182 = some true := rfl
@[go_sem] theorem tag_193 : tag 193 = some false := rfl
@[go_sem] theorem tag_194 : tag 194 = some false := rfl
@[go_sem] theorem tag_197 : tag 197 = some false := rfl
@[go_sem] theorem tag_198 : tag 198 = some false := rfl
@[go_sem] theorem tzr_2 : tzr 2 = some [.i .i64 0] := rfl
@[go_sem] theorem tzr_3 : tzr 3 = some [.i .i64 0] := rfl
@[go_sem] theorem tzr_4 : tzr 4 = some [.b false] := rfl
@[go_sem] theorem tzr_5 : tzr 5 = some [.i .u8 0] := rfl
@[go_sem] theorem tzr_6 : tzr 6 = some [.i .u8 0] := rfl
@[go_sem] theorem tzr_7 : tzr 7 = some [.i .i64 0, .i .i64 0, .b false, .i .u8 0] := rfl
@[go_sem] theorem tzr_8 : tzr 8 = some [.i .i64 0, .i .i64 0, .b false, .i .u8 0] := rfl
@[go_sem] theorem tzr_9 : tzr 9 = some [.t ⟨#[]⟩] := rfl
@[go_sem] theorem tzr_10 : tzr 10 = some [.t ⟨#[]⟩] := rfl
@[go_sem] theorem tzr_11 : tzr 11 = some [.t ⟨#[]⟩] := rfl
@[go_sem] theorem tzr_12 : tzr 12 = some [.i .u64 0] := rfl
@[go_sem] theorem tzr_13 : tzr 13 = some [.t ⟨#[]⟩, .i .u64 0] := rfl
@[go_sem] theorem tzr_14 : tzr 14 = some [.t ⟨#[]⟩, .i .u64 0] := rfl
@[go_sem] theorem tzr_21 : tzr 21 = some [.i .i32 0] := rfl
@[go_sem] theorem tzr_22 : tzr 22 = some [.s 6 []] := rfl
@[go_sem] theorem tzr_23 : tzr 23 = some [.s 6 [], .i .i64 0] := rfl
@[go_sem] theorem tzr_24 : tzr 24 = some [.s 6 [], .i .i64 0] := rfl
@[go_sem] theorem tzr_27 : tzr 27 = some [.s 6 []] := rfl
@[go_sem] theorem tzr_28 : tzr 28 = some [.s 6 [], .i .i64 0] := rfl
@[go_sem] theorem tzr_29 : tzr 29 = some [.s 6 [], .i .i64 0] := rfl
@[go_sem] theorem tzr_33 : tzr 33 = some [.s 6 []] := rfl
@[go_sem] theorem tzr_34 : tzr 34 = some [.s 6 [], .i .i64 0] := rfl
@[go_sem] theorem tzr_35 : tzr 35 = some [.s 6 [], .i .i64 0] := rfl
@[go_sem] theorem tzr_38 : tzr 38 = some [.s 6 []] := rfl
@[go_sem] theorem tzr_39 : tzr 39 = some [.s 6 [], .i .i64 0] := rfl
@[go_sem] theorem tzr_40 : tzr 40 = some [.s 6 [], .i .i64 0] := rfl
@[go_sem] theorem tzr_45 : tzr 45 = some [.s 5 []] := rfl
@[go_sem] theorem tzr_48 : tzr 48 = some [.s 1 []] := rfl
@[go_sem] theorem tzr_49 : tzr 49 = some [.s 2 []] := rfl
@[go_sem] theorem tzr_50 : tzr 50 = some [.t ⟨#[]⟩, .i .i64 0, .s 1 [], .s 2 [], .t ⟨#[]⟩] := rfl
@[go_sem] theorem tzr_51 : tzr 51 = some [.t ⟨#[]⟩, .i .i64 0, .s 1 [], .s 2 [], .t ⟨#[]⟩] := rfl
@[go_sem] theorem tzr_55 : tzr 55 = some [.i .i64 0, .t ⟨#[]⟩, .b false, .i .i64 0, .s 6 [], .i .i64 0] := rfl
@[go_sem] theorem tzr_56 : tzr 56 = some [.i .i64 0, .t ⟨#[]⟩, .b false, .i .i64 0, .s 6 [], .i .i64 0] := rfl
@[go_sem] theorem tzr_62 : tzr 62 = some [.s 2 []] := rfl
@[go_sem] theorem tzr_63 : tzr 63 = some [.s 2 []] := rfl
@[go_sem] theorem tzr_64 : tzr 64 = some [.i .i64 0, .i .i64 0, .i .i64 0, .s 1 [], .s 2 [], .s 2 []] := rfl
@[go_sem] theorem tzr_65 : tzr 65 = some [.i .i64 0, .i .i64 0, .i .i64 0, .s 1 [], .s 2 [], .s 2 []] := rfl
@[go_sem] theorem tzr_66 : tzr 66 = some [.s 1 []] := rfl
@[go_sem] theorem tzr_68 : tzr 68 = some [.s 2 []] := rfl
@[go_sem] theorem tzr_69 : tzr 69 = some [.i .i64 0, .i .i64 0, .i .i64 0, .s 1 [], .s 2 [], .s 2 []] := rfl
@[go_sem] theorem tzr_70 : tzr 70 = some [.i .i64 0, .i .i64 0, .i .i64 0, .s 1 [], .s 2 [], .s 2 []] := rfl
@[go_sem] theorem tzr_74 : tzr 74 = some [.t ⟨#[]⟩, .t ⟨#[]⟩] := rfl
@[go_sem] theorem tzr_75 : tzr 75 = some [.t ⟨#[]⟩, .t ⟨#[]⟩] := rfl
@[go_sem] theorem tzr_81 : tzr 81 = some [.i .i64 0, .t ⟨#[]⟩, .b false, .i .i64 0, .s 6 [], .i .i64 0] := rfl
@[go_sem] theorem tzr_82 : tzr 82 = some [.i .i64 0, .t ⟨#[]⟩, .b false, .i .i64 0, .s 6 [], .i .i64 0] := rfl
@[go_sem] theorem tzr_106 : tzr 106 = some [.t ⟨#[]⟩, .i .i64 0] := rfl
@[go_sem] theorem tzr_107 : tzr 107 = some [.t ⟨#[]⟩, .i .i64 0] := rfl
@[go_sem] theorem tzr_109 : tzr 109 = some [.t ⟨#[]⟩, .t ⟨#[]⟩] := rfl
@[go_sem] theorem tzr_110 : tzr 110 = some [.s 1 []] := rfl
@[go_sem] theorem tzr_113 : tzr 113 = some [.t ⟨#[]⟩, .i .i64 0] := rfl
@[go_sem] theorem tzr_120 : tzr 120 = some [.i .u64 0] := rfl
@[go_sem] theorem tzr_135 : tzr 135 = some [.i .i64 0] := rfl
@[go_sem] theorem tzr_144 : tzr 144 = some [.i .u32 0] := rfl
@[go_sem] theorem tzr_146 : tzr 146 = some [.i .u64 0] := rfl
@[go_sem] theorem tzr_154 : tzr 154 = some [.i .u64 0] := rfl
@[go_sem] theorem tzr_181 : tzr 181 = some [.i .u8 0, .i .u8 0] := rfl
@[go_sem] theorem tzr_182 : tzr 182 = some [.i .u8 0, .i .u8 0] := rfl
@[go_sem] theorem tzr_193 : tzr 193 = some [.i .u8 0] := rfl
@[go_sem] theorem tzr_194 : tzr 194 = some [.i .u8 0] := rfl
@[go_sem] theorem tzr_197 : tzr 197 = some [.i .i32 0] := rfl
@[go_sem] theorem tzr_198 : tzr 198 = some [.i .i32 0] := rfl
@[go_sem] theorem tfs_7 : tfs 7 = [(0, 1), (1, 1), (2, 1), (3, 1)] := rfl
@[go_sem] theorem tfs_8 : tfs 8 = [(0, 1), (1, 1), (2, 1), (3, 1)] := rfl
@[go_sem] theorem tfs_13 : tfs 13 = [(0, 1), (1, 1)] := rfl
@[go_sem] theorem tfs_14 : tfs 14 = [(0, 1), (1, 1)] := rfl
@[go_sem] theorem tfs_23 : tfs 23 = [(0, 1), (1, 1)] := rfl
@[go_sem] theorem tfs_24 : tfs 24 = [(0, 1), (1, 1)] := rfl
@[go_sem] theorem tfs_28 : tfs 28 = [(0, 1), (1, 1)] := rfl
@[go_sem] theorem tfs_29 : tfs 29 = [(0, 1), (1, 1)] := rfl
@[go_sem] theorem tfs_34 : tfs 34 = [(0, 1), (1, 1)] := rfl
@[go_sem] theorem tfs_35 : tfs 35 = [(0, 1), (1, 1)] := rfl
@[go_sem] theorem tfs_39 : tfs 39 = [(0, 1), (1, 1)] := rfl
@[go_sem] theorem tfs_40 : tfs 40 = [(0, 1), (1, 1)] := rfl
@[go_sem] theorem tfs_50 : tfs 50 = [(0, 1), (1, 1), (2, 1), (3, 1), (4, 1)] := rfl
@[go_sem] theorem tfs_51 : tfs 51 = [(0, 1), (1, 1), (2, 1), (3, 1), (4, 1)] := rfl
@[go_sem] theorem tfs_55 : tfs 55 = [(0, 1), (1, 1), (2, 1), (3, 1), (4, 2)] := rfl
@[go_sem] theorem tfs_56 : tfs 56 = [(0, 1), (1, 1), (2, 1), (3, 1), (4, 2)] := rfl
@[go_sem] theorem tfs_64 : tfs 64 = [(0, 1), (1, 1), (2, 1), (3, 1), (4, 1), (5, 1)] := rfl
@[go_sem] theorem tfs_65 : tfs 65 = [(0, 1), (1, 1), (2, 1), (3, 1), (4, 1), (5, 1)] := rfl
@[go_sem] theorem tfs_69 : tfs 69 = [(0, 1), (1, 1), (2, 1), (3, 1), (4, 1), (5, 1)] := rfl
@[go_sem] theorem tfs_70 : tfs 70 = [(0, 1), (1, 1), (2, 1), (3, 1), (4, 1), (5, 1)] := rfl
@[go_sem] theorem tfs_74 : tfs 74 = [(0, 1), (1, 1)] := rfl
@[go_sem] theorem tfs_75 : tfs 75 = [(0, 1), (1, 1)] := rfl
@[go_sem] theorem tfs_81 : tfs 81 = [(0, 1), (1, 1), (2, 1), (3, 1), (4, 2)] := rfl
@[go_sem] theorem tfs_82 : tfs 82 = [(0, 1), (1, 1), (2, 1), (3, 1), (4, 2)] := rfl
@[go_sem] theorem tfs_106 : tfs 106 = [(0, 1), (1, 1)] := rfl
@[go_sem] theorem tfs_107 : tfs 107 = [(0, 1), (1, 1)] := rfl
@[go_sem] theorem tfs_109 : tfs 109 = [(0, 1), (1, 1)] := rfl
@[go_sem] theorem tfs_113 : tfs 113 = [(0, 1), (1, 1)] := rfl
@[go_sem] theorem tfs_181 : tfs 181 = [(0, 1), (1, 1)] := rfl
@[go_sem] theorem tfs_182 : tfs 182 = [(0, 1), (1, 1)] := rfl
@[go_sem] theorem tik_2 : tik 2 = some .i64 := rfl
@[go_sem] theorem tik_3 : tik 3 = some .i64 := rfl
@[go_sem] theorem tik_4 : tik 4 = none := rfl
@[go_sem] theorem tik_5 : tik 5 = some .u8 := rfl
@[go_sem] theorem tik_6 : tik 6 = some .u8 := rfl
@[go_sem] theorem tik_7 : tik 7 = none := rfl
@[go_sem] theorem tik_8 : tik 8 = none := rfl
@[go_sem] theorem tik_9 : tik 9 = none := rfl
@[go_sem] theorem tik_10 : tik 10 = none := rfl
@[go_sem] theorem tik_11 : tik 11 = none := rfl
@[go_sem] theorem tik_12 : tik 12 = some .u64 := rfl
@[go_sem] theorem tik_13 : tik 13 = none := rfl
@[go_sem] theorem tik_14 : tik 14 = none := rfl
@[go_sem] theorem tik_21 : tik 21 = some .i32 := rfl
@[go_sem] theorem tik_22 : tik 22 = none := rfl
@[go_sem] theorem tik_23 : tik 23 = none := rfl
@[go_sem] theorem tik_24 : tik 24 = none := rfl
@[go_sem] theorem tik_27 : tik 27 = none := rfl
@[go_sem] theorem tik_28 : tik 28 = none := rfl
@[go_sem] theorem tik_29 : tik 29 = none := rfl
@[go_sem] theorem tik_33 : tik 33 = none := rfl
@[go_sem] theorem tik_34 : tik 34 = none := rfl
@[go_sem] theorem tik_35 : tik 35 = none := rfl
@[go_sem] theorem tik_38 : tik 38 = none := rfl
@[go_sem] theorem tik_39 : tik 39 = none := rfl
@[go_sem] theorem tik_40 : tik 40 = none := rfl
@[go_sem] theorem tik_45 : tik 45 = none := rfl
@[go_sem] theorem tik_48 : tik 48 = none := rfl
@[go_sem] theorem tik_49 : tik 49 = none := rfl
@[go_sem] theorem tik_50 : tik 50 = none := rfl
@[go_sem] theorem tik_51 : tik 51 = none := rfl
@[go_sem] theorem tik_55 : tik 55 = none := rfl
@[go_sem] theorem tik_56 : tik 56 = none := rfl
@[go_sem] theorem tik_62 : tik 62 = none := rfl
@[go_sem] theorem tik_63 : tik 63 = none := rfl
@[go_sem] theorem tik_64 : tik 64 = none := rfl
@[go_sem] theorem tik_65 : tik 65 = none := rfl
@[go_sem] theorem tik_66 : tik 66 = none := rfl
@[go_sem] theorem tik_68 : tik 68 = none := rfl
@[go_sem] theorem tik_69 : tik 69 = none := rfl
@[go_sem] theorem tik_70 : tik 70 = none := rfl
@[go_sem] theorem tik_74 : tik 74 = none := rfl
@[go_sem] theorem tik_75 : tik 75 = none := rfl
@[go_sem] theorem tik_81 : tik 81 = none := rfl
@[go_sem] theorem tik_82 : tik 82 = none := rfl
@[go_sem] theorem tik_106 : tik 106 = none := rfl
@[go_sem] theorem tik_107 : tik 107 = none := rfl
@[go_sem] theorem tik_109 : tik 109 = none := rfl
@[go_sem] theorem tik_110 : tik 110 = none := rfl
@[go_sem] theorem tik_113 : tik 113 = none := rfl
@[go_sem] theorem tik_120 : tik 120 = some .u64 := rfl
@[go_sem] theorem tik_135 : tik 135 = some .i64 := rfl
@[go_sem] theorem tik_144 : tik 144 = some .u32 := rfl
@[go_sem] theorem tik_146 : tik 146 = some .u64 := rfl
@[go_sem] theorem tik_154 : tik 154 = some .u64 := rfl
@[go_sem] theorem tik_181 : tik 181 = none := rfl
@[go_sem] theorem tik_182 : tik 182 = none := rfl
@[go_sem] theorem tik_193 : tik 193 = some .u8 := rfl
@[go_sem] theorem tik_194 : tik 194 = some .u8 := rfl
@[go_sem] theorem tik_197 : tik 197 = some .i32 := rfl
@[go_sem] theorem tik_198 : tik 198 = some .i32 := rfl
@[go_sem] theorem tst_2 : tst 2 = false := rfl
@[go_sem] theorem tst_3 : tst 3 = false := rfl
@[go_sem] theorem tst_4 : tst 4 = false := rfl
@[go_sem] theorem tst_5 : tst 5 = false := rfl
@[go_sem] theorem tst_6 : tst 6 = false := rfl
@[go_sem] theorem tst_7 : tst 7 = false := rfl
@[go_sem] theorem tst_8 : tst 8 = false := rfl
@[go_sem] theorem tst_9 : tst 9 = true := rfl
@[go_sem] theorem tst_10 : tst 10 = true := rfl
@[go_sem] theorem tst_11 : tst 11 = true := rfl
@[go_sem] theorem tst_12 : tst 12 = false := rfl
@[go_sem] theorem tst_13 : tst 13 = false := rfl
@[go_sem] theorem tst_14 : tst 14 = false := rfl
@[go_sem] theorem tst_21 : tst 21 = false := rfl
@[go_sem] theorem tst_22 : tst 22 = false := rfl
@[go_sem] theorem tst_23 : tst 23 = false := rfl
@[go_sem] theorem tst_24 : tst 24 = false := rfl
@[go_sem] theorem tst_27 : tst 27 = false := rfl
@[go_sem] theorem tst_28 : tst 28 = false := rfl
@[go_sem] theorem tst_29 : tst 29 = false := rfl
@[go_sem] theorem tst_33 : tst 33 = false := rfl
@[go_sem] theorem tst_34 : tst 34 = false := rfl
@[go_sem] theorem tst_35 : tst 35 = false := rfl
@[go_sem] theorem tst_38 : tst 38 = false := rfl
@[go_sem] theorem tst_39 : tst 39 = false := rfl
@[go_sem] theorem tst_40 : tst 40 = false := rfl
@[go_sem] theorem tst_45 : tst 45 = false := rfl
@[go_sem] theorem tst_48 : tst 48 = false := rfl
@[go_sem] theorem tst_49 : tst 49 = false := rfl
@[go_sem] theorem tst_50 : tst 50 = false := rfl
@[go_sem] theorem tst_51 : tst 51 = false := rfl
@[go_sem] theorem tst_55 : tst 55 = false := rfl
@[go_sem] theorem tst_56 : tst 56 = false := rfl
@[go_sem] theorem tst_62 : tst 62 = false := rfl
@[go_sem] theorem tst_63 : tst 63 = false := rfl
@[go_sem] theorem tst_64 : tst 64 = false := rfl
@[go_sem] theorem tst_65 : tst 65 = false := rfl
@[go_sem] theorem tst_66 : tst 66 = false := rfl
@[go_sem] theorem tst_68 : tst 68 = false := rfl
@[go_sem] theorem tst_69 : tst 69 = false := rfl
@[go_sem] theorem tst_70 : tst 70 = false := rfl
@[go_sem] theorem tst_74 : tst 74 = false := rfl
@[go_sem] theorem tst_75 : tst 75 = false := rfl
@[go_sem] theorem tst_81 : tst 81 = false := rfl
@[go_sem] theorem tst_82 : tst 82 = false := rfl
@[go_sem] theorem tst_106 : tst 106 = false := rfl
@[go_sem] theorem tst_107 : tst 107 = false := rfl
@[go_sem] theorem tst_109 : tst 109 = false := rfl
@[go_sem] theorem tst_110 : tst 110 = false := rfl
@[go_sem] theorem tst_113 : tst 113 = false := rfl
@[go_sem] theorem tst_120 : tst 120 = false := rfl
@[go_sem] theorem tst_135 : tst 135 = false := rfl
@[go_sem] theorem tst_144 : tst 144 = false := rfl
@[go_sem] theorem tst_146 : tst 146 = false := rfl
@[go_sem] theorem tst_154 : tst 154 = false := rfl
@[go_sem] theorem tst_181 : tst 181 = false := rfl
@[go_sem] theorem tst_182 : tst 182 = false := rfl
@[go_sem] theorem tst_193 : tst 193 = false := rfl
@[go_sem] theorem tst_194 : tst 194 = false := rfl
@[go_sem] theorem tst_197 : tst 197 = false := rfl
@[go_sem] theorem tst_198 : tst 198 = false := rfl
@[go_sem] theorem tbo_2 : tbo 2 = false := rfl
@[go_sem] theorem tbo_3 : tbo 3 = false := rfl
@[go_sem] theorem tbo_4 : tbo 4 = true := rfl
@[go_sem] theorem tbo_5 : tbo 5 = false := rfl
@[go_sem] theorem tbo_6 : tbo 6 = false := rfl
@[go_sem] theorem tbo_7 : tbo 7 = false := rfl
@[go_sem] theorem tbo_8 : tbo 8 = false := rfl
@[go_sem] theorem tbo_9 : tbo 9 = false := rfl
@[go_sem] theorem tbo_10 : tbo 10 = false := rfl
@[go_sem] theorem tbo_11 : tbo 11 = false := rfl
@[go_sem] theorem tbo_12 : tbo 12 = false := rfl
@[go_sem] theorem tbo_13 : tbo 13 = false := rfl
@[go_sem] theorem tbo_14 : tbo 14 = false := rfl
@[go_sem] theorem tbo_21 : tbo 21 = false := rfl
@[go_sem] theorem tbo_22 : tbo 22 = false := rfl
@[go_sem] theorem tbo_23 : tbo 23 = false := rfl
@[go_sem] theorem tbo_24 : tbo 24 = false := rfl
@[go_sem] theorem tbo_27 : tbo 27 = false := rfl
@[go_sem] theorem tbo_28 : tbo 28 = false := rfl
@[go_sem] theorem tbo_29 : tbo 29 = false := rfl
@[go_sem] theorem tbo_33 : tbo 33 = false := rfl
@[go_sem] theorem tbo_34 : tbo 34 = false := rfl
@[go_sem] theorem tbo_35 : tbo 35 = false := rfl
@[go_sem] theorem tbo_38 : tbo 38 = false := rfl
@[go_sem] theorem tbo_39 : tbo 39 = false := rfl
@[go_sem] theorem tbo_40 : tbo 40 = false := rfl
@[go_sem] theorem tbo_45 : tbo 45 = false := rfl
@[go_sem] theorem tbo_48 : tbo 48 = false := rfl
@[go_sem] theorem tbo_49 : tbo 49 = false := rfl
@[go_sem] theorem tbo_50 : tbo 50 = false := rfl
@[go_sem] theorem tbo_51 : tbo 51 = false := rfl
@[go_sem] theorem tbo_55 : tbo 55 = false := rfl
@[go_sem] theorem tbo_56 : tbo 56 = false := rfl
@[go_sem] theorem tbo_62 : tbo 62 = false := rfl
@[go_sem] theorem tbo_63 : tbo 63 = false := rfl
@[go_sem] theorem tbo_64 : tbo 64 = false := rfl
@[go_sem] theorem tbo_65 : tbo 65 = false := rfl
@[go_sem] theorem tbo_66 : tbo 66 = false := rfl
@[go_sem] theorem tbo_68 : tbo 68 = false := rfl
@[go_sem] theorem tbo_69 : tbo 69 = false := rfl
@[go_sem] theorem tbo_70 : tbo 70 = false := rfl
@[go_sem] theorem tbo_74 : tbo 74 = false := rfl
@[go_sem] theorem tbo_75 : tbo 75 = false := rfl
@[go_sem] theorem tbo_81 : tbo 81 = false := rfl
@[go_sem] theorem tbo_82 : tbo 82 = false := rfl
@[go_sem] theorem tbo_106 : tbo 106 = false := rfl
@[go_sem] theorem tbo_107 : tbo 107 = false := rfl
@[go_sem] theorem tbo_109 : tbo 109 = false := rfl
@[go_sem] theorem tbo_110 : tbo 110 = false := rfl
@[go_sem] theorem tbo_113 : tbo 113 = false := rfl
@[go_sem] theorem tbo_120 : tbo 120 = false := rfl
@[go_sem] theorem tbo_135 : tbo 135 = false := rfl
@[go_sem] theorem tbo_144 : tbo 144 = false := rfl
@[go_sem] theorem tbo_146 : tbo 146 = false := rfl
@[go_sem] theorem tbo_154 : tbo 154 = false := rfl
@[go_sem] theorem tbo_181 : tbo 181 = false := rfl
@[go_sem] theorem tbo_182 : tbo 182 = false := rfl
@[go_sem] theorem tbo_193 : tbo 193 = false := rfl
@[go_sem] theorem tbo_194 : tbo 194 = false := rfl
@[go_sem] theorem tbo_197 : tbo 197 = false := rfl
@[go_sem] theorem tbo_198 : tbo 198 = false := rfl
@[go_sem] theorem dead_6_4 : dead 6 4 = [0, 2, 6, 7, 8, 9, 10, 11, 12, 13, 14, 15, 16, 17, 18, 19, 20, 21, 22] := rfl
@[go_sem] theorem dead_8_3 : dead 8 3 = [0, 2, 4, 5, 6, 10, 11, 12, 13, 14, 15, 16, 17, 18, 19] := rfl
@[go_sem] theorem dead_11_3 : dead 11 3 = [0, 2, 5, 6, 7, 8, 9, 10, 11, 12, 13, 14, 15, 16, 17, 18, 19, 20, 21, 22, 23, 24, 25, 26, 27, 28, 29, 30, 31, 32, 33, 34, 35, 36, 37, 38, 39, 40, 41, 42, 43, 44, 45, 46, 47] := rfl
@[go_sem] theorem dead_13_3 : dead 13 3 = [0, 2, 4, 5, 6, 7, 11, 12, 13, 14, 15, 16, 17, 18, 19, 20, 21, 22, 23, 24, 25, 26, 27, 28, 29, 30, 31, 32, 33, 34, 35, 36, 37, 38, 39, 40, 41, 42, 43] := rfl
@[go_sem] theorem dead_15_5 : dead 15 5 = [2, 3, 4, 6, 7, 8, 9, 10, 11, 12, 13, 14, 15, 16, 17, 18, 19, 20, 21, 22, 23, 24, 25, 26] := rfl
@[go_sem] theorem dead_16_4 : dead 16 4 = [0, 2, 6, 7, 8, 9, 10, 11, 12, 13, 14, 15, 16, 17, 18, 19, 20, 21, 22, 23, 24, 25, 26, 27, 28, 29, 30, 31, 32, 33, 34, 35, 36, 37, 38, 39, 40, 41, 42, 43, 44, 45] := rfl
@[go_sem] theorem dead_17_8 : dead 17 8 = [0, 2, 5, 6, 7, 8, 9, 10, 11, 12, 13, 14, 15, 16, 17, 18, 19, 20, 21, 22, 23, 24, 25, 26, 27, 28, 29, 30, 31, 32, 33, 34, 35, 36, 37, 38, 39, 40, 41, 42, 43, 44, 45, 46, 47, 48, 49, 50, 51, 52, 53] := rfl
@[go_sem] theorem dead_18_3 : dead 18 3 = [1, 2, 5, 6, 7, 8, 9, 10, 11, 12, 13, 14, 15, 16, 17, 18, 19, 20, 21, 22] := rfl
@[go_sem] theorem dead_19_3 : dead 19 3 = [0, 2, 4, 5, 6, 7, 8, 9, 10, 11, 12, 13, 14, 18, 19, 20, 21, 22, 23, 24, 25, 26, 27, 28, 29, 30, 31, 32, 33, 34, 35, 36, 37, 38, 39, 40, 41, 42, 43, 44, 45, 46, 47, 48, 49, 50, 51, 52, 53, 54, 55, 56, 57, 58, 59, 60, 61] := rfl
@[go_sem] theorem dead_19_8 : dead 19 8 = [0, 2, 4, 7, 9, 10, 11, 12, 13, 14, 18, 19, 20, 21, 22, 23, 24, 25, 26, 27, 31, 32, 33, 34, 35, 36, 37, 38, 39, 40, 41, 42, 43, 44, 45, 46, 47, 48, 49, 50, 51, 52, 53, 54, 55, 56, 57, 58, 59, 60, 61] := rfl
@[go_sem] theorem dead_20_8 : dead 20 8 = [0, 2, 4, 5, 6, 7, 8, 9, 10, 11, 12, 13, 14, 15, 16, 17, 18, 19, 20, 21, 22, 23, 24, 25, 26, 27, 28, 29, 30, 34, 35, 36, 37, 38, 39, 40, 41, 42, 43, 44, 45, 46, 47] := rfl
@[go_sem] theorem dead_21_4 : dead 21 4 = [2, 3, 4, 6, 7, 8, 9, 10, 11, 12, 13, 14, 15, 16, 17, 18, 19, 20, 21, 22, 23, 24, 25, 26] := rfl
@[go_sem] theorem dead_22_5 : dead 22 5 = [2, 3, 4, 6, 7, 8, 9, 10, 11, 12, 13, 14, 15, 16, 17, 18, 19, 20, 21, 22, 23, 24, 25, 26] := rfl
@[go_sem] theorem dead_25_3 : dead 25 3 = [0, 2, 5, 6, 7, 8, 9, 10, 11, 12, 13, 14, 15, 16, 17, 18, 19, 20, 21, 22, 23, 24, 25, 26, 27, 28, 29, 30, 31, 32, 33, 34, 35, 36, 37, 38, 39, 40, 41, 42, 43, 44, 45, 46, 47, 48, 49] := rfl
@[go_sem] theorem dead_25_8 : dead 25 8 = [0, 2, 7, 8, 9, 10, 11, 12, 13, 14, 15, 16, 17, 18, 19, 20, 21, 22, 23, 24, 25, 26, 27, 28, 29, 30, 31, 32, 33, 34, 35, 36, 37, 38, 39, 40, 41, 42, 43, 44, 45, 46, 47, 48, 49] := rfl
@[go_sem] theorem dead_26_3 : dead 26 3 = [1, 2, 5, 6, 7, 8, 9, 10, 11, 12, 13, 14, 15, 16, 17, 18, 19, 20, 21, 22] := rfl
@[go_sem] theorem dead_28_3 : dead 28 3 = [0, 2, 4, 5, 6, 7, 8, 12, 13, 14, 15, 16, 17, 18, 19, 20, 21, 22, 23, 24, 25, 26, 27, 28, 29, 30, 31, 32, 33, 34, 35, 36, 37, 38, 39] := rfl
@[go_sem] theorem dead_28_7 : dead 28 7 = [0, 2, 4, 6, 7, 8, 12, 13, 14, 15, 16, 17, 18, 19, 20, 21, 25, 26, 27, 28, 29, 30, 31, 32, 33, 34, 35, 36, 37, 38, 39] := rfl
@[go_sem] theorem dead_29_4 : dead 29 4 = [2, 3, 4, 6, 7, 8, 9, 10, 11, 12, 13, 14, 15, 16, 17, 18, 19, 20, 21, 22, 23, 24, 25, 26] := rfl
@[go_sem] theorem dead_33_2 : dead 33 2 = [0, 4, 5, 6, 8, 9, 10, 11, 12, 13, 14, 15, 16, 17, 18, 19, 20, 21, 22, 23, 24, 25, 26, 27, 28, 29, 30, 31] := rfl
@[go_sem] theorem dead_37_6 : dead 37 6 = [0, 1, 3, 4, 5, 6, 7, 9, 10, 11, 12, 13, 14, 15, 16, 17, 18, 19, 23, 24, 25, 26, 27, 28, 29, 30, 31, 32, 33, 34, 35, 36, 37, 38, 39, 40, 41, 42, 43, 44, 45] := rfl
@[go_sem] theorem dead_43_5 : dead 43 5 = [2, 3, 4, 6, 7, 8, 9, 10, 11, 12, 13, 14, 15, 16, 17, 18, 19, 20, 21, 22, 23, 24, 25, 26] := rfl
@[go_sem] theorem dead_44_5 : dead 44 5 = [2, 3, 4, 6, 7, 8, 9, 10, 11, 12, 13, 14, 15, 16, 17, 18, 19, 20, 21, 22, 23, 24, 25, 26] := rfl
@[go_sem] theorem dead_45_4 : dead 45 4 = [0, 2, 4, 5, 6, 7, 8, 9, 10, 11, 12, 13, 14, 15, 16, 17, 18, 19, 20, 21, 22, 23, 24, 25, 26, 27, 28, 29, 30, 31, 32, 33, 34, 35, 36, 37, 38, 39, 40, 41, 42, 43, 44, 45, 46, 47, 48, 49, 50, 51, 52] := rfl
@[go_sem] theorem dead_45_10 : dead 45 10 = [0, 2, 6, 7, 8, 9, 10, 11, 12, 13, 14, 15, 16, 17, 18, 19, 20, 21, 22, 23, 24, 25, 26, 27, 28, 29, 30, 31, 32, 33, 34, 35, 36, 37, 38, 39, 40, 41, 42, 43, 44, 45, 46, 47, 48, 49, 50, 51, 52] := rfl
@[go_sem] theorem dead_46_3 : dead 46 3 = [0, 1, 5, 6, 7, 9, 11, 12, 13, 14, 15, 16, 17, 18, 19, 20, 21, 22, 23, 24, 25, 26, 27, 28, 29, 30, 31, 32, 33, 34, 35, 36, 37, 38, 39, 40, 41, 42, 43, 44, 45, 46, 47, 48, 49, 50, 51] := rfl
@[go_sem] theorem dead_47_3 : dead 47 3 = [0, 1, 2, 5, 6, 7, 8, 9, 10, 11, 12, 13, 14, 15, 16, 17, 18, 19, 20, 21, 22, 23, 24, 25, 26, 27, 28, 29, 30, 31, 32, 33, 34, 35, 36, 37, 38, 39, 40, 41, 42, 43, 44, 45, 46] := rfl
@[go_sem] theorem dead_47_7 : dead 47 7 = [0, 1, 2, 7, 8, 9, 10, 11, 12, 13, 14, 15, 16, 17, 18, 19, 20, 21, 22, 23, 24, 25, 26, 27, 28, 29, 30, 31, 32, 33, 34, 35, 36, 37, 38, 39, 40, 41, 42, 43, 44, 45, 46] := rfl
@[go_sem] theorem dead_50_3 : dead 50 3 = [1, 2, 5, 6, 7, 8, 9, 10, 11, 12, 13, 14, 15, 16, 17, 18, 19, 20, 21] := rfl
@[go_sem] theorem dead_51_3 : dead 51 3 = [1, 2, 5, 6, 7, 8, 9, 10, 11, 12, 13, 14, 15, 16, 17, 18, 19, 20, 21, 22] := rfl
@[go_sem] theorem dead_52_3 : dead 52 3 = [1, 2, 5, 6, 7, 8, 9, 10, 11, 12, 13, 14, 15, 16, 17, 18, 19, 20, 21, 22] := rfl
@[go_sem] theorem dead_53_4 : dead 53 4 = [0, 2, 3, 4, 5, 6, 7, 8, 9, 10, 11, 12, 13, 14, 15, 16, 17, 18, 19, 23, 24, 25, 26, 27, 28, 29, 30, 31, 32, 33, 34, 35, 36, 37, 38, 39, 40, 41, 42, 43, 44, 45, 46] := rfl
@[go_sem] theorem dead_53_9 : dead 53 9 = [0, 2, 3, 5, 6, 7, 8, 9, 10, 11, 12, 13, 14, 15, 16, 17, 18, 19, 23, 24, 25, 26, 27, 28, 29, 30, 31, 32, 33, 37, 38, 39, 40, 41, 42, 43, 44, 45, 46] := rfl
@[go_sem] theorem dead_55_3 : dead 55 3 = [0, 1, 5, 6, 8, 9, 10, 11, 12, 13, 14, 18, 19, 20, 21, 22, 23, 24, 25, 26, 27, 28, 29, 30, 31, 32, 33, 34, 35, 36, 37, 38, 39, 40, 41, 42, 43, 44] := rfl
@[go_sem] theorem dead_58_2 : dead 58 2 = [0, 3, 4, 5, 6, 7, 11, 12, 13, 14, 15, 16, 17, 18, 19, 20] := rfl
@[go_sem] theorem dead_59_4 : dead 59 4 = [2, 3, 4, 6, 7, 8, 9, 10, 11, 12, 13, 14, 15, 16, 17, 18, 19, 20, 21, 22, 23, 24, 25] := rfl
@[go_sem] theorem dead_60_4 : dead 60 4 = [2, 3, 4, 6, 7, 8, 9, 10, 11, 12, 13, 14, 15, 16, 17, 18, 19, 20, 21, 22, 23, 24, 25, 26] := rfl
@[go_sem] theorem dead_61_4 : dead 61 4 = [2, 3, 4, 6, 7, 8, 9, 10, 11, 12, 13, 14, 15, 16, 17, 18, 19, 20, 21, 22, 23, 24, 25, 26] := rfl
@[go_sem] theorem dead_64_4 : dead 64 4 = [0, 2, 4, 5, 6, 7, 8, 9, 10, 11, 12, 13, 14, 15, 16, 17, 18, 19, 20, 21, 22, 23, 24, 25, 26, 27, 28, 29, 30, 31, 32, 33, 34, 35, 36, 37, 38, 39, 40, 41, 42, 43, 44, 45, 46, 47, 48, 49, 50, 51, 52, 53, 54, 55, 56, 57, 58, 59, 60, 61, 62, 63, 64, 65, 66, 67] := rfl
@[go_sem] theorem dead_65_6 : dead 65 6 = [0, 2, 5, 6, 7, 8, 9, 10, 11, 12, 13, 14, 15, 16, 17, 18, 19, 20, 21, 22, 23] := rfl
@[go_sem] theorem dead_66_3 : dead 66 3 = [0, 3, 4, 7, 8, 9, 10, 11, 12, 13, 14, 15, 16, 17, 18, 19, 20, 21, 22, 23, 24, 25, 26, 27, 28, 29, 30, 31, 32, 33, 34, 35, 36, 37, 38, 39, 40, 41, 42, 43, 44, 45, 46, 47, 48, 49] := rfl
@[go_sem] theorem dead_66_6 : dead 66 6 = [0, 3, 4, 8, 9, 10, 11, 12, 13, 14, 15, 16, 17, 18, 19, 20, 21, 22, 23, 24, 25, 26, 27, 28, 29, 30, 31, 32, 33, 34, 35, 36, 37, 38, 39, 40, 41, 42, 43, 44, 45, 46, 47, 48, 49] := rfl
@[go_sem] theorem dead_67_2 : dead 67 2 = [0, 3, 4, 6, 7, 8, 9, 10, 11, 12, 13, 14, 15, 16, 17, 18, 19, 20, 21] := rfl
@[go_sem] theorem dead_68_6 : dead 68 6 = [1, 2, 3, 7, 8, 9, 10, 11, 12, 13, 14, 15, 16, 17, 18, 19, 20, 21, 22, 23, 24, 25, 26, 27, 28, 29, 30, 31, 32, 33, 34, 35, 36, 37, 38, 39, 40, 41, 42, 43, 44, 45, 46, 47, 48, 49, 50, 51, 52, 53, 54, 55, 56, 57, 58] := rfl
@[go_sem] theorem dead_69_3 : dead 69 3 = [0, 3, 4, 5, 8, 9, 10, 11, 12, 13, 14, 15, 16, 17, 18, 19, 20, 21, 22, 23, 24, 25, 26, 27, 28, 29, 30, 31, 32, 33, 34, 35, 36, 37, 38, 39] := rfl
@[go_sem] theorem dead_73_4 : dead 73 4 = [0, 2, 3, 4, 6, 7, 8, 9, 10, 11, 12, 13, 14, 15, 16, 17, 21, 22, 23, 24, 25, 26, 27, 28, 29, 30, 31, 32, 33, 34, 35, 36, 37, 38, 39, 40, 41, 42, 43, 44, 45, 46, 47, 48, 49, 50, 51, 52, 53, 54, 55, 56, 57, 58, 59, 60, 61, 62] := rfl
@[go_sem] theorem dead_74_3 : dead 74 3 = [0, 2, 5, 6, 7, 8, 9, 10, 11, 12, 13, 14, 15, 16, 17, 18, 19, 20, 21, 22, 23, 24, 25, 26, 27, 28, 29, 30, 31, 32, 33, 34, 35, 36, 37, 38, 39, 40, 41, 42, 43, 44, 45, 46, 47, 48, 49, 50, 51, 52, 53, 54, 55] := rfl
@[go_sem] theorem dead_74_11 : dead 74 11 = [0, 2, 5, 7, 8, 9, 10, 11, 12, 13, 14, 15, 16, 17, 18, 19, 20, 21, 22, 23, 24, 25, 26, 27, 28, 29, 30, 31, 32, 33, 34, 35, 36, 37, 38, 39, 40, 44, 45, 46, 47, 48, 49, 50, 51, 52, 53, 54, 55] := rfl
@[go_sem] theorem dead_75_3 : dead 75 3 = [0, 3, 4, 6, 7, 8, 9, 10, 14, 15, 16, 17, 18, 19, 20, 21, 22, 23, 24, 25, 26, 27, 28, 29, 30, 31, 32, 33, 34, 35] := rfl
@[go_sem] theorem dead_75_7 : dead 75 7 = [0, 3, 4, 6, 8, 9, 10, 14, 15, 16, 17, 18, 19, 20, 24, 25, 26, 27, 28, 29, 30, 31, 32, 33, 34, 35] := rfl
@[go_sem] theorem dead_78_2 : dead 78 2 = [4, 5, 6, 7, 10, 11, 12, 13, 14, 15, 16, 17, 18, 19, 20, 21, 22, 23, 24, 25, 26, 27, 28, 29, 30, 31, 32, 33, 34, 35, 36, 37, 38, 39, 40, 41, 42, 43, 44, 45, 46, 47, 48, 49, 50, 51, 52, 53, 54, 55, 56, 57, 58, 59, 60, 61, 62, 63, 64, 65, 66, 67, 68, 69, 70, 71, 72, 73, 74, 75, 76, 77, 78, 79, 80, 81, 82, 83, 84, 85, 86, 87, 88, 89, 90, 91, 92, 93, 94, 95, 96, 97, 98, 99, 100, 101, 102, 103, 104, 105, 106, 107, 108, 109, 110, 111, 112, 113, 114, 115, 116, 117, 118, 119, 120, 121, 122, 123, 124, 125, 126, 127, 128, 129, 130, 131, 132, 133] := rfl
@[go_sem] theorem dead_86_3 : dead 86 3 = [0, 3, 4, 7, 8, 9, 10, 11, 12, 13, 14, 15, 16, 17, 18, 19, 20, 21, 22, 23, 24, 25, 26, 27, 28, 29, 30, 31, 32, 33, 34, 35, 36, 37, 38, 39, 40, 41, 42, 43, 44, 45, 46, 47, 48, 49, 50, 51, 52, 53, 54, 55, 56, 57, 58] := rfl
@[go_sem] theorem dead_86_7 : dead 86 7 = [0, 3, 4, 10, 11, 12, 13, 14, 15, 16, 17, 18, 19, 20, 21, 22, 23, 24, 25, 26, 27, 28, 29, 30, 31, 32, 33, 34, 35, 36, 37, 38, 39, 40, 41, 42, 43, 44, 45, 46, 47, 48, 49, 50, 51, 52, 53, 54, 55, 56, 57, 58] := rfl
@[go_sem] theorem dead_87_2 : dead 87 2 = [1, 2, 4, 5, 6, 7, 8, 9, 10, 11, 12, 13, 14, 15, 16, 17, 18, 19, 20, 21, 22, 23, 24, 25, 26, 27, 28, 29, 30, 31, 32, 33, 34, 35, 36, 37, 38, 39, 40, 41, 42, 43, 44, 45] := rfl
@[go_sem] theorem dead_88_2 : dead 88 2 = [0, 3, 4, 6, 7, 8, 9, 10, 11, 12, 13, 14, 15, 16, 17, 18, 19, 20, 21, 22, 23, 24, 25, 26] := rfl
@[go_sem] theorem dead_90_4 : dead 90 4 = [0, 2, 3, 4, 5, 6, 7, 8, 9, 10, 11, 12, 13, 14, 15, 16, 17, 18, 19, 20, 21, 22, 23, 24, 25, 26, 27, 31, 32, 33, 34, 35, 36, 37, 38, 39, 40, 41, 42, 43, 44, 45, 46, 47, 48, 49, 50, 51, 52, 53, 54, 55, 56, 57, 58, 59, 60, 61, 62, 63, 64, 65, 66, 67, 68, 69, 70, 71, 72, 73, 74, 75, 76, 77, 78, 79, 80, 81, 82, 83, 84, 85, 86, 87, 88, 89, 90, 91, 92, 93] := rfl
@[go_sem] theorem dead_93_2 : dead 93 2 = [2, 3, 4, 5, 6, 9, 10, 11, 12, 13, 14, 15, 16, 17, 18] := rfl
@[go_sem] theorem dead_98_1 : dead 98 1 = [3, 4, 5, 7, 8, 9, 10, 11, 12, 13, 14, 15, 16, 17, 18, 19, 20, 21, 22, 23, 24, 25, 26, 27, 28, 29, 30, 31, 32, 33, 34, 35, 36, 37, 38, 39, 40, 41, 42, 43, 44, 45, 46, 47, 48] := rfl
@[go_sem] theorem dead_98_4 : dead 98 4 = [3, 4, 5, 8, 9, 10, 11, 12, 13, 14, 15, 16, 17, 18, 19, 20, 21, 22, 23, 24, 25, 26, 27, 28, 29, 30, 31, 32, 33, 34, 35, 36, 37, 38, 39, 40, 41, 42, 43, 44, 45, 46, 47, 48] := rfl
@[go_sem] theorem dead_99_4 : dead 99 4 = [1, 2, 3, 4, 5, 10, 11, 12, 13, 14, 15, 16, 17, 18, 19, 20, 21, 22, 23, 24, 25, 26, 27, 28, 29, 30, 31, 32, 33, 34, 35, 36, 37, 38, 39, 40, 41, 42, 43, 44, 45, 46, 47, 48, 49, 50, 51, 52, 53, 54, 55] := rfl
@[go_sem] theorem dead_99_8 : dead 99 8 = [1, 2, 3, 4, 5, 8, 9, 11, 12, 13, 14, 15, 16, 17, 18, 19, 20, 21, 22, 23, 24, 25, 26, 27, 28, 29, 30, 31, 32, 33, 34, 35, 36, 37, 38, 39, 40, 41, 42, 43, 44, 45, 46, 47, 48, 49, 50, 51, 52, 53, 54, 55] := rfl
@[go_sem] theorem dead_100_5 : dead 100 5 = [2, 3, 4, 5, 10, 11, 12, 13, 14, 15, 16, 17, 18, 19, 20, 21, 22, 23, 24, 25, 26, 27, 28, 29, 30, 31, 32, 33, 34, 35, 36, 37, 38, 39, 40, 41, 42, 43, 44, 45, 46, 47, 48, 49, 50, 51, 52, 53, 54, 55, 56, 57, 58, 59, 60, 61, 62, 63, 64] := rfl
@[go_sem] theorem dead_102_2 : dead 102 2 = [1, 2, 3, 4, 5, 8, 9, 10, 11, 12, 13, 14, 15, 16, 17, 18, 19, 20, 21, 22, 23, 24, 25, 26, 27, 28, 29, 30, 31] := rfl
@[go_sem] theorem dead_103_3 : dead 103 3 = [3, 4, 5, 6, 9, 10, 11, 12, 13, 14, 15, 16, 17, 18, 19, 20, 21, 22, 23, 24, 25, 26, 27, 28, 29, 30, 31, 32, 33, 34, 35, 36, 37, 38, 39, 40, 41, 42, 43, 44, 45, 46, 47, 48, 49, 50, 51, 52, 53, 54, 55, 56, 57, 58, 59, 60, 61, 62, 63, 64, 65, 66, 67, 68, 69, 70, 71, 72, 73, 74, 75, 76, 77, 78, 79, 80, 81, 82, 83, 84, 85, 86, 87, 88, 89, 90, 91, 92, 93, 94, 95, 96, 97, 98, 99, 100, 101, 102, 103, 104, 105, 106, 107, 108, 109, 110, 111, 112, 113, 114, 115, 116, 117, 118, 119, 120, 121, 122, 123, 124, 125, 126, 127, 128, 129, 130, 131, 132] := rfl
@[go_sem] theorem dead_103_5 : dead 103 5 = [3, 4, 5, 6, 9, 10, 11, 12, 13, 14, 15, 16, 17, 18, 19, 20, 21, 22, 23, 24, 25, 26, 27, 28, 29, 30, 31, 32, 33, 34, 35, 36, 37, 38, 39, 40, 41, 42, 43, 44, 45, 46, 47, 48, 49, 50, 51, 52, 53, 54, 55, 56, 57, 58, 59, 60, 61, 62, 63, 64, 65, 66, 67, 68, 69, 70, 71, 72, 73, 74, 75, 76, 77, 78, 79, 80, 81, 82, 83, 84, 85, 86, 87, 88, 89, 90, 91, 92, 93, 94, 95, 96, 97, 98, 99, 100, 101, 102, 103, 104, 105, 106, 107, 108, 109, 110, 111, 112, 113, 114, 115, 116, 117, 118, 119, 120, 121, 122, 123, 124, 125, 126, 127, 128, 129, 130, 131, 132] := rfl
@[go_sem] theorem dead_103_14 : dead 103 14 = [3, 4, 5, 6, 10, 11, 12, 13, 14, 15, 16, 17, 18, 19, 20, 21, 22, 23, 24, 25, 26, 27, 28, 29, 30, 31, 32, 33, 34, 35, 36, 37, 38, 39, 40, 41, 42, 43, 44, 45, 46, 47, 48, 49, 50, 51, 52, 53, 54, 55, 56, 57, 58, 59, 60, 61, 62, 63, 64, 65, 66, 67, 68, 69, 70, 71, 72, 73, 74, 75, 76, 77, 78, 79, 80, 81, 82, 83, 84, 85, 86, 87, 88, 89, 90, 91, 92, 93, 94, 95, 96, 97, 98, 99, 100, 101, 102, 103, 104, 105, 106, 107, 108, 109, 110, 111, 112, 113, 114, 115, 116, 117, 118, 119, 120, 121, 122, 123, 124, 125, 126, 127, 128, 129, 130, 131, 132] := rfl
@[go_sem] theorem dead_103_20 : dead 103 20 = [3, 4, 5, 6, 9, 11, 12, 13, 14, 15, 16, 17, 18, 19, 20, 21, 22, 23, 24, 25, 26, 27, 28, 29, 30, 31, 32, 33, 34, 35, 36, 37, 38, 39, 40, 41, 42, 43, 44, 45, 46, 47, 48, 49, 50, 51, 52, 53, 54, 55, 56, 57, 58, 59, 60, 61, 62, 63, 64, 65, 66, 67, 68, 69, 70, 71, 72, 73, 74, 75, 76, 77, 78, 79, 80, 81, 82, 83, 84, 85, 86, 87, 88, 89, 90, 91, 92, 93, 94, 95, 96, 97, 98, 99, 100, 101, 102, 103, 104, 105, 106, 107, 108, 109, 110, 111, 112, 113, 114, 115, 116, 117, 118, 119, 120, 121, 122, 123, 124, 125, 126, 127, 128, 129, 130, 131, 132] := rfl
@[go_sem] theorem dead_105_3 : dead 105 3 = [2, 3, 4, 5, 6, 7, 8, 11, 12, 13, 14, 15, 16, 17, 18, 19, 20, 21, 22, 23, 24, 25, 26, 27, 28, 29, 30, 31, 32, 33, 34, 35, 36, 37, 38, 39, 40, 41, 42, 43, 44, 45, 46, 47, 48, 49, 50, 51, 52, 53, 54, 55, 56, 57, 58, 59, 60, 61, 62, 63, 64, 65, 66, 67, 68, 69, 70, 71, 72, 73, 74, 75, 76, 77, 78, 79, 80, 81, 82, 83] := rfl
@[go_sem] theorem dead_105_5 : dead 105 5 = [2, 3, 4, 5, 6, 7, 8, 11, 12, 13, 14, 15, 16, 17, 18, 19, 20, 21, 22, 23, 24, 25, 26, 27, 28, 29, 30, 31, 32, 33, 34, 35, 36, 37, 38, 39, 40, 41, 42, 43, 44, 45, 46, 47, 48, 49, 50, 51, 52, 53, 54, 55, 56, 57, 58, 59, 60, 61, 62, 63, 64, 65, 66, 67, 68, 69, 70, 71, 72, 73, 74, 75, 76, 77, 78, 79, 80, 81, 82, 83] := rfl
@[go_sem] theorem dead_106_3 : dead 106 3 = [2, 3, 4, 5, 6, 7, 8, 9, 12, 13, 14, 15, 16, 17, 18, 19, 20, 21, 22, 23, 24, 25, 26, 27, 28, 29, 30, 31, 32, 33, 34, 35, 36, 37, 38, 39, 40, 41, 42, 43, 44, 45, 46, 47, 48, 49, 50, 51, 52, 53, 54, 55, 56, 57, 58, 59, 60, 61, 62, 63, 64, 65, 66, 67, 68, 69, 70, 71, 72, 73, 74, 75, 76, 77, 78, 79, 80, 81, 82, 83, 84, 85, 86, 87, 88, 89, 90, 91, 92, 93, 94, 95, 96, 97, 98, 99, 100, 101, 102, 103, 104, 105, 106, 107, 108, 109, 110, 111, 112, 113, 114, 115, 116, 117, 118, 119, 120, 121, 122, 123, 124, 125, 126, 127, 128, 129, 130, 131, 132, 133, 134, 135, 136, 137, 138, 139, 140, 141, 142, 143, 144, 145, 146, 147, 148, 149, 150, 151, 152, 153, 154, 155, 156, 157, 158, 159, 160, 161, 162, 163, 164, 165, 166, 167] := rfl
@[go_sem] theorem dead_106_5 : dead 106 5 = [2, 3, 4, 5, 6, 7, 8, 9, 12, 13, 14, 15, 16, 17, 18, 19, 20, 21, 22, 23, 24, 25, 26, 27, 28, 29, 30, 31, 32, 33, 34, 35, 36, 37, 38, 39, 40, 41, 42, 43, 44, 45, 46, 47, 48, 49, 50, 51, 52, 53, 54, 55, 56, 57, 58, 59, 60, 61, 62, 63, 64, 65, 66, 67, 68, 69, 70, 71, 72, 73, 74, 75, 76, 77, 78, 79, 80, 81, 82, 83, 84, 85, 86, 87, 88, 89, 90, 91, 92, 93, 94, 95, 96, 97, 98, 99, 100, 101, 102, 103, 104, 105, 106, 107, 108, 109, 110, 111, 112, 113, 114, 115, 116, 117, 118, 119, 120, 121, 122, 123, 124, 125, 126, 127, 128, 129, 130, 131, 132, 133, 134, 135, 136, 137, 138, 139, 140, 141, 142, 143, 144, 145, 146, 147, 148, 149, 150, 151, 152, 153, 154, 155, 156, 157, 158, 159, 160, 161, 162, 163, 164, 165, 166, 167] := rfl
@[go_sem] theorem dead_106_13 : dead 106 13 = [2, 3, 4, 5, 6, 7, 8, 9, 12, 13, 14, 15, 16, 17, 18, 19, 20, 21, 22, 23, 24, 25, 26, 27, 28, 29, 30, 31, 32, 33, 34, 35, 36, 37, 38, 39, 40, 41, 42, 43, 44, 45, 46, 47, 48, 49, 50, 51, 52, 53, 54, 55, 56, 57, 58, 59, 60, 61, 62, 63, 64, 65, 66, 67, 68, 69, 70, 71, 72, 73, 74, 75, 76, 77, 78, 79, 80, 81, 82, 83, 84, 85, 86, 87, 88, 89, 90, 91, 92, 93, 94, 95, 96, 97, 98, 99, 100, 101, 102, 103, 104, 105, 106, 107, 108, 109, 110, 111, 112, 113, 114, 115, 116, 117, 118, 119, 120, 121, 122, 123, 124, 125, 126, 127, 128, 129, 130, 131, 132, 133, 134, 135, 136, 137, 138, 139, 140, 141, 142, 143, 144, 145, 146, 147, 148, 149, 150, 151, 152, 153, 154, 155, 156, 157, 158, 159, 160, 161, 162, 163, 164, 165, 166, 167] := rfl
@[go_sem] theorem dead_106_15 : dead 106 15 = [2, 3, 4, 5, 6, 7, 8, 9, 12, 13, 14, 15, 16, 17, 18, 19, 20, 21, 22, 23, 24, 25, 26, 27, 28, 29, 30, 31, 32, 33, 34, 35, 36, 37, 38, 39, 40, 41, 42, 43, 44, 45, 46, 47, 48, 49, 50, 51, 52, 53, 54, 55, 56, 57, 58, 59, 60, 61, 62, 63, 64, 65, 66, 67, 68, 69, 70, 71, 72, 73, 74, 75, 76, 77, 78, 79, 80, 81, 82, 83, 84, 85, 86, 87, 88, 89, 90, 91, 92, 93, 94, 95, 96, 97, 98, 99, 100, 101, 102, 103, 104, 105, 106, 107, 108, 109, 110, 111, 112, 113, 114, 115, 116, 117, 118, 119, 120, 121, 122, 123, 124, 125, 126, 127, 128, 129, 130, 131, 132, 133, 134, 135, 136, 137, 138, 139, 140, 141, 142, 143, 144, 145, 146, 147, 148, 149, 150, 151, 152, 153, 154, 155, 156, 157, 158, 159, 160, 161, 162, 163, 164, 165, 166, 167] := rfl
@[go_sem] theorem dead_109_11 : dead 109 11 = [4, 5, 6, 7, 8, 11, 12, 13, 14, 15, 16, 17, 18, 19, 20, 21, 22, 23, 24, 25, 26, 27, 28, 29, 30, 31, 32, 33, 34, 35, 36, 37, 38, 39, 40, 41, 42, 43, 44, 45, 46, 47, 48, 49, 50, 51, 52, 53, 54, 55, 56, 57, 58, 59, 60, 61, 62, 63, 64, 65] := rfl
@[go_sem] theorem dead_112_2 : dead 112 2 = [1, 2, 3, 4, 5, 8, 9, 10, 11, 12, 13, 14, 15, 16, 17, 18, 19, 20, 21, 22, 23, 24, 25, 26, 27, 28, 29, 30, 31, 32, 33, 34, 35, 36, 37, 38, 39, 40, 41, 42, 43, 44, 45, 46, 47, 48, 49, 50, 51, 52, 53, 54, 55] := rfl
@[go_sem] theorem dead_113_2 : dead 113 2 = [1, 2, 4, 5, 6, 7, 8, 9, 10, 11, 12, 13, 14, 15, 16, 17, 18, 19, 20, 21, 22, 23, 24, 25, 26, 27, 28, 29, 30, 31, 32, 33, 34, 35, 36, 37, 38, 39, 40, 41, 42, 43, 44, 45, 46] := rfl
@[go_sem] theorem dead_114_2 : dead 114 2 = [1, 2, 4, 5, 6, 7, 8, 9, 10, 11, 12, 13, 14, 15, 16, 17, 18, 19, 20, 21, 22, 23, 24, 25, 26, 27, 28, 29, 30, 31, 32, 33, 34, 35, 36, 37, 38, 39, 40, 41, 42, 43, 44, 45, 46, 47] := rfl
@[go_sem] theorem dead_115_5 : dead 115 5 = [0, 2, 3, 4, 7, 8, 9, 10, 11, 12, 13, 14, 15, 16, 17, 18, 19, 20, 21, 22, 23, 24, 25, 26, 27, 28, 29, 30, 31, 32, 33, 34, 35, 36, 37, 38, 39, 40, 41, 42, 43, 44, 45] := rfl
@[go_sem] theorem dead_116_2 : dead 116 2 = [1, 2, 3, 4, 8, 9, 10, 11, 12, 13, 14, 15, 16, 17, 18, 19, 20, 21, 22, 23, 24, 25, 26, 27, 28, 29, 30, 31, 32, 33, 34, 35, 36, 37, 38, 39, 40, 41] := rfl
@[go_sem] theorem dead_117_2 : dead 117 2 = [2, 3, 4, 5, 6, 9, 10, 11, 12, 13, 14, 15, 16, 17, 18] := rfl
@[go_sem] theorem dead_118_2 : dead 118 2 = [4, 5, 6, 7, 10, 11, 12, 13, 14, 15, 16, 17, 18, 19, 20, 21, 22, 23, 24, 25, 26, 27, 28, 29, 30, 31, 32, 33, 34, 35, 36, 37, 38, 39, 40, 41, 42, 43, 44, 45, 46, 47, 48, 49, 50, 51, 52, 53, 54, 55, 56, 57, 58, 59, 60, 61, 62, 63, 64, 65, 66, 67, 68, 69, 70, 71, 72, 73, 74, 75, 76, 77, 78, 79, 80, 81, 82, 83, 84, 85, 86, 87, 88, 89, 90, 91, 92, 93, 94, 95, 96, 97, 98, 99, 100, 101, 102, 103, 104, 105, 106, 107, 108, 109, 110, 111, 112, 113, 114, 115, 116, 117, 118, 119, 120, 121, 122, 123, 124, 125, 126, 127, 128, 129, 130, 131, 132, 133] := rfl
@[go_sem] theorem dead_119_1 : dead 119 1 = [1, 4, 5, 6, 7, 9, 10, 11, 12, 13, 14, 15, 16, 17, 18, 19, 20, 21, 22, 23, 24, 25, 26, 27, 28, 29, 30, 31, 32, 33, 34, 35, 36, 37, 38, 39, 40, 41, 42, 43, 44, 45, 46, 47, 48, 49, 50, 51, 52, 53, 54, 55, 56, 57, 58, 59, 60, 61, 62, 63, 64, 65, 66, 67, 68, 69, 70, 71, 72, 73, 74, 75] := rfl
@[go_sem] theorem dead_125_6 : dead 125 6 = [2, 3, 4, 5, 8, 9, 10, 11, 12, 13, 14, 15, 16, 17, 18, 19, 20, 21, 22, 23, 24, 25, 26, 27, 28, 29, 30, 31, 32, 33, 34, 35, 36, 37, 38, 39, 40, 41, 42, 43, 44, 45, 46, 47, 48, 49] := rfl
@[go_sem] theorem dead_126_6 : dead 126 6 = [2, 3, 4, 6, 7, 8, 9, 10, 11, 12, 13, 14, 15, 16, 17, 18, 19, 20, 21, 22, 23, 24, 25, 26, 27, 28, 29, 30, 31, 32, 33] := rfl
@[go_sem] theorem dead_128_2 : dead 128 2 = [2, 3, 4, 5, 6, 9, 10, 11, 12, 13, 14, 15, 16, 17, 18] := rfl
@[go_sem] theorem dead_129_2 : dead 129 2 = [2, 3, 4, 6, 7, 8, 9, 10, 11, 12, 13, 14, 15, 16, 17] := rfl
@[go_sem] theorem dead_130_1 : dead 130 1 = [3, 4, 5, 7, 8, 9, 10, 11, 12, 13, 14, 15, 16, 17, 18, 19, 20, 21, 22, 23, 24, 25, 26, 27, 28, 29, 30, 31, 32, 33, 34, 35, 36, 37, 38, 39, 40, 41, 42, 43, 44, 45, 46, 47, 48] := rfl
@[go_sem] theorem dead_130_4 : dead 130 4 = [3, 4, 5, 8, 9, 10, 11, 12, 13, 14, 15, 16, 17, 18, 19, 20, 21, 22, 23, 24, 25, 26, 27, 28, 29, 30, 31, 32, 33, 34, 35, 36, 37, 38, 39, 40, 41, 42, 43, 44, 45, 46, 47, 48] := rfl
@[go_sem] theorem dead_131_4 : dead 131 4 = [1, 2, 3, 4, 5, 10, 11, 12, 13, 14, 15, 16, 17, 18, 19, 20, 21, 22, 23, 24, 25, 26, 27, 28, 29, 30, 31, 32, 33, 34, 35, 36, 37, 38, 39, 40, 41, 42, 43, 44, 45, 46, 47, 48, 49, 50, 51, 52, 53, 54, 55] := rfl
@[go_sem] theorem dead_131_8 : dead 131 8 = [1, 2, 3, 4, 5, 8, 9, 11, 12, 13, 14, 15, 16, 17, 18, 19, 20, 21, 22, 23, 24, 25, 26, 27, 28, 29, 30, 31, 32, 33, 34, 35, 36, 37, 38, 39, 40, 41, 42, 43, 44, 45, 46, 47, 48, 49, 50, 51, 52, 53, 54, 55] := rfl
@[go_sem] theorem dead_132_5 : dead 132 5 = [2, 3, 4, 5, 10, 11, 12, 13, 14, 15, 16, 17, 18, 19, 20, 21, 22, 23, 24, 25, 26, 27, 28, 29, 30, 31, 32, 33, 34, 35, 36, 37, 38, 39, 40, 41, 42, 43, 44, 45, 46, 47, 48, 49, 50, 51, 52, 53, 54, 55, 56, 57, 58, 59, 60, 61, 62, 63, 64] := rfl
@[go_sem] theorem dead_134_2 : dead 134 2 = [1, 2, 3, 4, 5, 8, 9, 10, 11, 12, 13, 14, 15, 16, 17, 18, 19, 20, 21, 22, 23, 24, 25, 26, 27, 28, 29, 30, 31] := rfl
@[go_sem] theorem dead_135_3 : dead 135 3 = [3, 4, 5, 6, 9, 10, 11, 12, 13, 14, 15, 16, 17, 18, 19, 20, 21, 22, 23, 24, 25, 26, 27, 28, 29, 30, 31, 32, 33, 34, 35, 36, 37, 38, 39, 40, 41, 42, 43, 44, 45, 46, 47, 48, 49, 50, 51, 52, 53, 54, 55, 56, 57, 58, 59, 60, 61, 62, 63, 64, 65, 66, 67, 68, 69, 70, 71, 72, 73, 74, 75, 76, 77, 78, 79, 80, 81, 82, 83, 84, 85, 86, 87, 88, 89, 90, 91, 92, 93, 94, 95, 96, 97, 98, 99, 100, 101, 102, 103, 104, 105, 106, 107, 108, 109, 110, 111, 112, 113, 114, 115, 116, 117, 118, 119, 120, 121, 122, 123, 124, 125, 126, 127, 128, 129, 130, 131, 132] := rfl
@[go_sem] theorem dead_135_5 : dead 135 5 = [3, 4, 5, 6, 9, 10, 11, 12, 13, 14, 15, 16, 17, 18, 19, 20, 21, 22, 23, 24, 25, 26, 27, 28, 29, 30, 31, 32, 33, 34, 35, 36, 37, 38, 39, 40, 41, 42, 43, 44, 45, 46, 47, 48, 49, 50, 51, 52, 53, 54, 55, 56, 57, 58, 59, 60, 61, 62, 63, 64, 65, 66, 67, 68, 69, 70, 71, 72, 73, 74, 75, 76, 77, 78, 79, 80, 81, 82, 83, 84, 85, 86, 87, 88, 89, 90, 91, 92, 93, 94, 95, 96, 97, 98, 99, 100, 101, 102, 103, 104, 105, 106, 107, 108, 109, 110, 111, 112, 113, 114, 115, 116, 117, 118, 119, 120, 121, 122, 123, 124, 125, 126, 127, 128, 129, 130, 131, 132] := rfl
@[go_sem] theorem dead_135_14 : dead 135 14 = [3, 4, 5, 6, 10, 11, 12, 13, 14, 15, 16, 17, 18, 19, 20, 21, 22, 23, 24, 25, 26, 27, 28, 29, 30, 31, 32, 33, 34, 35, 36, 37, 38, 39, 40, 41, 42, 43, 44, 45, 46, 47, 48, 49, 50, 51, 52, 53, 54, 55, 56, 57, 58, 59, 60, 61, 62, 63, 64, 65, 66, 67, 68, 69, 70, 71, 72, 73, 74, 75, 76, 77, 78, 79, 80, 81, 82, 83, 84, 85, 86, 87, 88, 89, 90, 91, 92, 93, 94, 95, 96, 97, 98, 99, 100, 101, 102, 103, 104, 105, 106, 107, 108, 109, 110, 111, 112, 113, 114, 115, 116, 117, 118, 119, 120, 121, 122, 123, 124, 125, 126, 127, 128, 129, 130, 131, 132] := rfl
@[go_sem] theorem dead_135_20 : dead 135 20 = [3, 4, 5, 6, 9, 11, 12, 13, 14, 15, 16, 17, 18, 19, 20, 21, 22, 23, 24, 25, 26, 27, 28, 29, 30, 31, 32, 33, 34, 35, 36, 37, 38, 39, 40, 41, 42, 43, 44, 45, 46, 47, 48, 49, 50, 51, 52, 53, 54, 55, 56, 57, 58, 59, 60, 61, 62, 63, 64, 65, 66, 67, 68, 69, 70, 71, 72, 73, 74, 75, 76, 77, 78, 79, 80, 81, 82, 83, 84, 85, 86, 87, 88, 89, 90, 91, 92, 93, 94, 95, 96, 97, 98, 99, 100, 101, 102, 103, 104, 105, 106, 107, 108, 109, 110, 111, 112, 113, 114, 115, 116, 117, 118, 119, 120, 121, 122, 123, 124, 125, 126, 127, 128, 129, 130, 131, 132] := rfl
@[go_sem] theorem dead_137_3 : dead 137 3 = [2, 3, 4, 5, 6, 7, 8, 11, 12, 13, 14, 15, 16, 17, 18, 19, 20, 21, 22, 23, 24, 25, 26, 27, 28, 29, 30, 31, 32, 33, 34, 35, 36, 37, 38, 39, 40, 41, 42, 43, 44, 45, 46, 47, 48, 49, 50, 51, 52, 53, 54, 55, 56, 57, 58, 59, 60, 61, 62, 63, 64, 65, 66, 67, 68, 69, 70, 71, 72, 73, 74, 75, 76, 77, 78, 79, 80, 81, 82, 83] := rfl
@[go_sem] theorem dead_137_5 : dead 137 5 = [2, 3, 4, 5, 6, 7, 8, 11, 12, 13, 14, 15, 16, 17, 18, 19, 20, 21, 22, 23, 24, 25, 26, 27, 28, 29, 30, 31, 32, 33, 34, 35, 36, 37, 38, 39, 40, 41, 42, 43, 44, 45, 46, 47, 48, 49, 50, 51, 52, 53, 54, 55, 56, 57, 58, 59, 60, 61, 62, 63, 64, 65, 66, 67, 68, 69, 70, 71, 72, 73, 74, 75, 76, 77, 78, 79, 80, 81, 82, 83] := rfl
@[go_sem] theorem dead_138_3 : dead 138 3 = [2, 3, 4, 5, 6, 7, 8, 9, 12, 13, 14, 15, 16, 17, 18, 19, 20, 21, 22, 23, 24, 25, 26, 27, 28, 29, 30, 31, 32, 33, 34, 35, 36, 37, 38, 39, 40, 41, 42, 43, 44, 45, 46, 47, 48, 49, 50, 51, 52, 53, 54, 55, 56, 57, 58, 59, 60, 61, 62, 63, 64, 65, 66, 67, 68, 69, 70, 71, 72, 73, 74, 75, 76, 77, 78, 79, 80, 81, 82, 83, 84, 85, 86, 87, 88, 89, 90, 91, 92, 93, 94, 95, 96, 97, 98, 99, 100, 101, 102, 103, 104, 105, 106, 107, 108, 109, 110, 111, 112, 113, 114, 115, 116, 117, 118, 119, 120, 121, 122, 123, 124, 125, 126, 127, 128, 129, 130, 131, 132, 133, 134, 135, 136, 137, 138, 139, 140, 141, 142, 143, 144, 145, 146, 147, 148, 149, 150, 151, 152, 153, 154, 155, 156, 157, 158, 159, 160, 161, 162, 163, 164, 165, 166, 167] := rfl
@[go_sem] theorem dead_138_5 : dead 138 5 = [2, 3, 4, 5, 6, 7, 8, 9, 12, 13, 14, 15, 16, 17, 18, 19, 20, 21, 22, 23, 24, 25, 26, 27, 28, 29, 30, 31, 32, 33, 34, 35, 36, 37, 38, 39, 40, 41, 42, 43, 44, 45, 46, 47, 48, 49, 50, 51, 52, 53, 54, 55, 56, 57, 58, 59, 60, 61, 62, 63, 64, 65, 66, 67, 68, 69, 70, 71, 72, 73, 74, 75, 76, 77, 78, 79, 80, 81, 82, 83, 84, 85, 86, 87, 88, 89, 90, 91, 92, 93, 94, 95, 96, 97, 98, 99, 100, 101, 102, 103, 104, 105, 106, 107, 108, 109, 110, 111, 112, 113, 114, 115, 116, 117, 118, 119, 120, 121, 122, 123, 124, 125, 126, 127, 128, 129, 130, 131, 132, 133, 134, 135, 136, 137, 138, 139, 140, 141, 142, 143, 144, 145, 146, 147, 148, 149, 150, 151, 152, 153, 154, 155, 156, 157, 158, 159, 160, 161, 162, 163, 164, 165, 166, 167] := rfl
@[go_sem] theorem dead_138_13 : dead 138 13 = [2, 3, 4, 5, 6, 7, 8, 9, 12, 13, 14, 15, 16, 17, 18, 19, 20, 21, 22, 23, 24, 25, 26, 27, 28, 29, 30, 31, 32, 33, 34, 35, 36, 37, 38, 39, 40, 41, 42, 43, 44, 45, 46, 47, 48, 49, 50, 51, 52, 53, 54, 55, 56, 57, 58, 59, 60, 61, 62, 63, 64, 65, 66, 67, 68, 69, 70, 71, 72, 73, 74, 75, 76, 77, 78, 79, 80, 81, 82, 83, 84, 85, 86, 87, 88, 89, 90, 91, 92, 93, 94, 95, 96, 97, 98, 99, 100, 101, 102, 103, 104, 105, 106, 107, 108, 109, 110, 111, 112, 113, 114, 115, 116, 117, 118, 119, 120, 121, 122, 123, 124, 125, 126, 127, 128, 129, 130, 131, 132, 133, 134, 135, 136, 137, 138, 139, 140, 141, 142, 143, 144, 145, 146, 147, 148, 149, 150, 151, 152, 153, 154, 155, 156, 157, 158, 159, 160, 161, 162, 163, 164, 165, 166, 167] := rfl
@[go_sem] theorem dead_138_15 : dead 138 15 = [2, 3, 4, 5, 6, 7, 8, 9, 12, 13, 14, 15, 16, 17, 18, 19, 20, 21, 22, 23, 24, 25, 26, 27, 28, 29, 30, 31, 32, 33, 34, 35, 36, 37, 38, 39, 40, 41, 42, 43, 44, 45, 46, 47, 48, 49, 50, 51, 52, 53, 54, 55, 56, 57, 58, 59, 60, 61, 62, 63, 64, 65, 66, 67, 68, 69, 70, 71, 72, 73, 74, 75, 76, 77, 78, 79, 80, 81, 82, 83, 84, 85, 86, 87, 88, 89, 90, 91, 92, 93, 94, 95, 96, 97, 98, 99, 100, 101, 102, 103, 104, 105, 106, 107, 108, 109, 110, 111, 112, 113, 114, 115, 116, 117, 118, 119, 120, 121, 122, 123, 124, 125, 126, 127, 128, 129, 130, 131, 132, 133, 134, 135, 136, 137, 138, 139, 140, 141, 142, 143, 144, 145, 146, 147, 148, 149, 150, 151, 152, 153, 154, 155, 156, 157, 158, 159, 160, 161, 162, 163, 164, 165, 166, 167] := rfl
@[go_sem] theorem dead_140_2 : dead 140 2 = [0, 1, 3, 5, 6, 7, 8, 9] := rfl
@[go_sem] theorem dead_143_15 : dead 143 15 = [2, 3, 4, 11, 12, 13, 14, 15, 16, 17, 18, 19, 20, 21, 22, 23, 24, 25, 26, 27, 28, 29, 30, 31, 32, 33, 34, 35, 36, 37, 38, 39, 40, 41, 42, 43, 44, 45, 46, 47, 48, 49, 50, 51, 52, 53, 54, 55, 56, 57, 58, 59, 60, 61, 62, 63, 64, 65, 66, 67, 68, 69, 70, 71, 72, 73, 74, 75, 76, 77, 78, 79, 80, 81, 82, 83, 84, 85, 86, 87, 88, 89, 90, 91, 92, 93, 94, 95, 96, 97, 98, 99, 100, 101, 102, 103, 104, 105, 106, 107, 108, 109, 110, 111, 112, 113, 114, 115, 116, 117, 118, 119, 120, 121, 122, 123, 124, 125, 126, 127, 128, 129, 130, 131, 132, 133, 134, 135, 136, 137, 138, 139, 140, 141, 142] := rfl
@[go_sem] theorem dead_144_1 : dead 144 1 = [1, 4, 5, 6, 7, 9, 10, 11, 12, 13, 14, 15, 16, 17, 18, 19, 20, 21, 22, 23, 24, 25, 26, 27, 28, 29, 30, 31, 32, 33, 34, 35, 36, 37, 38, 39, 40, 41, 42, 43, 44, 45, 46, 47, 48, 49, 50, 51, 52, 53, 54, 55, 56, 57, 58, 59, 60, 61, 62, 63, 64, 65, 66, 67, 68, 69, 70, 71, 72, 73, 74, 75] := rfl
@[go_sem] theorem dead_152_5 : dead 152 5 = [2, 3, 4, 10, 11, 12, 13, 14, 15, 16, 17, 18, 19, 20, 21, 22, 23, 24, 25, 26, 27, 28, 29, 30, 31, 32, 33, 34, 35, 36, 37, 38, 39, 40, 41, 42, 43, 44, 45, 46, 47, 48, 49, 50, 51, 52, 53, 54, 55, 56, 57, 58, 59, 60, 61, 62, 63, 64, 65, 66, 67, 68, 69, 70, 71, 72, 73, 74, 75, 76, 77, 78, 79, 80] := rfl
@[go_sem] theorem dead_152_11 : dead 152 11 = [2, 3, 4, 9, 11, 12, 13, 14, 15, 16, 17, 18, 19, 20, 21, 22, 23, 24, 25, 26, 27, 28, 29, 30, 31, 32, 33, 34, 35, 36, 37, 38, 39, 40, 41, 42, 43, 44, 45, 46, 47, 48, 49, 50, 51, 52, 53, 54, 55, 56, 57, 58, 59, 60, 61, 62, 63, 64, 65, 66, 67, 68, 69, 70, 71, 72, 73, 74, 75, 76, 77, 78, 79, 80] := rfl
@[go_sem] theorem dead_155_3 : dead 155 3 = [1, 2, 3, 6, 7, 8, 9, 10, 11, 12, 13, 14, 15, 16, 17, 18, 19, 20, 21, 22, 23, 24, 25, 26, 27, 28, 29, 30, 31, 32, 33, 34, 35, 36, 37, 38] := rfl
@[go_sem] theorem dead_155_8 : dead 155 8 = [0, 1, 2, 3, 5, 9, 10, 11, 12, 13, 14, 15, 16, 17, 18, 19, 20, 21, 22, 23, 24, 25, 26, 27, 28, 29, 30, 31, 32, 33, 34, 35, 36, 37, 38] := rfl
/-- The functions that are told by what they do to the caller's slots. -/
def sos : FuncId → Option (St → List SV → Option (St × SV))
  | 56 => some sortTextOrc
  | 92 => some sortIntOrc
  | _ => none
def tys : Tys := ⟨tsl, tsz, tby, tag, tzr, tfo, tfz, tik, tst, tbo, teq, sos⟩
@[go_sem] theorem tys_so {t} : tys.so t = sos t := rfl
@[go_sem] theorem sos_3 : sos 3 = none := rfl
@[go_sem] theorem sos_4 : sos 4 = none := rfl
@[go_sem] theorem sos_5 : sos 5 = none := rfl
@[go_sem] theorem sos_6 : sos 6 = none := rfl
@[go_sem] theorem sos_7 : sos 7 = none := rfl
@[go_sem] theorem sos_8 : sos 8 = none := rfl
@[go_sem] theorem sos_9 : sos 9 = none := rfl
@[go_sem] theorem sos_10 : sos 10 = none := rfl
@[go_sem] theorem sos_11 : sos 11 = none := rfl
@[go_sem] theorem sos_12 : sos 12 = none := rfl
@[go_sem] theorem sos_13 : sos 13 = none := rfl
@[go_sem] theorem sos_14 : sos 14 = none := rfl
@[go_sem] theorem sos_15 : sos 15 = none := rfl
@[go_sem] theorem sos_16 : sos 16 = none := rfl
@[go_sem] theorem sos_17 : sos 17 = none := rfl
@[go_sem] theorem sos_18 : sos 18 = none := rfl
@[go_sem] theorem sos_19 : sos 19 = none := rfl
@[go_sem] theorem sos_20 : sos 20 = none := rfl
@[go_sem] theorem sos_21 : sos 21 = none := rfl
@[go_sem] theorem sos_22 : sos 22 = none := rfl
@[go_sem] theorem sos_23 : sos 23 = none := rfl
@[go_sem] theorem sos_24 : sos 24 = none := rfl
@[go_sem] theorem sos_25 : sos 25 = none := rfl
@[go_sem] theorem sos_26 : sos 26 = none := rfl
@[go_sem] theorem sos_27 : sos 27 = none := rfl
@[go_sem] theorem sos_28 : sos 28 = none := rfl
@[go_sem] theorem sos_29 : sos 29 = none := rfl
@[go_sem] theorem sos_30 : sos 30 = none := rfl
@[go_sem] theorem sos_31 : sos 31 = none := rfl
@[go_sem] theorem sos_32 : sos 32 = none := rfl
@[go_sem] theorem sos_33 : sos 33 = none := rfl
@[go_sem] theorem sos_34 : sos 34 = none := rfl
@[go_sem] theorem sos_35 : sos 35 = none := rfl
@[go_sem] theorem sos_36 : sos 36 = none := rfl
@[go_sem] theorem sos_37 : sos 37 = none := rfl
@[go_sem] theorem sos_38 : sos 38 = none := rfl
@[go_sem] theorem sos_39 : sos 39 = none := rfl
@[go_sem] theorem sos_40 : sos 40 = none := rfl
@[go_sem] theorem sos_41 : sos 41 = none := rfl
@[go_sem] theorem sos_42 : sos 42 = none := rfl
@[go_sem] theorem sos_43 : sos 43 = none := rfl
@[go_sem] theorem sos_44 : sos 44 = none := rfl
@[go_sem] theorem sos_45 : sos 45 = none := rfl
@[go_sem] theorem sos_46 : sos 46 = none := rfl
@[go_sem] theorem sos_47 : sos 47 = none := rfl
@[go_sem] theorem sos_48 : sos 48 = none := rfl
@[go_sem] theorem sos_49 : sos 49 = none := rfl
@[go_sem] theorem sos_50 : sos 50 = none := rfl
@[go_sem] theorem sos_51 : sos 51 = none := rfl
@[go_sem] theorem sos_52 : sos 52 = none := rfl
@[go_sem] theorem sos_53 : sos 53 = none := rfl
@[go_sem] theorem sos_54 : sos 54 = none := rfl
@[go_sem] theorem sos_55 : sos 55 = none := rfl
@[go_sem] theorem sos_56 : sos 56 = some sortTextOrc := rfl
@[go_sem] theorem sos_57 : sos 57 = none := rfl
@[go_sem] theorem sos_58 : sos 58 = none := rfl
@[go_sem] theorem sos_59 : sos 59 = none := rfl
@[go_sem] theorem sos_60 : sos 60 = none := rfl
@[go_sem] theorem sos_61 : sos 61 = none := rfl
@[go_sem] theorem sos_62 : sos 62 = none := rfl
@[go_sem] theorem sos_63 : sos 63 = none := rfl
@[go_sem] theorem sos_64 : sos 64 = none := rfl
@[go_sem] theorem sos_65 : sos 65 = none := rfl
@[go_sem] theorem sos_66 : sos 66 = none := rfl
@[go_sem] theorem sos_67 : sos 67 = none := rfl
@[go_sem] theorem sos_68 : sos 68 = none := rfl
@[go_sem] theorem sos_69 : sos 69 = none := rfl
@[go_sem] theorem sos_70 : sos 70 = none := rfl
@[go_sem] theorem sos_71 : sos 71 = none := rfl
@[go_sem] theorem sos_72 : sos 72 = none := rfl
@[go_sem] theorem sos_73 : sos 73 = none := rfl
@[go_sem] theorem sos_74 : sos 74 = none := rfl
@[go_sem] theorem sos_75 : sos 75 = none := rfl
@[go_sem] theorem sos_76 : sos 76 = none := rfl
@[go_sem] theorem sos_77 : sos 77 = none := rfl
@[go_sem] theorem sos_78 : sos 78 = none := rfl
@[go_sem] theorem sos_79 : sos 79 = none := rfl
@[go_sem] theorem sos_80 : sos 80 = none := rfl
@[go_sem] theorem sos_81 : sos 81 = none := rfl
@[go_sem] theorem sos_82 : sos 82 = none := rfl
@[go_sem] theorem sos_83 : sos 83 = none := rfl
@[go_sem] theorem sos_84 : sos 84 = none := rfl
@[go_sem] theorem sos_85 : sos 85 = none := rfl
@[go_sem] theorem sos_86 : sos 86 = none := rfl
@[go_sem] theorem sos_87 : sos 87 = none := rfl
@[go_sem] theorem sos_88 : sos 88 = none := rfl
@[go_sem] theorem sos_89 : sos 89 = none := rfl
@[go_sem] theorem sos_90 : sos 90 = none := rfl
@[go_sem] theorem sos_91 : sos 91 = none := rfl
@[go_sem] theorem sos_92 : sos 92 = some sortIntOrc := rfl
@[go_sem] theorem sos_93 : sos 93 = none := rfl
@[go_sem] theorem sos_94 : sos 94 = none := rfl
@[go_sem] theorem sos_95 : sos 95 = none := rfl
@[go_sem] theorem sos_96 : sos 96 = none := rfl
@[go_sem] theorem sos_97 : sos 97 = none := rfl
@[go_sem] theorem sos_98 : sos 98 = none := rfl
@[go_sem] theorem sos_99 : sos 99 = none := rfl
@[go_sem] theorem sos_100 : sos 100 = none := rfl
@[go_sem] theorem sos_101 : sos 101 = none := rfl
@[go_sem] theorem sos_102 : sos 102 = none := rfl
@[go_sem] theorem sos_103 : sos 103 = none := rfl
@[go_sem] theorem sos_104 : sos 104 = none := rfl
@[go_sem] theorem sos_105 : sos 105 = none := rfl
@[go_sem] theorem sos_106 : sos 106 = none := rfl
@[go_sem] theorem sos_107 : sos 107 = none := rfl
@[go_sem] theorem sos_108 : sos 108 = none := rfl
@[go_sem] theorem sos_109 : sos 109 = none := rfl
@[go_sem] theorem sos_110 : sos 110 = none := rfl
@[go_sem] theorem sos_111 : sos 111 = none := rfl
@[go_sem] theorem sos_112 : sos 112 = none := rfl
@[go_sem] theorem sos_113 : sos 113 = none := rfl
@[go_sem] theorem sos_114 : sos 114 = none := rfl
@[go_sem] theorem sos_115 : sos 115 = none := rfl
@[go_sem] theorem sos_116 : sos 116 = none := rfl
@[go_sem] theorem sos_117 : sos 117 = none := rfl
@[go_sem] theorem sos_118 : sos 118 = none := rfl
@[go_sem] theorem sos_119 : sos 119 = none := rfl
@[go_sem] theorem sos_120 : sos 120 = none := rfl
@[go_sem] theorem sos_121 : sos 121 = none := rfl
@[go_sem] theorem sos_122 : sos 122 = none := rfl
@[go_sem] theorem sos_123 : sos 123 = none := rfl
@[go_sem] theorem sos_124 : sos 124 = none := rfl
@[go_sem] theorem sos_125 : sos 125 = none := rfl
@[go_sem] theorem sos_126 : sos 126 = none := rfl
@[go_sem] theorem sos_127 : sos 127 = none := rfl
@[go_sem] theorem sos_128 : sos 128 = none := rfl
@[go_sem] theorem sos_129 : sos 129 = none := rfl
@[go_sem] theorem sos_130 : sos 130 = none := rfl
@[go_sem] theorem sos_131 : sos 131 = none := rfl
@[go_sem] theorem sos_132 : sos 132 = none := rfl
@[go_sem] theorem sos_133 : sos 133 = none := rfl
@[go_sem] theorem sos_134 : sos 134 = none := rfl
@[go_sem] theorem sos_135 : sos 135 = none := rfl
@[go_sem] theorem sos_136 : sos 136 = none := rfl
@[go_sem] theorem sos_137 : sos 137 = none := rfl
@[go_sem] theorem sos_138 : sos 138 = none := rfl
@[go_sem] theorem sos_139 : sos 139 = none := rfl
@[go_sem] theorem sos_140 : sos 140 = none := rfl
@[go_sem] theorem sos_141 : sos 141 = none := rfl
@[go_sem] theorem sos_142 : sos 142 = none := rfl
@[go_sem] theorem sos_143 : sos 143 = none := rfl
@[go_sem] theorem sos_144 : sos 144 = none := rfl
@[go_sem] theorem sos_145 : sos 145 = none := rfl
@[go_sem] theorem sos_146 : sos 146 = none := rfl
@[go_sem] theorem sos_147 : sos 147 = none := rfl
@[go_sem] theorem sos_148 : sos 148 = none := rfl
@[go_sem] theorem sos_149 : sos 149 = none := rfl
@[go_sem] theorem sos_150 : sos 150 = none := rfl
@[go_sem] theorem sos_151 : sos 151 = none := rfl
@[go_sem] theorem sos_152 : sos 152 = none := rfl
@[go_sem] theorem sos_153 : sos 153 = none := rfl
@[go_sem] theorem sos_154 : sos 154 = none := rfl
@[go_sem] theorem sos_155 : sos 155 = none := rfl
@[go_sem] theorem sos_156 : sos 156 = none := rfl
@[go_sem] theorem sos_157 : sos 157 = none := rfl
@[go_sem] theorem sos_158 : sos 158 = none := rfl
@[go_sem] theorem sos_159 : sos 159 = none := rfl
@[go_sem] theorem sos_160 : sos 160 = none := rfl
@[go_sem] theorem sos_161 : sos 161 = none := rfl
@[go_sem] theorem sos_162 : sos 162 = none := rfl
@[go_sem] theorem sos_163 : sos 163 = none := rfl
@[go_sem] theorem sos_164 : sos 164 = none := rfl
@[go_sem] theorem sos_165 : sos 165 = none := rfl
@[go_sem] theorem sos_166 : sos 166 = none := rfl
@[go_sem] theorem sos_167 : sos 167 = none := rfl
@[go_sem] theorem sos_168 : sos 168 = none := rfl
@[go_sem] theorem sos_169 : sos 169 = none := rfl
@[go_sem] theorem sos_170 : sos 170 = none := rfl
@[go_sem] theorem sos_171 : sos 171 = none := rfl
@[go_sem] theorem sos_172 : sos 172 = none := rfl
@[go_sem] theorem sos_173 : sos 173 = none := rfl
@[go_sem] theorem sos_174 : sos 174 = none := rfl
@[go_sem] theorem sos_175 : sos 175 = none := rfl
@[go_sem] theorem sos_176 : sos 176 = none := rfl
attribute [go_sem] tfo tfz
@[go_sem] theorem tys_sl {t} : tys.sl t = tsl t := rfl
@[go_sem] theorem tys_sz {t} : tys.sz t = tsz t := rfl
@[go_sem] theorem tys_by {t} : tys.byt t = tby t := rfl
@[go_sem] theorem tys_ag {t} : tys.ag t = tag t := rfl
@[go_sem] theorem tys_zr {t} : tys.zr t = tzr t := rfl
@[go_sem] theorem tys_fo {t f} : tys.fo t f = tfo t f := rfl
@[go_sem] theorem tys_fz {t f} : tys.fz t f = tfz t f := rfl
@[go_sem] theorem tys_ik {t} : tys.ik t = tik t := rfl
@[go_sem] theorem tys_st {t} : tys.str t = tst t := rfl
@[go_sem] theorem tys_bo {t} : tys.boo t = tbo t := rfl
/-- The functions without a body. -/
def orcs : FuncId → Option (CallF → List SV → List (List CV) → Option Ret)
  | 142 => some (byteOrc fun s c => Lib.countByte s.data.toList c.toNat.toUInt8)
  | 154 => some (byteOrc fun s c => Lib.indexByte s.data.toList c.toNat.toUInt8)
  | 95 => some (cloneOrc 1 1)
  | 96 => some (cloneOrc 2 24)
  | 97 => some (cloneOrc 2 32)
  | _ => none
noncomputable def env : Env := ⟨tys, fns, orcs, dead, fun _ => []⟩
@[go_sem] theorem env_T : env.T = tys := rfl
@[go_sem] theorem env_dead : env.dead = dead := rfl
end Go.Proofs.YticgilhndadkiaaGreatDoor.R
