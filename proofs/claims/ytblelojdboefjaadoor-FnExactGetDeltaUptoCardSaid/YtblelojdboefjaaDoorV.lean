/- The tables' entries as laws for simp. Printed by genv.py. -/
import Derived.Test.YtblelojdboefjaaDoorE
import Derived.Test.YtblelojdboefjaaDoorM6
import Derived.Test.YtblelojdboefjaaDoorM5
namespace Go.Proofs.YtblelojdboefjaaDoor.R
open Go
set_option maxRecDepth 100000
@[go_sem] theorem tsl_2 : tsl 2 = none := rfl
@[go_sem] theorem tsl_3 : tsl 3 = none := rfl
@[go_sem] theorem tsl_4 : tsl 4 = none := rfl
@[go_sem] theorem tsl_5 : tsl 5 = none := rfl
@[go_sem] theorem tsl_6 : tsl 6 = none := rfl
@[go_sem] theorem tsl_7 : tsl 7 = none := rfl
@[go_sem] theorem tsl_8 : tsl 8 = none := rfl
@[go_sem] theorem tsl_9 : tsl 9 = none := rfl
@[go_sem] theorem tsl_10 : tsl 10 = none := rfl
@[go_sem] theorem tsl_11 : tsl 11 = none := rfl
@[go_sem] theorem tsl_12 : tsl 12 = none := rfl
@[go_sem] theorem tsl_13 : tsl 13 = none := rfl
@[go_sem] theorem tsl_14 : tsl 14 = none := rfl
@[go_sem] theorem tsl_21 : tsl 21 = none := rfl
@[go_sem] theorem tsl_22 : tsl 22 = some 81 := rfl
@[go_sem] theorem tsl_23 : tsl 23 = some 9 := rfl
@[go_sem] theorem tsl_24 : tsl 24 = some 84 := rfl
@[go_sem] theorem tsl_25 : tsl 25 = none := rfl
@[go_sem] theorem tsl_26 : tsl 26 = none := rfl
@[go_sem] theorem tsl_28 : tsl 28 = some 5 := rfl
@[go_sem] theorem tsl_30 : tsl 30 = some 89 := rfl
@[go_sem] theorem tsl_31 : tsl 31 = some 52 := rfl
@[go_sem] theorem tsl_32 : tsl 32 = none := rfl
@[go_sem] theorem tsl_33 : tsl 33 = none := rfl
@[go_sem] theorem tsl_51 : tsl 51 = none := rfl
@[go_sem] theorem tsl_52 : tsl 52 = none := rfl
@[go_sem] theorem tsl_54 : tsl 54 = none := rfl
@[go_sem] theorem tsl_64 : tsl 64 = none := rfl
@[go_sem] theorem tsl_65 : tsl 65 = none := rfl
@[go_sem] theorem tsl_73 : tsl 73 = none := rfl
@[go_sem] theorem tsl_74 : tsl 74 = none := rfl
@[go_sem] theorem tsl_80 : tsl 80 = none := rfl
@[go_sem] theorem tsl_81 : tsl 81 = none := rfl
@[go_sem] theorem tsl_83 : tsl 83 = none := rfl
@[go_sem] theorem tsl_84 : tsl 84 = none := rfl
@[go_sem] theorem tsl_89 : tsl 89 = none := rfl
@[go_sem] theorem tsl_105 : tsl 105 = none := rfl
@[go_sem] theorem tsl_119 : tsl 119 = none := rfl
@[go_sem] theorem tsl_120 : tsl 120 = none := rfl
@[go_sem] theorem tsl_129 : tsl 129 = none := rfl
@[go_sem] theorem tsl_130 : tsl 130 = none := rfl
@[go_sem] theorem tsl_133 : tsl 133 = none := rfl
@[go_sem] theorem tsl_134 : tsl 134 = none := rfl
@[go_sem] theorem tsz_2 : tsz 2 = some 1 := rfl
@[go_sem] theorem tsz_3 : tsz 3 = some 1 := rfl
@[go_sem] theorem tsz_4 : tsz 4 = some 1 := rfl
@[go_sem] theorem tsz_5 : tsz 5 = some 1 := rfl
@[go_sem] theorem tsz_6 : tsz 6 = some 1 := rfl
@[go_sem] theorem tsz_7 : tsz 7 = some 4 := rfl
@[go_sem] theorem tsz_8 : tsz 8 = some 4 := rfl
@[go_sem] theorem tsz_9 : tsz 9 = some 1 := rfl
@[go_sem] theorem tsz_10 : tsz 10 = some 1 := rfl
@[go_sem] theorem tsz_11 : tsz 11 = some 1 := rfl
@[go_sem] theorem tsz_12 : tsz 12 = some 1 := rfl
@[go_sem] theorem tsz_13 : tsz 13 = some 2 := rfl
@[go_sem] theorem tsz_14 : tsz 14 = some 2 := rfl
@[go_sem] theorem tsz_21 : tsz 21 = some 1 := rfl
@[go_sem] theorem tsz_22 : tsz 22 = some 1 := rfl
@[go_sem] theorem tsz_23 : tsz 23 = some 1 := rfl
@[go_sem] theorem tsz_24 : tsz 24 = some 1 := rfl
@[go_sem] theorem tsz_25 : tsz 25 = some 3 := rfl
@[go_sem] theorem tsz_26 : tsz 26 = some 3 := rfl
@[go_sem] theorem tsz_28 : tsz 28 = some 1 := rfl
@[go_sem] theorem tsz_30 : tsz 30 = some 1 := rfl
@[go_sem] theorem tsz_31 : tsz 31 = some 1 := rfl
@[go_sem] theorem tsz_32 : tsz 32 = some 3 := rfl
@[go_sem] theorem tsz_33 : tsz 33 = some 3 := rfl
@[go_sem] theorem tsz_51 : tsz 51 = some 5 := rfl
@[go_sem] theorem tsz_52 : tsz 52 = some 5 := rfl
@[go_sem] theorem tsz_54 : tsz 54 = some 1 := rfl
@[go_sem] theorem tsz_64 : tsz 64 = some 3 := rfl
@[go_sem] theorem tsz_65 : tsz 65 = some 3 := rfl
@[go_sem] theorem tsz_73 : tsz 73 = some 3 := rfl
@[go_sem] theorem tsz_74 : tsz 74 = some 3 := rfl
@[go_sem] theorem tsz_80 : tsz 80 = some 2 := rfl
@[go_sem] theorem tsz_81 : tsz 81 = some 2 := rfl
@[go_sem] theorem tsz_83 : tsz 83 = some 5 := rfl
@[go_sem] theorem tsz_84 : tsz 84 = some 5 := rfl
@[go_sem] theorem tsz_89 : tsz 89 = some 2 := rfl
@[go_sem] theorem tsz_105 : tsz 105 = some 1 := rfl
@[go_sem] theorem tsz_119 : tsz 119 = some 2 := rfl
@[go_sem] theorem tsz_120 : tsz 120 = some 2 := rfl
@[go_sem] theorem tsz_129 : tsz 129 = some 1 := rfl
@[go_sem] theorem tsz_130 : tsz 130 = some 1 := rfl
@[go_sem] theorem tsz_133 : tsz 133 = some 1 := rfl
@[go_sem] theorem tsz_134 : tsz 134 = some 1 := rfl
@[go_sem] theorem tby_2 : tby 2 = some 8 := rfl
@[go_sem] theorem tby_3 : tby 3 = some 8 := rfl
@[go_sem] theorem tby_4 : tby 4 = some 1 := rfl
@[go_sem] theorem tby_5 : tby 5 = some 1 := rfl
@[go_sem] theorem tby_6 : tby 6 = some 1 := rfl
@[go_sem] theorem tby_7 : tby 7 = some 24 := rfl
@[go_sem] theorem tby_8 : tby 8 = some 24 := rfl
@[go_sem] theorem tby_9 : tby 9 = some 16 := rfl
@[go_sem] theorem tby_10 : tby 10 = some 16 := rfl
@[go_sem] theorem tby_11 : tby 11 = some 16 := rfl
@[go_sem] theorem tby_12 : tby 12 = some 8 := rfl
@[go_sem] theorem tby_13 : tby 13 = some 24 := rfl
@[go_sem] theorem tby_14 : tby 14 = some 24 := rfl
@[go_sem] theorem tby_21 : tby 21 = some 4 := rfl
@[go_sem] theorem tby_22 : tby 22 = some 24 := rfl
@[go_sem] theorem tby_23 : tby 23 = some 24 := rfl
@[go_sem] theorem tby_24 : tby 24 = some 24 := rfl
@[go_sem] theorem tby_25 : tby 25 = some 72 := rfl
@[go_sem] theorem tby_26 : tby 26 = some 72 := rfl
@[go_sem] theorem tby_28 : tby 28 = some 24 := rfl
@[go_sem] theorem tby_30 : tby 30 = some 24 := rfl
@[go_sem] theorem tby_31 : tby 31 = some 24 := rfl
@[go_sem] theorem tby_32 : tby 32 = some 72 := rfl
@[go_sem] theorem tby_33 : tby 33 = some 72 := rfl
@[go_sem] theorem tby_51 : tby 51 = some 88 := rfl
@[go_sem] theorem tby_52 : tby 52 = some 88 := rfl
@[go_sem] theorem tby_54 : tby 54 = some 8 := rfl
@[go_sem] theorem tby_64 : tby 64 = some 40 := rfl
@[go_sem] theorem tby_65 : tby 65 = some 40 := rfl
@[go_sem] theorem tby_73 : tby 73 = some 40 := rfl
@[go_sem] theorem tby_74 : tby 74 = some 40 := rfl
@[go_sem] theorem tby_80 : tby 80 = some 32 := rfl
@[go_sem] theorem tby_81 : tby 81 = some 32 := rfl
@[go_sem] theorem tby_83 : tby 83 = some 88 := rfl
@[go_sem] theorem tby_84 : tby 84 = some 88 := rfl
@[go_sem] theorem tby_89 : tby 89 = some 32 := rfl
@[go_sem] theorem tby_105 : tby 105 = some 4 := rfl
@[go_sem] theorem tby_119 : tby 119 = some 2 := rfl
@[go_sem] theorem tby_120 : tby 120 = some 2 := rfl
@[go_sem] theorem tby_129 : tby 129 = some 1 := rfl
@[go_sem] theorem tby_130 : tby 130 = some 1 := rfl
@[go_sem] theorem tby_133 : tby 133 = some 4 := rfl
@[go_sem] theorem tby_134 : tby 134 = some 4 := rfl
@[go_sem] theorem tag_2 : tag 2 = some false := rfl
@[go_sem] theorem tag_3 : tag 3 = some false := rfl
@[go_sem] theorem tag_4 : tag 4 = some false := rfl
@[go_sem] theorem tag_5 : tag 5 = some false := rfl
@[go_sem] theorem tag_6 : tag 6 = some false := rfl
@[go_sem] theorem tag_7 : tag 7 = some true := rfl
@[go_sem] theorem tag_8 : tag 8 = some true := rfl
@[go_sem] theorem tag_9 : tag 9 = some false := rfl
@[go_sem] theorem tag_10 : tag 10 = some false := rfl
@[go_sem] theorem tag_11 : tag 11 = some false := rfl
@[go_sem] theorem tag_12 : tag 12 = some false := rfl
@[go_sem] theorem tag_13 : tag 13 = some true := rfl
@[go_sem] theorem tag_14 : tag 14 = some true := rfl
@[go_sem] theorem tag_21 : tag 21 = some false := rfl
@[go_sem] theorem tag_22 : tag 22 = some false := rfl
@[go_sem] theorem tag_23 : tag 23 = some false := rfl
@[go_sem] theorem tag_24 : tag 24 = some false := rfl
@[go_sem] theorem tag_25 : tag 25 = some true := rfl
@[go_sem] theorem tag_26 : tag 26 = some true := rfl
@[go_sem] theorem tag_28 : tag 28 = some false := rfl
@[go_sem] theorem tag_30 : tag 30 = some false := rfl
@[go_sem] theorem tag_31 : tag 31 = some false := rfl
@[go_sem] theorem tag_32 : tag 32 = some true := rfl
@[go_sem] theorem tag_33 : tag 33 = some true := rfl
@[go_sem] theorem tag_51 : tag 51 = some true := rfl
@[go_sem] theorem tag_52 : tag 52 = some true := rfl
@[go_sem] theorem tag_54 : tag 54 = some false := rfl
@[go_sem] theorem tag_64 : tag 64 = some true := rfl
@[go_sem] theorem tag_65 : tag 65 = some true := rfl
@[go_sem] theorem tag_73 : tag 73 = some true := rfl
@[go_sem] theorem tag_74 : tag 74 = some true := rfl
@[go_sem] theorem tag_80 : tag 80 = some true := rfl
@[go_sem] theorem tag_81 : tag 81 = some true := rfl
@[go_sem] theorem tag_83 : tag 83 = some true := rfl
@[go_sem] theorem tag_84 : tag 84 = some true := rfl
@[go_sem] theorem tag_89 : tag 89 = some true := rfl
@[go_sem] theorem tag_105 : tag 105 = some false := rfl
@[go_sem] theorem tag_119 : tag 119 = some true := rfl
@[go_sem] theorem tag_120 : tag 120 = some true := rfl
@[go_sem] theorem tag_129 : tag 129 = some false := rfl
@[go_sem] theorem tag_130 : tag 130 = some false := rfl
@[go_sem] theorem tag_133 : tag 133 = some false := rfl
@[go_sem] theorem tag_134 : tag 134 = some false := rfl
@[go_sem] theorem tzr_2 : tzr 2 = some [.i .i64 0] := rfl
@[go_sem] theorem tzr_3 : tzr 3 = some [.i .i64 0] := rfl
@[go_sem] theorem tzr_4 : tzr 4 = some [.b false] := rfl
@[go_sem] theorem tzr_5 : tzr 5 = some [.i .u8 0] := rfl
@[go_sem] theorem tzr_6 : tzr 6 = some [.i .u8 0] := rfl
@[go_sem] theorem tzr_7 : tzr 7 = some [.i .i64 0, .i .i64 0, .b false, .i .u8 0] := rfl
@[go_sem] theorem tzr_8 : tzr 8 = some [.i .i64 0, .i .i64 0, .b false, .i .u8 0] := rfl
@[go_sem] theorem tzr_9 : tzr 9 = some [.t ⟨#[]⟩] := rfl
@[go_sem] theorem tzr_10 : tzr 10 = some [.t ⟨#[]⟩] := rfl
@[go_sem] theorem tzr_11 : tzr 11 = some [.t ⟨#[]⟩] := rfl
@[go_sem] theorem tzr_12 : tzr 12 = some [.i .u64 0] := rfl
@[go_sem] theorem tzr_13 : tzr 13 = some [.t ⟨#[]⟩, .i .u64 0] := rfl
@[go_sem] theorem tzr_14 : tzr 14 = some [.t ⟨#[]⟩, .i .u64 0] := rfl
@[go_sem] theorem tzr_21 : tzr 21 = some [.i .i32 0] := rfl
@[go_sem] theorem tzr_22 : tzr 22 = some [.s 2 []] := rfl
@[go_sem] theorem tzr_23 : tzr 23 = some [.s 1 []] := rfl
@[go_sem] theorem tzr_24 : tzr 24 = some [.s 5 []] := rfl
@[go_sem] theorem tzr_25 : tzr 25 = some [.s 2 [], .s 1 [], .s 5 []] := rfl
@[go_sem] theorem tzr_26 : tzr 26 = some [.s 2 [], .s 1 [], .s 5 []] := rfl
@[go_sem] theorem tzr_28 : tzr 28 = some [.s 1 []] := rfl
@[go_sem] theorem tzr_30 : tzr 30 = some [.s 2 []] := rfl
@[go_sem] theorem tzr_31 : tzr 31 = some [.s 5 []] := rfl
@[go_sem] theorem tzr_32 : tzr 32 = some [.s 2 [], .s 1 [], .s 5 []] := rfl
@[go_sem] theorem tzr_33 : tzr 33 = some [.s 2 [], .s 1 [], .s 5 []] := rfl
@[go_sem] theorem tzr_51 : tzr 51 = some [.t ⟨#[]⟩, .i .i64 0, .s 1 [], .s 2 [], .t ⟨#[]⟩] := rfl
@[go_sem] theorem tzr_52 : tzr 52 = some [.t ⟨#[]⟩, .i .i64 0, .s 1 [], .s 2 [], .t ⟨#[]⟩] := rfl
@[go_sem] theorem tzr_54 : tzr 54 = some [.i .u64 0] := rfl
@[go_sem] theorem tzr_64 : tzr 64 = some [.s 1 [], .i .i64 0, .b false] := rfl
@[go_sem] theorem tzr_65 : tzr 65 = some [.s 1 [], .i .i64 0, .b false] := rfl
@[go_sem] theorem tzr_73 : tzr 73 = some [.s 1 [], .i .i64 0, .b false] := rfl
@[go_sem] theorem tzr_74 : tzr 74 = some [.s 1 [], .i .i64 0, .b false] := rfl
@[go_sem] theorem tzr_80 : tzr 80 = some [.t ⟨#[]⟩, .t ⟨#[]⟩] := rfl
@[go_sem] theorem tzr_81 : tzr 81 = some [.t ⟨#[]⟩, .t ⟨#[]⟩] := rfl
@[go_sem] theorem tzr_83 : tzr 83 = some [.t ⟨#[]⟩, .i .i64 0, .s 1 [], .s 2 [], .t ⟨#[]⟩] := rfl
@[go_sem] theorem tzr_84 : tzr 84 = some [.t ⟨#[]⟩, .i .i64 0, .s 1 [], .s 2 [], .t ⟨#[]⟩] := rfl
@[go_sem] theorem tzr_89 : tzr 89 = some [.t ⟨#[]⟩, .t ⟨#[]⟩] := rfl
@[go_sem] theorem tzr_105 : tzr 105 = some [.i .u32 0] := rfl
@[go_sem] theorem tzr_119 : tzr 119 = some [.i .u8 0, .i .u8 0] := rfl
@[go_sem] theorem tzr_120 : tzr 120 = some [.i .u8 0, .i .u8 0] := rfl
@[go_sem] theorem tzr_129 : tzr 129 = some [.i .u8 0] := rfl
@[go_sem] theorem tzr_130 : tzr 130 = some [.i .u8 0] := rfl
@[go_sem] theorem tzr_133 : tzr 133 = some [.i .i32 0] := rfl
@[go_sem] theorem tzr_134 : tzr 134 = some [.i .i32 0] := rfl
@[go_sem] theorem tfs_7 : tfs 7 = [(0, 1), (1, 1), (2, 1), (3, 1)] := rfl
@[go_sem] theorem tfs_8 : tfs 8 = [(0, 1), (1, 1), (2, 1), (3, 1)] := rfl
@[go_sem] theorem tfs_13 : tfs 13 = [(0, 1), (1, 1)] := rfl
@[go_sem] theorem tfs_14 : tfs 14 = [(0, 1), (1, 1)] := rfl
@[go_sem] theorem tfs_25 : tfs 25 = [(0, 1), (1, 1), (2, 1)] := rfl
@[go_sem] theorem tfs_26 : tfs 26 = [(0, 1), (1, 1), (2, 1)] := rfl
@[go_sem] theorem tfs_32 : tfs 32 = [(0, 1), (1, 1), (2, 1)] := rfl
@[go_sem] theorem tfs_33 : tfs 33 = [(0, 1), (1, 1), (2, 1)] := rfl
@[go_sem] theorem tfs_51 : tfs 51 = [(0, 1), (1, 1), (2, 1), (3, 1), (4, 1)] := rfl
@[go_sem] theorem tfs_52 : tfs 52 = [(0, 1), (1, 1), (2, 1), (3, 1), (4, 1)] := rfl
@[go_sem] theorem tfs_64 : tfs 64 = [(0, 1), (1, 1), (2, 1)] := rfl
@[go_sem] theorem tfs_65 : tfs 65 = [(0, 1), (1, 1), (2, 1)] := rfl
@[go_sem] theorem tfs_73 : tfs 73 = [(0, 1), (1, 1), (2, 1)] := rfl
@[go_sem] theorem tfs_74 : tfs 74 = [(0, 1), (1, 1), (2, 1)] := rfl
@[go_sem] theorem tfs_80 : tfs 80 = [(0, 1), (1, 1)] := rfl
@[go_sem] theorem tfs_81 : tfs 81 = [(0, 1), (1, 1)] := rfl
@[go_sem] theorem tfs_83 : tfs 83 = [(0, 1), (1, 1), (2, 1), (3, 1), (4, 1)] := rfl
@[go_sem] theorem tfs_84 : tfs 84 = [(0, 1), (1, 1), (2, 1), (3, 1), (4, 1)] := rfl
@[go_sem] theorem tfs_89 : tfs 89 = [(0, 1), (1, 1)] := rfl
@[go_sem] theorem tfs_119 : tfs 119 = [(0, 1), (1, 1)] := rfl
@[go_sem] theorem tfs_120 : tfs 120 = [(0, 1), (1, 1)] := rfl
@[go_sem] theorem tik_2 : tik 2 = some .i64 := rfl
@[go_sem] theorem tik_3 : tik 3 = some .i64 := rfl
@[go_sem] theorem tik_4 : tik 4 = none := rfl
@[go_sem] theorem tik_5 : tik 5 = some .u8 := rfl
@[go_sem] theorem tik_6 : tik 6 = some .u8 := rfl
@[go_sem] theorem tik_7 : tik 7 = none := rfl
@[go_sem] theorem tik_8 : tik 8 = none := rfl
@[go_sem] theorem tik_9 : tik 9 = none := rfl
@[go_sem] theorem tik_10 : tik 10 = none := rfl
@[go_sem] theorem tik_11 : tik 11 = none := rfl
@[go_sem] theorem tik_12 : tik 12 = some .u64 := rfl
@[go_sem] theorem tik_13 : tik 13 = none := rfl
@[go_sem] theorem tik_14 : tik 14 = none := rfl
@[go_sem] theorem tik_21 : tik 21 = some .i32 := rfl
@[go_sem] theorem tik_22 : tik 22 = none := rfl
@[go_sem] theorem tik_23 : tik 23 = none := rfl
@[go_sem] theorem tik_24 : tik 24 = none := rfl
@[go_sem] theorem tik_25 : tik 25 = none := rfl
@[go_sem] theorem tik_26 : tik 26 = none := rfl
@[go_sem] theorem tik_28 : tik 28 = none := rfl
@[go_sem] theorem tik_30 : tik 30 = none := rfl
@[go_sem] theorem tik_31 : tik 31 = none := rfl
@[go_sem] theorem tik_32 : tik 32 = none := rfl
@[go_sem] theorem tik_33 : tik 33 = none := rfl
@[go_sem] theorem tik_51 : tik 51 = none := rfl
@[go_sem] theorem tik_52 : tik 52 = none := rfl
@[go_sem] theorem tik_54 : tik 54 = some .u64 := rfl
@[go_sem] theorem tik_64 : tik 64 = none := rfl
@[go_sem] theorem tik_65 : tik 65 = none := rfl
@[go_sem] theorem tik_73 : tik 73 = none := rfl
@[go_sem] theorem tik_74 : tik 74 = none := rfl
@[go_sem] theorem tik_80 : tik 80 = none := rfl
@[go_sem] theorem tik_81 : tik 81 = none := rfl
@[go_sem] theorem tik_83 : tik 83 = none := rfl
@[go_sem] theorem tik_84 : tik 84 = none := rfl
@[go_sem] theorem tik_89 : tik 89 = none := rfl
@[go_sem] theorem tik_105 : tik 105 = some .u32 := rfl
@[go_sem] theorem tik_119 : tik 119 = none := rfl
@[go_sem] theorem tik_120 : tik 120 = none := rfl
@[go_sem] theorem tik_129 : tik 129 = some .u8 := rfl
@[go_sem] theorem tik_130 : tik 130 = some .u8 := rfl
@[go_sem] theorem tik_133 : tik 133 = some .i32 := rfl
@[go_sem] theorem tik_134 : tik 134 = some .i32 := rfl
@[go_sem] theorem tst_2 : tst 2 = false := rfl
@[go_sem] theorem tst_3 : tst 3 = false := rfl
@[go_sem] theorem tst_4 : tst 4 = false := rfl
@[go_sem] theorem tst_5 : tst 5 = false := rfl
@[go_sem] theorem tst_6 : tst 6 = false := rfl
@[go_sem] theorem tst_7 : tst 7 = false := rfl
@[go_sem] theorem tst_8 : tst 8 = false := rfl
@[go_sem] theorem tst_9 : tst 9 = true := rfl
@[go_sem] theorem tst_10 : tst 10 = true := rfl
@[go_sem] theorem tst_11 : tst 11 = true := rfl
@[go_sem] theorem tst_12 : tst 12 = false := rfl
@[go_sem] theorem tst_13 : tst 13 = false := rfl
@[go_sem] theorem tst_14 : tst 14 = false := rfl
@[go_sem] theorem tst_21 : tst 21 = false := rfl
@[go_sem] theorem tst_22 : tst 22 = false := rfl
@[go_sem] theorem tst_23 : tst 23 = false := rfl
@[go_sem] theorem tst_24 : tst 24 = false := rfl
@[go_sem] theorem tst_25 : tst 25 = false := rfl
@[go_sem] theorem tst_26 : tst 26 = false := rfl
@[go_sem] theorem tst_28 : tst 28 = false := rfl
@[go_sem] theorem tst_30 : tst 30 = false := rfl
@[go_sem] theorem tst_31 : tst 31 = false := rfl
@[go_sem] theorem tst_32 : tst 32 = false := rfl
@[go_sem] theorem tst_33 : tst 33 = false := rfl
@[go_sem] theorem tst_51 : tst 51 = false := rfl
@[go_sem] theorem tst_52 : tst 52 = false := rfl
@[go_sem] theorem tst_54 : tst 54 = false := rfl
@[go_sem] theorem tst_64 : tst 64 = false := rfl
@[go_sem] theorem tst_65 : tst 65 = false := rfl
@[go_sem] theorem tst_73 : tst 73 = false := rfl
@[go_sem] theorem tst_74 : tst 74 = false := rfl
@[go_sem] theorem tst_80 : tst 80 = false := rfl
@[go_sem] theorem tst_81 : tst 81 = false := rfl
@[go_sem] theorem tst_83 : tst 83 = false := rfl
@[go_sem] theorem tst_84 : tst 84 = false := rfl
@[go_sem] theorem tst_89 : tst 89 = false := rfl
@[go_sem] theorem tst_105 : tst 105 = false := rfl
@[go_sem] theorem tst_119 : tst 119 = false := rfl
@[go_sem] theorem tst_120 : tst 120 = false := rfl
@[go_sem] theorem tst_129 : tst 129 = false := rfl
@[go_sem] theorem tst_130 : tst 130 = false := rfl
@[go_sem] theorem tst_133 : tst 133 = false := rfl
@[go_sem] theorem tst_134 : tst 134 = false := rfl
@[go_sem] theorem tbo_2 : tbo 2 = false := rfl
@[go_sem] theorem tbo_3 : tbo 3 = false := rfl
@[go_sem] theorem tbo_4 : tbo 4 = true := rfl
@[go_sem] theorem tbo_5 : tbo 5 = false := rfl
@[go_sem] theorem tbo_6 : tbo 6 = false := rfl
@[go_sem] theorem tbo_7 : tbo 7 = false := rfl
@[go_sem] theorem tbo_8 : tbo 8 = false := rfl
@[go_sem] theorem tbo_9 : tbo 9 = false := rfl
@[go_sem] theorem tbo_10 : tbo 10 = false := rfl
@[go_sem] theorem tbo_11 : tbo 11 = false := rfl
@[go_sem] theorem tbo_12 : tbo 12 = false := rfl
@[go_sem] theorem tbo_13 : tbo 13 = false := rfl
@[go_sem] theorem tbo_14 : tbo 14 = false := rfl
@[go_sem] theorem tbo_21 : tbo 21 = false := rfl
@[go_sem] theorem tbo_22 : tbo 22 = false := rfl
@[go_sem] theorem tbo_23 : tbo 23 = false := rfl
@[go_sem] theorem tbo_24 : tbo 24 = false := rfl
@[go_sem] theorem tbo_25 : tbo 25 = false := rfl
@[go_sem] theorem tbo_26 : tbo 26 = false := rfl
@[go_sem] theorem tbo_28 : tbo 28 = false := rfl
@[go_sem] theorem tbo_30 : tbo 30 = false := rfl
@[go_sem] theorem tbo_31 : tbo 31 = false := rfl
@[go_sem] theorem tbo_32 : tbo 32 = false := rfl
@[go_sem] theorem tbo_33 : tbo 33 = false := rfl
@[go_sem] theorem tbo_51 : tbo 51 = false := rfl
@[go_sem] theorem tbo_52 : tbo 52 = false := rfl
@[go_sem] theorem tbo_54 : tbo 54 = false := rfl
@[go_sem] theorem tbo_64 : tbo 64 = false := rfl
@[go_sem] theorem tbo_65 : tbo 65 = false := rfl
@[go_sem] theorem tbo_73 : tbo 73 = false := rfl
@[go_sem] theorem tbo_74 : tbo 74 = false := rfl
@[go_sem] theorem tbo_80 : tbo 80 = false := rfl
@[go_sem] theorem tbo_81 : tbo 81 = false := rfl
@[go_sem] theorem tbo_83 : tbo 83 = false := rfl
@[go_sem] theorem tbo_84 : tbo 84 = false := rfl
@[go_sem] theorem tbo_89 : tbo 89 = false := rfl
@[go_sem] theorem tbo_105 : tbo 105 = false := rfl
@[go_sem] theorem tbo_119 : tbo 119 = false := rfl
@[go_sem] theorem tbo_120 : tbo 120 = false := rfl
@[go_sem] theorem tbo_129 : tbo 129 = false := rfl
@[go_sem] theorem tbo_130 : tbo 130 = false := rfl
@[go_sem] theorem tbo_133 : tbo 133 = false := rfl
@[go_sem] theorem tbo_134 : tbo 134 = false := rfl
@[go_sem] theorem dead_6_5 : dead 6 5 = [0, 2, 5, 7, 8, 9, 10, 11, 12, 13, 14, 15, 16, 17, 18, 19, 20, 21, 22, 23, 24, 25, 26, 27, 28, 29, 30, 31, 32, 33, 34, 35, 36, 37, 38, 39, 40, 41, 42, 43, 44, 45, 46, 47, 48, 49, 50, 51, 52, 53, 54, 55, 56, 57, 58, 59, 60, 61, 62, 63, 64, 65, 66, 67, 68, 69, 70, 71, 72, 73, 74, 75, 76, 77, 78, 79, 80, 81, 82, 83, 84, 85, 86, 87, 88, 89, 90] := rfl
@[go_sem] theorem dead_6_10 : dead 6 10 = [0, 2, 4, 6, 7, 8, 9, 10, 11, 12, 13, 14, 15, 16, 17, 18, 19, 20, 21, 22, 23, 24, 25, 26, 27, 28, 29, 30, 31, 32, 33, 34, 35, 36, 37, 38, 39, 40, 41, 42, 43, 44, 45, 46, 47, 48, 49, 50, 51, 52, 53, 54, 55, 56, 57, 58, 59, 60, 61, 62, 63, 64, 65, 66, 67, 68, 69, 70, 71, 72, 73, 74, 75, 76, 77, 78, 79, 80, 81, 82, 83, 84, 85, 86, 87, 88, 89, 90] := rfl
@[go_sem] theorem dead_8_6 : dead 8 6 = [0, 2, 4, 5, 6, 8, 9, 10, 11, 12, 13, 14, 15, 16, 17, 18, 19, 20, 24, 25, 26, 27, 28, 29, 30, 31, 32, 33, 34, 35, 36, 37, 38, 39, 40, 41, 42, 43, 44, 45, 46, 47, 48, 49, 50, 51, 52, 53, 54, 55, 56, 57, 58, 59, 60, 61, 62, 63, 64, 65, 66, 67] := rfl
@[go_sem] theorem dead_8_12 : dead 8 12 = [0, 2, 4, 5, 6, 7, 8, 9, 10, 11, 12, 13, 14, 15, 16, 17, 18, 19, 20, 21, 22, 23, 24, 25, 26, 27, 28, 29, 30, 31, 32, 33, 34, 35, 36, 40, 41, 42, 43, 44, 45, 46, 47, 48, 49, 50, 51, 52, 53, 54, 55, 56, 57, 58, 59, 60, 61, 62, 63, 64, 65, 66, 67] := rfl
@[go_sem] theorem dead_9_4 : dead 9 4 = [2, 3, 4, 6, 7, 8, 9, 10, 11, 12, 13, 14, 15, 16, 17, 18, 19, 20, 21, 22, 23, 24, 25] := rfl
@[go_sem] theorem dead_12_2 : dead 12 2 = [2, 3, 4, 6, 7, 8, 9, 10, 11, 12, 13, 14, 15, 16, 17, 18, 19] := rfl
@[go_sem] theorem dead_13_2 : dead 13 2 = [2, 3, 4, 6, 7, 8, 9, 10, 11, 12, 13, 14, 15, 16, 17, 18, 19, 20, 21] := rfl
@[go_sem] theorem dead_14_6 : dead 14 6 = [1, 3, 7, 9, 10, 11, 12, 13, 14, 15, 16, 17, 18, 19, 20, 21, 22, 23, 24, 25, 26, 27, 28, 29, 30, 31, 32, 33, 34, 35, 36, 37, 38, 39, 40, 41, 42, 44, 45, 46, 47, 48, 49, 50, 51, 52, 53, 54, 55, 56, 57, 58, 59, 60, 61, 62, 63, 64, 65, 66, 67, 68, 69, 70, 71, 72, 73, 74, 75, 76, 77, 78, 79, 80, 81, 82, 83, 84, 85, 86, 87, 88, 89, 90, 91, 92, 93, 94, 95, 96, 97, 98, 99, 100, 101, 102, 103, 104, 105, 106, 107, 108, 109, 110, 111, 112, 113, 114, 115, 116, 117, 118, 119, 120, 121, 122, 123, 124, 125, 126, 127, 128, 129, 130, 131, 132, 133, 134, 135, 136, 137, 138, 139, 140, 141, 142, 143] := rfl
@[go_sem] theorem dead_14_14 : dead 14 14 = [0, 1, 3, 5, 6, 11, 12, 13, 14, 15, 16, 17, 18, 19, 20, 21, 22, 23, 24, 25, 26, 27, 28, 29, 30, 31, 32, 33, 34, 35, 36, 37, 38, 39, 40, 41, 42, 44, 45, 46, 47, 48, 49, 50, 51, 52, 53, 54, 55, 56, 57, 58, 59, 60, 61, 62, 63, 64, 65, 66, 67, 68, 69, 70, 71, 72, 73, 74, 75, 76, 77, 78, 79, 80, 81, 82, 83, 84, 85, 86, 87, 88, 89, 90, 91, 92, 93, 94, 95, 96, 97, 98, 99, 100, 101, 102, 103, 104, 105, 106, 107, 108, 109, 110, 111, 112, 113, 114, 115, 116, 117, 118, 119, 120, 121, 122, 123, 124, 125, 126, 127, 128, 129, 130, 131, 132, 133, 134, 135, 136, 137, 138, 139, 140, 141, 142, 143] := rfl
@[go_sem] theorem dead_14_19 : dead 14 19 = [0, 1, 3, 5, 6, 10, 13, 14, 15, 16, 17, 18, 19, 20, 21, 22, 23, 24, 25, 26, 27, 28, 29, 30, 31, 32, 33, 34, 35, 36, 37, 38, 39, 40, 41, 42, 44, 45, 46, 47, 48, 49, 50, 51, 52, 53, 54, 55, 56, 57, 58, 59, 60, 61, 62, 63, 64, 65, 66, 67, 68, 69, 70, 71, 72, 73, 74, 75, 76, 77, 78, 79, 80, 81, 82, 83, 84, 85, 86, 87, 88, 89, 90, 91, 92, 93, 94, 95, 96, 97, 98, 99, 100, 101, 102, 103, 104, 105, 106, 107, 108, 109, 110, 111, 112, 113, 114, 115, 116, 117, 118, 119, 120, 121, 122, 123, 124, 125, 126, 127, 128, 129, 130, 131, 132, 133, 134, 135, 136, 137, 138, 139, 140, 141, 142, 143] := rfl
@[go_sem] theorem dead_15_3 : dead 15 3 = [1, 2, 5, 6, 7, 8, 9, 10, 11, 12, 13, 14, 15, 16, 17, 18, 19, 20, 21] := rfl
@[go_sem] theorem dead_16_7 : dead 16 7 = [0, 1, 3, 4, 5, 10, 11, 12, 13, 14, 15, 16, 17, 18, 19, 20, 21, 22, 24, 25, 26, 27, 28, 29, 30, 33, 34, 35, 36, 37, 38, 39, 40, 41, 42, 43, 44, 45, 46, 47, 48, 49, 50, 51, 52, 53, 54, 55, 56, 57, 58, 59, 60, 61, 62, 63, 64, 65, 66, 67, 68, 69, 70, 71, 72, 73, 74, 75, 76, 77, 78, 79, 80, 81, 82, 83] := rfl
@[go_sem] theorem dead_16_11 : dead 16 11 = [0, 1, 3, 4, 5, 9, 10, 11, 12, 13, 14, 15, 16, 17, 18, 19, 20, 21, 22, 24, 25, 26, 27, 28, 29, 30, 31, 32, 33, 34, 35, 36, 37, 38, 39, 40, 41, 42, 45, 46, 47, 48, 49, 50, 51, 52, 53, 54, 55, 56, 57, 58, 59, 60, 61, 62, 63, 64, 65, 66, 67, 68, 69, 70, 71, 72, 73, 74, 75, 76, 77, 78, 79, 80, 81, 82, 83] := rfl
@[go_sem] theorem dead_18_5 : dead 18 5 = [2, 3, 4, 6, 7, 8, 9, 10, 11, 12, 13, 14, 15, 16, 17, 18, 19, 20, 21, 22, 23, 24, 25, 26] := rfl
@[go_sem] theorem dead_19_5 : dead 19 5 = [2, 3, 4, 6, 7, 8, 9, 10, 11, 12, 13, 14, 15, 16, 17, 18, 19, 20, 21, 22, 23, 24, 25, 26, 27] := rfl
@[go_sem] theorem dead_20_5 : dead 20 5 = [2, 3, 4, 6, 7, 8, 9, 10, 11, 12, 13, 14, 15, 16, 17, 18, 19, 20, 21, 22, 23, 24, 25, 26] := rfl
@[go_sem] theorem dead_21_4 : dead 21 4 = [0, 2, 4, 5, 6, 7, 9, 10, 11, 12, 13, 14, 15, 16, 17, 18, 19, 20, 21, 22, 23, 24, 25, 26, 27, 28, 29, 30, 31, 32, 33, 34, 35, 36, 37, 38, 39, 40, 41, 42, 43, 44, 45, 46, 47, 48, 49, 50, 51, 52, 53, 54, 55, 56, 57, 58, 59, 60, 61, 62, 63, 64, 65, 66, 67, 68, 69, 70, 71, 72, 73, 74, 75, 76, 77, 78, 79, 80, 81, 82, 83, 84, 85, 86, 87, 88, 89, 90, 91, 92, 93, 94, 95, 96, 97, 98, 99, 100, 101, 102, 103, 104, 105, 106] := rfl
@[go_sem] theorem dead_21_10 : dead 21 10 = [0, 2, 3, 4, 5, 6, 8, 9, 10, 11, 12, 13, 14, 15, 16, 17, 18, 19, 20, 21, 22, 23, 24, 25, 26, 27, 28, 29, 30, 31, 32, 33, 34, 35, 36, 37, 38, 39, 40, 41, 42, 43, 44, 45, 46, 47, 48, 49, 50, 51, 52, 53, 54, 55, 56, 57, 58, 59, 60, 61, 62, 63, 64, 65, 66, 67, 68, 69, 70, 71, 72, 73, 74, 75, 76, 77, 78, 79, 80, 81, 82, 83, 84, 85, 86, 87, 88, 89, 90, 91, 92, 93, 94, 95, 96, 97, 98, 99, 100, 101, 102, 103, 104, 105, 106] := rfl
@[go_sem] theorem dead_22_6 : dead 22 6 = [0, 2, 3, 4, 6, 7, 8, 9, 10, 11, 12, 13, 14, 15, 16, 17, 18, 19, 20, 21, 22, 23, 24, 25, 26, 27, 28] := rfl
@[go_sem] theorem dead_23_3 : dead 23 3 = [2, 3, 4, 6, 7, 8, 9, 10, 11, 12, 13, 14, 15, 16, 17, 18, 19, 20, 21, 22, 23, 24, 25, 26, 27, 28, 29] := rfl
@[go_sem] theorem dead_25_3 : dead 25 3 = [1, 2, 5, 6, 7, 8, 9, 10, 11, 12, 13, 14, 15, 16, 17, 18, 19, 20, 21, 22, 23, 24, 25, 26, 27, 28, 29, 30, 31, 32, 33] := rfl
@[go_sem] theorem dead_25_7 : dead 25 7 = [1, 2, 6, 7, 8, 9, 10, 11, 12, 13, 14, 15, 16, 17, 18, 19, 20, 21, 22, 23, 24, 25, 26, 27, 28, 29, 30, 31, 32, 33] := rfl
@[go_sem] theorem dead_26_3 : dead 26 3 = [1, 2, 5, 6, 7, 8, 9, 10, 11, 12, 13, 14, 15, 16, 17, 18, 19, 20, 21, 22] := rfl
@[go_sem] theorem dead_27_3 : dead 27 3 = [1, 2, 5, 6, 7, 8, 9, 10, 11, 12, 13, 14, 15, 16, 17, 18, 19, 20, 21] := rfl
@[go_sem] theorem dead_28_3 : dead 28 3 = [1, 2, 5, 6, 7, 8, 9, 10, 11, 12, 13, 14, 15, 16, 17, 18, 19, 20, 21, 22] := rfl
@[go_sem] theorem dead_29_2 : dead 29 2 = [0, 2, 3, 4, 5, 7, 11, 12, 13, 14, 15, 16, 17, 18, 19, 20, 21, 22, 23, 24, 25, 26, 27, 28, 29, 30, 31, 32, 33, 34, 35, 36, 37, 38, 39, 40, 41, 42, 43, 44, 45, 46, 47, 48, 49, 50, 51, 52, 53, 54, 55, 56, 57, 58, 59, 60, 61, 62, 63] := rfl
@[go_sem] theorem dead_29_8 : dead 29 8 = [0, 2, 3, 4, 5, 6, 7, 8, 9, 10, 11, 12, 13, 14, 15, 16, 17, 18, 19, 20, 21, 22, 23, 24, 25, 26, 27, 28, 29, 30, 31, 32, 33, 37, 38, 39, 40, 41, 42, 43, 44, 45, 46, 47, 48, 49, 50, 51, 52, 53, 54, 55, 56, 57, 58, 59, 60, 61, 62, 63] := rfl
@[go_sem] theorem dead_30_3 : dead 30 3 = [1, 2, 3, 4, 5, 6, 7, 8, 9, 10, 14, 15, 16, 17, 18, 19, 20, 21, 22, 23, 24, 25] := rfl
@[go_sem] theorem dead_31_3 : dead 31 3 = [0, 2, 3, 4, 6, 7, 8, 9, 10, 11, 12, 13, 14, 15, 16, 17, 18, 19, 20, 21, 22, 23, 24, 25, 26] := rfl
@[go_sem] theorem dead_34_4 : dead 34 4 = [2, 3, 4, 6, 7, 8, 9, 10, 11, 12, 13, 14, 15, 16, 17, 18, 19, 20, 21, 22, 23, 24, 25, 26] := rfl
@[go_sem] theorem dead_35_4 : dead 35 4 = [2, 3, 4, 6, 7, 8, 9, 10, 11, 12, 13, 14, 15, 16, 17, 18, 19, 20, 21, 22, 23, 24, 25] := rfl
@[go_sem] theorem dead_36_4 : dead 36 4 = [2, 3, 4, 6, 7, 8, 9, 10, 11, 12, 13, 14, 15, 16, 17, 18, 19, 20, 21, 22, 23, 24, 25, 26] := rfl
@[go_sem] theorem dead_37_2 : dead 37 2 = [2, 3, 4, 6, 7, 8, 9, 10, 11, 12, 13, 14, 15, 16, 17, 18, 19, 20, 21, 22, 23, 24, 25, 26, 27, 28] := rfl
@[go_sem] theorem dead_38_2 : dead 38 2 = [2, 3, 4, 6, 7, 8, 9, 10, 11, 12, 13, 14, 15, 16, 17, 18, 19] := rfl
@[go_sem] theorem dead_39_2 : dead 39 2 = [2, 3, 4, 6, 7, 8, 9, 10, 11, 12, 13, 14, 15, 16, 17, 18, 19, 20, 21, 22, 23, 24, 25, 26, 27, 28, 29, 30, 31, 32, 33, 34, 35, 36, 37, 38, 39, 40, 41, 42, 43, 44, 45, 46, 47, 48, 49] := rfl
@[go_sem] theorem dead_41_4 : dead 41 4 = [1, 2, 6, 7, 8, 9, 10, 11, 12, 13, 14, 15, 16, 17, 18, 19, 20, 21, 22, 23, 24, 25, 26, 27, 28, 29, 30, 31, 32, 33, 34, 35, 36, 37, 38, 39, 40, 41, 42, 43, 44, 45, 46, 47, 48, 49] := rfl
@[go_sem] theorem dead_46_3 : dead 46 3 = [1, 2, 4, 5, 6, 7, 10, 11, 12, 13, 14, 15, 16, 17, 18, 19, 20, 21, 22] := rfl
@[go_sem] theorem dead_50_2 : dead 50 2 = [2, 3, 4, 6, 7, 8, 9, 10, 11, 12, 13, 14, 15, 16, 17, 18, 19, 20, 21, 22, 23, 24, 25, 26, 27, 28, 29, 30, 31, 32] := rfl
@[go_sem] theorem dead_51_2 : dead 51 2 = [2, 3, 4, 6, 7, 8, 9, 10, 11, 12, 13, 14, 15, 16, 17, 18, 19, 20, 21] := rfl
@[go_sem] theorem dead_52_2 : dead 52 2 = [2, 3, 4, 6, 7, 8, 9, 10, 11, 12, 13, 14, 15, 16, 17, 18, 19, 20, 21, 22, 23, 24, 25, 26, 27, 28, 29, 30, 31, 32, 33, 34, 35, 36, 37, 38, 39, 40, 41, 42, 43, 44, 45, 46, 47, 48, 49, 50, 51, 52, 53, 54, 55, 56, 57, 58, 59] := rfl
@[go_sem] theorem dead_55_2 : dead 55 2 = [1, 2, 4, 5, 6, 7, 8, 9, 10, 11, 12, 13, 14, 15, 16, 17, 18, 19, 20, 21, 22, 23, 24, 25, 26, 27, 28, 29, 30, 31, 32, 33, 34, 35, 36, 37, 38, 39, 40, 41, 42, 43, 44, 45, 46, 47] := rfl
@[go_sem] theorem dead_62_2 : dead 62 2 = [1, 2, 3, 4, 8, 9, 10, 11, 12, 13, 14, 15, 16, 17, 18, 19, 20, 21, 22, 23, 24, 25, 26, 27, 28, 29, 30, 31, 32, 33, 34, 35, 36, 37, 38, 39, 40, 41] := rfl
@[go_sem] theorem dead_63_2 : dead 63 2 = [1, 2, 4, 5, 6, 7, 8, 9, 10, 11, 12, 13, 14, 15, 16, 17, 18, 19, 20, 21, 22, 23, 24] := rfl
@[go_sem] theorem dead_65_3 : dead 65 3 = [0, 1, 2, 4, 5, 6, 10, 11, 12, 13, 14, 15, 16, 17, 18, 19, 20, 21, 22, 23, 24, 25, 26, 27, 28, 29, 30, 31] := rfl
@[go_sem] theorem dead_65_7 : dead 65 7 = [0, 1, 2, 4, 5, 6, 10, 11, 12, 13, 14, 15, 16, 18, 19, 20, 21, 22, 23, 24, 25, 26, 27, 28, 29, 30, 31] := rfl
@[go_sem] theorem dead_68_4 : dead 68 4 = [1, 2, 4, 5, 6, 7, 8, 9, 10, 11, 12, 13, 14, 15, 16, 17, 18, 19] := rfl
@[go_sem] theorem dead_69_3 : dead 69 3 = [2, 3, 4, 5, 6, 9, 10, 11, 12, 13, 14, 15, 16, 17, 18, 19, 20, 21, 22, 23, 24, 25, 26, 27, 28, 29, 30, 31, 32, 33, 34, 35, 36, 37, 38, 39, 40, 41, 42, 43, 44, 45, 46, 47, 48, 49, 50, 51, 52, 53, 54, 55, 56, 57, 58, 59, 60, 61, 62, 63] := rfl
@[go_sem] theorem dead_71_6 : dead 71 6 = [2, 3, 4, 5, 6, 10, 11, 12, 13, 14, 15, 16, 17, 18, 19, 20, 21, 22, 23, 24, 25, 26, 27, 28, 29, 30, 31, 32, 33, 34, 35, 36, 37, 38, 39, 40, 41, 42, 43, 44, 45, 46, 47, 48, 49, 50, 51, 52, 53, 54, 55, 56] := rfl
@[go_sem] theorem dead_74_2 : dead 74 2 = [1, 2, 4, 5, 6, 7, 8, 9, 10, 11, 12, 13, 14, 15, 16, 17, 18, 19, 20, 21, 22, 23, 24, 25, 26, 27, 28, 29, 30, 31, 32, 33, 34, 35, 36, 37, 38, 39, 40, 41, 42, 43, 44, 45] := rfl
@[go_sem] theorem dead_76_6 : dead 76 6 = [1, 2, 3, 7, 8, 9, 10, 11, 12, 13, 14, 15, 16, 17, 18, 19, 20, 21, 22, 23, 24, 25, 26, 27, 28, 29, 30, 31, 32, 33, 34, 35, 36, 37, 38, 39, 40, 41, 42, 43, 44, 45, 46, 47, 48, 49, 50, 51, 52, 53, 54, 55, 56, 57, 58] := rfl
@[go_sem] theorem dead_77_5 : dead 77 5 = [1, 2, 5, 6, 7, 8, 9, 10, 11, 12, 13, 14, 15, 16, 17, 18, 19, 20, 21, 22, 23, 24, 25, 26, 27, 28, 29, 30, 31, 32] := rfl
@[go_sem] theorem dead_80_2 : dead 80 2 = [1, 2, 3, 4, 5, 8, 9, 10, 11, 12, 13, 14, 15, 16, 17, 18, 19, 20, 21, 22, 23, 24, 25, 26, 27, 28, 29, 30, 31, 32, 33, 34, 35, 36, 37, 38, 39, 40, 41, 42, 43, 44, 45, 46, 47, 48, 49, 50, 51, 52, 53, 54, 55] := rfl
@[go_sem] theorem dead_83_11 : dead 83 11 = [4, 5, 6, 7, 8, 11, 12, 13, 14, 15, 16, 17, 18, 19, 20, 21, 22, 23, 24, 25, 26, 27, 28, 29, 30, 31, 32, 33, 34, 35, 36, 37, 38, 39, 40, 41, 42, 43, 44, 45, 46, 47, 48, 49, 50, 51, 52, 53, 54, 55, 56, 57, 58, 59, 60, 61, 62, 63, 64, 65] := rfl
@[go_sem] theorem dead_86_6 : dead 86 6 = [2, 3, 4, 5, 8, 9, 10, 11, 12, 13, 14, 15, 16, 17, 18, 19, 20, 21, 22, 23, 24, 25, 26, 27, 28, 29, 30, 31, 32, 33, 34, 35, 36, 37, 38, 39, 40, 41, 42, 43, 44, 45, 46, 47, 48, 49] := rfl
@[go_sem] theorem dead_87_6 : dead 87 6 = [2, 3, 4, 6, 7, 8, 9, 10, 11, 12, 13, 14, 15, 16, 17, 18, 19, 20, 21, 22, 23, 24, 25, 26, 27, 28, 29, 30, 31, 32, 33] := rfl
@[go_sem] theorem dead_89_2 : dead 89 2 = [2, 3, 4, 5, 6, 9, 10, 11, 12, 13, 14, 15, 16, 17, 18] := rfl
@[go_sem] theorem dead_90_2 : dead 90 2 = [0, 1, 3, 5, 6, 7, 8, 9] := rfl
@[go_sem] theorem dead_93_15 : dead 93 15 = [2, 3, 4, 11, 12, 13, 14, 15, 16, 17, 18, 19, 20, 21, 22, 23, 24, 25, 26, 27, 28, 29, 30, 31, 32, 33, 34, 35, 36, 37, 38, 39, 40, 41, 42, 43, 44, 45, 46, 47, 48, 49, 50, 51, 52, 53, 54, 55, 56, 57, 58, 59, 60, 61, 62, 63, 64, 65, 66, 67, 68, 69, 70, 71, 72, 73, 74, 75, 76, 77, 78, 79, 80, 81, 82, 83, 84, 85, 86, 87, 88, 89, 90, 91, 92, 93, 94, 95, 96, 97, 98, 99, 100, 101, 102, 103, 104, 105, 106, 107, 108, 109, 110, 111, 112, 113, 114, 115, 116, 117, 118, 119, 120, 121, 122, 123, 124, 125, 126, 127, 128, 129, 130, 131, 132, 133, 134, 135, 136, 137, 138, 139, 140, 141, 142] := rfl
@[go_sem] theorem dead_98_5 : dead 98 5 = [2, 3, 4, 10, 11, 12, 13, 14, 15, 16, 17, 18, 19, 20, 21, 22, 23, 24, 25, 26, 27, 28, 29, 30, 31, 32, 33, 34, 35, 36, 37, 38, 39, 40, 41, 42, 43, 44, 45, 46, 47, 48, 49, 50, 51, 52, 53, 54, 55, 56, 57, 58, 59, 60, 61, 62, 63, 64, 65, 66, 67, 68, 69, 70, 71, 72, 73, 74, 75, 76, 77, 78, 79, 80] := rfl
@[go_sem] theorem dead_98_11 : dead 98 11 = [2, 3, 4, 9, 11, 12, 13, 14, 15, 16, 17, 18, 19, 20, 21, 22, 23, 24, 25, 26, 27, 28, 29, 30, 31, 32, 33, 34, 35, 36, 37, 38, 39, 40, 41, 42, 43, 44, 45, 46, 47, 48, 49, 50, 51, 52, 53, 54, 55, 56, 57, 58, 59, 60, 61, 62, 63, 64, 65, 66, 67, 68, 69, 70, 71, 72, 73, 74, 75, 76, 77, 78, 79, 80] := rfl
@[go_sem] theorem dead_100_3 : dead 100 3 = [1, 2, 3, 6, 7, 8, 9, 10, 11, 12, 13, 14, 15, 16, 17, 18, 19, 20, 21, 22, 23, 24, 25, 26, 27, 28, 29, 30, 31, 32, 33, 34, 35, 36, 37, 38] := rfl
@[go_sem] theorem dead_100_8 : dead 100 8 = [0, 1, 2, 3, 5, 9, 10, 11, 12, 13, 14, 15, 16, 17, 18, 19, 20, 21, 22, 23, 24, 25, 26, 27, 28, 29, 30, 31, 32, 33, 34, 35, 36, 37, 38] := rfl
/-- The functions that are told by what they do to the caller's slots. -/
def sos : FuncId → Option (Nat → St → List SV → Option (St × SV))
  | _ => none
def tys : Tys := ⟨tsl, tsz, tby, tag, tzr, tfo, tfz, tik, tst, tbo, teq, sos, false, false⟩
@[go_sem] theorem tys_so {t} : tys.so t = sos t := rfl
@[go_sem] theorem sos_3 : sos 3 = none := rfl
@[go_sem] theorem sos_4 : sos 4 = none := rfl
@[go_sem] theorem sos_5 : sos 5 = none := rfl
@[go_sem] theorem sos_6 : sos 6 = none := rfl
@[go_sem] theorem sos_7 : sos 7 = none := rfl
@[go_sem] theorem sos_8 : sos 8 = none := rfl
@[go_sem] theorem sos_9 : sos 9 = none := rfl
@[go_sem] theorem sos_10 : sos 10 = none := rfl
@[go_sem] theorem sos_11 : sos 11 = none := rfl
@[go_sem] theorem sos_12 : sos 12 = none := rfl
@[go_sem] theorem sos_13 : sos 13 = none := rfl
@[go_sem] theorem sos_14 : sos 14 = none := rfl
@[go_sem] theorem sos_15 : sos 15 = none := rfl
@[go_sem] theorem sos_16 : sos 16 = none := rfl
@[go_sem] theorem sos_17 : sos 17 = none := rfl
@[go_sem] theorem sos_18 : sos 18 = none := rfl
@[go_sem] theorem sos_19 : sos 19 = none := rfl
@[go_sem] theorem sos_20 : sos 20 = none := rfl
@[go_sem] theorem sos_21 : sos 21 = none := rfl
@[go_sem] theorem sos_22 : sos 22 = none := rfl
@[go_sem] theorem sos_23 : sos 23 = none := rfl
@[go_sem] theorem sos_24 : sos 24 = none := rfl
@[go_sem] theorem sos_25 : sos 25 = none := rfl
@[go_sem] theorem sos_26 : sos 26 = none := rfl
@[go_sem] theorem sos_27 : sos 27 = none := rfl
@[go_sem] theorem sos_28 : sos 28 = none := rfl
@[go_sem] theorem sos_29 : sos 29 = none := rfl
@[go_sem] theorem sos_30 : sos 30 = none := rfl
@[go_sem] theorem sos_31 : sos 31 = none := rfl
@[go_sem] theorem sos_32 : sos 32 = none := rfl
@[go_sem] theorem sos_33 : sos 33 = none := rfl
@[go_sem] theorem sos_34 : sos 34 = none := rfl
@[go_sem] theorem sos_35 : sos 35 = none := rfl
@[go_sem] theorem sos_36 : sos 36 = none := rfl
@[go_sem] theorem sos_37 : sos 37 = none := rfl
@[go_sem] theorem sos_38 : sos 38 = none := rfl
@[go_sem] theorem sos_39 : sos 39 = none := rfl
@[go_sem] theorem sos_40 : sos 40 = none := rfl
@[go_sem] theorem sos_41 : sos 41 = none := rfl
@[go_sem] theorem sos_42 : sos 42 = none := rfl
@[go_sem] theorem sos_43 : sos 43 = none := rfl
@[go_sem] theorem sos_44 : sos 44 = none := rfl
@[go_sem] theorem sos_45 : sos 45 = none := rfl
@[go_sem] theorem sos_46 : sos 46 = none := rfl
@[go_sem] theorem sos_47 : sos 47 = none := rfl
@[go_sem] theorem sos_48 : sos 48 = none := rfl
@[go_sem] theorem sos_49 : sos 49 = none := rfl
@[go_sem] theorem sos_50 : sos 50 = none := rfl
@[go_sem] theorem sos_51 : sos 51 = none := rfl
@[go_sem] theorem sos_52 : sos 52 = none := rfl
@[go_sem] theorem sos_53 : sos 53 = none := rfl
@[go_sem] theorem sos_54 : sos 54 = none := rfl
@[go_sem] theorem sos_55 : sos 55 = none := rfl
@[go_sem] theorem sos_56 : sos 56 = none := rfl
@[go_sem] theorem sos_57 : sos 57 = none := rfl
@[go_sem] theorem sos_58 : sos 58 = none := rfl
@[go_sem] theorem sos_59 : sos 59 = none := rfl
@[go_sem] theorem sos_60 : sos 60 = none := rfl
@[go_sem] theorem sos_61 : sos 61 = none := rfl
@[go_sem] theorem sos_62 : sos 62 = none := rfl
@[go_sem] theorem sos_63 : sos 63 = none := rfl
@[go_sem] theorem sos_64 : sos 64 = none := rfl
@[go_sem] theorem sos_65 : sos 65 = none := rfl
@[go_sem] theorem sos_66 : sos 66 = none := rfl
@[go_sem] theorem sos_67 : sos 67 = none := rfl
@[go_sem] theorem sos_68 : sos 68 = none := rfl
@[go_sem] theorem sos_69 : sos 69 = none := rfl
@[go_sem] theorem sos_70 : sos 70 = none := rfl
@[go_sem] theorem sos_71 : sos 71 = none := rfl
@[go_sem] theorem sos_72 : sos 72 = none := rfl
@[go_sem] theorem sos_73 : sos 73 = none := rfl
@[go_sem] theorem sos_74 : sos 74 = none := rfl
@[go_sem] theorem sos_75 : sos 75 = none := rfl
@[go_sem] theorem sos_76 : sos 76 = none := rfl
@[go_sem] theorem sos_77 : sos 77 = none := rfl
@[go_sem] theorem sos_78 : sos 78 = none := rfl
@[go_sem] theorem sos_79 : sos 79 = none := rfl
@[go_sem] theorem sos_80 : sos 80 = none := rfl
@[go_sem] theorem sos_81 : sos 81 = none := rfl
@[go_sem] theorem sos_82 : sos 82 = none := rfl
@[go_sem] theorem sos_83 : sos 83 = none := rfl
@[go_sem] theorem sos_84 : sos 84 = none := rfl
@[go_sem] theorem sos_85 : sos 85 = none := rfl
@[go_sem] theorem sos_86 : sos 86 = none := rfl
@[go_sem] theorem sos_87 : sos 87 = none := rfl
@[go_sem] theorem sos_88 : sos 88 = none := rfl
@[go_sem] theorem sos_89 : sos 89 = none := rfl
@[go_sem] theorem sos_90 : sos 90 = none := rfl
@[go_sem] theorem sos_91 : sos 91 = none := rfl
@[go_sem] theorem sos_92 : sos 92 = none := rfl
@[go_sem] theorem sos_93 : sos 93 = none := rfl
@[go_sem] theorem sos_94 : sos 94 = none := rfl
@[go_sem] theorem sos_95 : sos 95 = none := rfl
@[go_sem] theorem sos_96 : sos 96 = none := rfl
@[go_sem] theorem sos_97 : sos 97 = none := rfl
@[go_sem] theorem sos_98 : sos 98 = none := rfl
@[go_sem] theorem sos_99 : sos 99 = none := rfl
@[go_sem] theorem sos_100 : sos 100 = none := rfl
@[go_sem] theorem sos_101 : sos 101 = none := rfl
@[go_sem] theorem sos_102 : sos 102 = none := rfl
@[go_sem] theorem sos_103 : sos 103 = none := rfl
@[go_sem] theorem sos_104 : sos 104 = none := rfl
@[go_sem] theorem sos_105 : sos 105 = none := rfl
@[go_sem] theorem sos_106 : sos 106 = none := rfl
@[go_sem] theorem sos_107 : sos 107 = none := rfl
@[go_sem] theorem sos_108 : sos 108 = none := rfl
@[go_sem] theorem sos_109 : sos 109 = none := rfl
@[go_sem] theorem sos_110 : sos 110 = none := rfl
@[go_sem] theorem sos_111 : sos 111 = none := rfl
@[go_sem] theorem sos_112 : sos 112 = none := rfl
@[go_sem] theorem sos_113 : sos 113 = none := rfl
@[go_sem] theorem sos_114 : sos 114 = none := rfl
@[go_sem] theorem sos_115 : sos 115 = none := rfl
@[go_sem] theorem sos_116 : sos 116 = none := rfl
@[go_sem] theorem sos_117 : sos 117 = none := rfl
@[go_sem] theorem sos_118 : sos 118 = none := rfl
@[go_sem] theorem sos_119 : sos 119 = none := rfl
@[go_sem] theorem sos_120 : sos 120 = none := rfl
@[go_sem] theorem sos_121 : sos 121 = none := rfl
@[go_sem] theorem tik_zero : tik 0 = none := rfl
@[go_sem] theorem tst_zero : tst 0 = false := rfl
@[go_sem] theorem tbo_zero : tbo 0 = false := rfl
attribute [go_sem] tfo tfz
@[go_sem] theorem tys_sl {t} : tys.sl t = tsl t := rfl
@[go_sem] theorem tys_sz {t} : tys.sz t = tsz t := rfl
@[go_sem] theorem tys_by {t} : tys.byt t = tby t := rfl
@[go_sem] theorem tys_ag {t} : tys.ag t = tag t := rfl
@[go_sem] theorem tys_zr {t} : tys.zr t = tzr t := rfl
@[go_sem] theorem tys_fo {t f} : tys.fo t f = tfo t f := rfl
@[go_sem] theorem tys_fz {t f} : tys.fz t f = tfz t f := rfl
@[go_sem] theorem tys_ik {t} : tys.ik t = tik t := rfl
@[go_sem] theorem tys_st {t} : tys.str t = tst t := rfl
@[go_sem] theorem tys_bo {t} : tys.boo t = tbo t := rfl
/-- The functions without a body. -/
def orcs : FuncId → Option (CallF → List SV → List (List CV) → Option Ret)
  | 92 => some (byteOrc fun s c => Lib.countByte s.data.toList c.toNat.toUInt8)
  | 99 => some (byteOrc fun s c => Lib.indexByte s.data.toList c.toNat.toUInt8)
  | 64 => some (cloneOrc 1 1 true)
  | _ => none
/-- The functions that run in the caller's slots. -/
def inls : FuncId → Bool
  | 11 => true
  | 12 => true
  | 37 => true
  | 38 => true
  | 39 => true
  | _ => false
@[go_sem] theorem inls_3 : inls 3 = false := rfl
@[go_sem] theorem inls_4 : inls 4 = false := rfl
@[go_sem] theorem inls_5 : inls 5 = false := rfl
@[go_sem] theorem inls_6 : inls 6 = false := rfl
@[go_sem] theorem inls_7 : inls 7 = false := rfl
@[go_sem] theorem inls_8 : inls 8 = false := rfl
@[go_sem] theorem inls_9 : inls 9 = false := rfl
@[go_sem] theorem inls_10 : inls 10 = false := rfl
@[go_sem] theorem inls_11 : inls 11 = true := rfl
@[go_sem] theorem inls_12 : inls 12 = true := rfl
@[go_sem] theorem inls_13 : inls 13 = false := rfl
@[go_sem] theorem inls_14 : inls 14 = false := rfl
@[go_sem] theorem inls_15 : inls 15 = false := rfl
@[go_sem] theorem inls_16 : inls 16 = false := rfl
@[go_sem] theorem inls_17 : inls 17 = false := rfl
@[go_sem] theorem inls_18 : inls 18 = false := rfl
@[go_sem] theorem inls_19 : inls 19 = false := rfl
@[go_sem] theorem inls_20 : inls 20 = false := rfl
@[go_sem] theorem inls_21 : inls 21 = false := rfl
@[go_sem] theorem inls_22 : inls 22 = false := rfl
@[go_sem] theorem inls_23 : inls 23 = false := rfl
@[go_sem] theorem inls_24 : inls 24 = false := rfl
@[go_sem] theorem inls_25 : inls 25 = false := rfl
@[go_sem] theorem inls_26 : inls 26 = false := rfl
@[go_sem] theorem inls_27 : inls 27 = false := rfl
@[go_sem] theorem inls_28 : inls 28 = false := rfl
@[go_sem] theorem inls_29 : inls 29 = false := rfl
@[go_sem] theorem inls_30 : inls 30 = false := rfl
@[go_sem] theorem inls_31 : inls 31 = false := rfl
@[go_sem] theorem inls_32 : inls 32 = false := rfl
@[go_sem] theorem inls_33 : inls 33 = false := rfl
@[go_sem] theorem inls_34 : inls 34 = false := rfl
@[go_sem] theorem inls_35 : inls 35 = false := rfl
@[go_sem] theorem inls_36 : inls 36 = false := rfl
@[go_sem] theorem inls_37 : inls 37 = true := rfl
@[go_sem] theorem inls_38 : inls 38 = true := rfl
@[go_sem] theorem inls_39 : inls 39 = true := rfl
@[go_sem] theorem inls_40 : inls 40 = false := rfl
@[go_sem] theorem inls_41 : inls 41 = false := rfl
@[go_sem] theorem inls_42 : inls 42 = false := rfl
@[go_sem] theorem inls_43 : inls 43 = false := rfl
@[go_sem] theorem inls_44 : inls 44 = false := rfl
@[go_sem] theorem inls_45 : inls 45 = false := rfl
@[go_sem] theorem inls_46 : inls 46 = false := rfl
@[go_sem] theorem inls_47 : inls 47 = false := rfl
@[go_sem] theorem inls_48 : inls 48 = false := rfl
@[go_sem] theorem inls_49 : inls 49 = false := rfl
@[go_sem] theorem inls_50 : inls 50 = false := rfl
@[go_sem] theorem inls_51 : inls 51 = false := rfl
@[go_sem] theorem inls_52 : inls 52 = false := rfl
@[go_sem] theorem inls_53 : inls 53 = false := rfl
@[go_sem] theorem inls_54 : inls 54 = false := rfl
@[go_sem] theorem inls_55 : inls 55 = false := rfl
@[go_sem] theorem inls_56 : inls 56 = false := rfl
@[go_sem] theorem inls_57 : inls 57 = false := rfl
@[go_sem] theorem inls_58 : inls 58 = false := rfl
@[go_sem] theorem inls_59 : inls 59 = false := rfl
@[go_sem] theorem inls_60 : inls 60 = false := rfl
@[go_sem] theorem inls_61 : inls 61 = false := rfl
@[go_sem] theorem inls_62 : inls 62 = false := rfl
@[go_sem] theorem inls_63 : inls 63 = false := rfl
@[go_sem] theorem inls_64 : inls 64 = false := rfl
@[go_sem] theorem inls_65 : inls 65 = false := rfl
@[go_sem] theorem inls_66 : inls 66 = false := rfl
@[go_sem] theorem inls_67 : inls 67 = false := rfl
@[go_sem] theorem inls_68 : inls 68 = false := rfl
@[go_sem] theorem inls_69 : inls 69 = false := rfl
@[go_sem] theorem inls_70 : inls 70 = false := rfl
@[go_sem] theorem inls_71 : inls 71 = false := rfl
@[go_sem] theorem inls_72 : inls 72 = false := rfl
@[go_sem] theorem inls_73 : inls 73 = false := rfl
@[go_sem] theorem inls_74 : inls 74 = false := rfl
@[go_sem] theorem inls_75 : inls 75 = false := rfl
@[go_sem] theorem inls_76 : inls 76 = false := rfl
@[go_sem] theorem inls_77 : inls 77 = false := rfl
@[go_sem] theorem inls_78 : inls 78 = false := rfl
@[go_sem] theorem inls_79 : inls 79 = false := rfl
@[go_sem] theorem inls_80 : inls 80 = false := rfl
@[go_sem] theorem inls_81 : inls 81 = false := rfl
@[go_sem] theorem inls_82 : inls 82 = false := rfl
@[go_sem] theorem inls_83 : inls 83 = false := rfl
@[go_sem] theorem inls_84 : inls 84 = false := rfl
@[go_sem] theorem inls_85 : inls 85 = false := rfl
@[go_sem] theorem inls_86 : inls 86 = false := rfl
@[go_sem] theorem inls_87 : inls 87 = false := rfl
@[go_sem] theorem inls_88 : inls 88 = false := rfl
@[go_sem] theorem inls_89 : inls 89 = false := rfl
@[go_sem] theorem inls_90 : inls 90 = false := rfl
@[go_sem] theorem inls_91 : inls 91 = false := rfl
@[go_sem] theorem inls_92 : inls 92 = false := rfl
@[go_sem] theorem inls_93 : inls 93 = false := rfl
@[go_sem] theorem inls_94 : inls 94 = false := rfl
@[go_sem] theorem inls_95 : inls 95 = false := rfl
@[go_sem] theorem inls_96 : inls 96 = false := rfl
@[go_sem] theorem inls_97 : inls 97 = false := rfl
@[go_sem] theorem inls_98 : inls 98 = false := rfl
@[go_sem] theorem inls_99 : inls 99 = false := rfl
@[go_sem] theorem inls_100 : inls 100 = false := rfl
@[go_sem] theorem inls_101 : inls 101 = false := rfl
@[go_sem] theorem inls_102 : inls 102 = false := rfl
@[go_sem] theorem inls_103 : inls 103 = false := rfl
@[go_sem] theorem inls_104 : inls 104 = false := rfl
@[go_sem] theorem inls_105 : inls 105 = false := rfl
@[go_sem] theorem inls_106 : inls 106 = false := rfl
@[go_sem] theorem inls_107 : inls 107 = false := rfl
@[go_sem] theorem inls_108 : inls 108 = false := rfl
@[go_sem] theorem inls_109 : inls 109 = false := rfl
@[go_sem] theorem inls_110 : inls 110 = false := rfl
@[go_sem] theorem inls_111 : inls 111 = false := rfl
@[go_sem] theorem inls_112 : inls 112 = false := rfl
@[go_sem] theorem inls_113 : inls 113 = false := rfl
@[go_sem] theorem inls_114 : inls 114 = false := rfl
@[go_sem] theorem inls_115 : inls 115 = false := rfl
@[go_sem] theorem inls_116 : inls 116 = false := rfl
@[go_sem] theorem inls_117 : inls 117 = false := rfl
@[go_sem] theorem inls_118 : inls 118 = false := rfl
@[go_sem] theorem inls_119 : inls 119 = false := rfl
@[go_sem] theorem inls_120 : inls 120 = false := rfl
@[go_sem] theorem inls_121 : inls 121 = false := rfl
/-- The functions in which slices that go into an array stay their place's own. -/
def mvs : FuncId → Bool
  | 7 => true
  | 11 => true
  | 12 => true
  | 15 => true
  | 16 => true
  | 26 => true
  | 27 => true
  | 28 => true
  | 37 => true
  | 38 => true
  | 39 => true
  | 58 => true
  | 59 => true
  | _ => false
@[go_sem] theorem mvs_3 : mvs 3 = false := rfl
@[go_sem] theorem mvs_4 : mvs 4 = false := rfl
@[go_sem] theorem mvs_5 : mvs 5 = false := rfl
@[go_sem] theorem mvs_6 : mvs 6 = false := rfl
@[go_sem] theorem mvs_7 : mvs 7 = true := rfl
@[go_sem] theorem mvs_8 : mvs 8 = false := rfl
@[go_sem] theorem mvs_9 : mvs 9 = false := rfl
@[go_sem] theorem mvs_10 : mvs 10 = false := rfl
@[go_sem] theorem mvs_11 : mvs 11 = true := rfl
@[go_sem] theorem mvs_12 : mvs 12 = true := rfl
@[go_sem] theorem mvs_13 : mvs 13 = false := rfl
@[go_sem] theorem mvs_14 : mvs 14 = false := rfl
@[go_sem] theorem mvs_15 : mvs 15 = true := rfl
@[go_sem] theorem mvs_16 : mvs 16 = true := rfl
@[go_sem] theorem mvs_17 : mvs 17 = false := rfl
@[go_sem] theorem mvs_18 : mvs 18 = false := rfl
@[go_sem] theorem mvs_19 : mvs 19 = false := rfl
@[go_sem] theorem mvs_20 : mvs 20 = false := rfl
@[go_sem] theorem mvs_21 : mvs 21 = false := rfl
@[go_sem] theorem mvs_22 : mvs 22 = false := rfl
@[go_sem] theorem mvs_23 : mvs 23 = false := rfl
@[go_sem] theorem mvs_24 : mvs 24 = false := rfl
@[go_sem] theorem mvs_25 : mvs 25 = false := rfl
@[go_sem] theorem mvs_26 : mvs 26 = true := rfl
@[go_sem] theorem mvs_27 : mvs 27 = true := rfl
@[go_sem] theorem mvs_28 : mvs 28 = true := rfl
@[go_sem] theorem mvs_29 : mvs 29 = false := rfl
@[go_sem] theorem mvs_30 : mvs 30 = false := rfl
@[go_sem] theorem mvs_31 : mvs 31 = false := rfl
@[go_sem] theorem mvs_32 : mvs 32 = false := rfl
@[go_sem] theorem mvs_33 : mvs 33 = false := rfl
@[go_sem] theorem mvs_34 : mvs 34 = false := rfl
@[go_sem] theorem mvs_35 : mvs 35 = false := rfl
@[go_sem] theorem mvs_36 : mvs 36 = false := rfl
@[go_sem] theorem mvs_37 : mvs 37 = true := rfl
@[go_sem] theorem mvs_38 : mvs 38 = true := rfl
@[go_sem] theorem mvs_39 : mvs 39 = true := rfl
@[go_sem] theorem mvs_40 : mvs 40 = false := rfl
@[go_sem] theorem mvs_41 : mvs 41 = false := rfl
@[go_sem] theorem mvs_42 : mvs 42 = false := rfl
@[go_sem] theorem mvs_43 : mvs 43 = false := rfl
@[go_sem] theorem mvs_44 : mvs 44 = false := rfl
@[go_sem] theorem mvs_45 : mvs 45 = false := rfl
@[go_sem] theorem mvs_46 : mvs 46 = false := rfl
@[go_sem] theorem mvs_47 : mvs 47 = false := rfl
@[go_sem] theorem mvs_48 : mvs 48 = false := rfl
@[go_sem] theorem mvs_49 : mvs 49 = false := rfl
@[go_sem] theorem mvs_50 : mvs 50 = false := rfl
@[go_sem] theorem mvs_51 : mvs 51 = false := rfl
@[go_sem] theorem mvs_52 : mvs 52 = false := rfl
@[go_sem] theorem mvs_53 : mvs 53 = false := rfl
@[go_sem] theorem mvs_54 : mvs 54 = false := rfl
@[go_sem] theorem mvs_55 : mvs 55 = false := rfl
@[go_sem] theorem mvs_56 : mvs 56 = false := rfl
@[go_sem] theorem mvs_57 : mvs 57 = false := rfl
@[go_sem] theorem mvs_58 : mvs 58 = true := rfl
@[go_sem] theorem mvs_59 : mvs 59 = true := rfl
@[go_sem] theorem mvs_60 : mvs 60 = false := rfl
@[go_sem] theorem mvs_61 : mvs 61 = false := rfl
@[go_sem] theorem mvs_62 : mvs 62 = false := rfl
@[go_sem] theorem mvs_63 : mvs 63 = false := rfl
@[go_sem] theorem mvs_64 : mvs 64 = false := rfl
@[go_sem] theorem mvs_65 : mvs 65 = false := rfl
@[go_sem] theorem mvs_66 : mvs 66 = false := rfl
@[go_sem] theorem mvs_67 : mvs 67 = false := rfl
@[go_sem] theorem mvs_68 : mvs 68 = false := rfl
@[go_sem] theorem mvs_69 : mvs 69 = false := rfl
@[go_sem] theorem mvs_70 : mvs 70 = false := rfl
@[go_sem] theorem mvs_71 : mvs 71 = false := rfl
@[go_sem] theorem mvs_72 : mvs 72 = false := rfl
@[go_sem] theorem mvs_73 : mvs 73 = false := rfl
@[go_sem] theorem mvs_74 : mvs 74 = false := rfl
@[go_sem] theorem mvs_75 : mvs 75 = false := rfl
@[go_sem] theorem mvs_76 : mvs 76 = false := rfl
@[go_sem] theorem mvs_77 : mvs 77 = false := rfl
@[go_sem] theorem mvs_78 : mvs 78 = false := rfl
@[go_sem] theorem mvs_79 : mvs 79 = false := rfl
@[go_sem] theorem mvs_80 : mvs 80 = false := rfl
@[go_sem] theorem mvs_81 : mvs 81 = false := rfl
@[go_sem] theorem mvs_82 : mvs 82 = false := rfl
@[go_sem] theorem mvs_83 : mvs 83 = false := rfl
@[go_sem] theorem mvs_84 : mvs 84 = false := rfl
@[go_sem] theorem mvs_85 : mvs 85 = false := rfl
@[go_sem] theorem mvs_86 : mvs 86 = false := rfl
@[go_sem] theorem mvs_87 : mvs 87 = false := rfl
@[go_sem] theorem mvs_88 : mvs 88 = false := rfl
@[go_sem] theorem mvs_89 : mvs 89 = false := rfl
@[go_sem] theorem mvs_90 : mvs 90 = false := rfl
@[go_sem] theorem mvs_91 : mvs 91 = false := rfl
@[go_sem] theorem mvs_92 : mvs 92 = false := rfl
@[go_sem] theorem mvs_93 : mvs 93 = false := rfl
@[go_sem] theorem mvs_94 : mvs 94 = false := rfl
@[go_sem] theorem mvs_95 : mvs 95 = false := rfl
@[go_sem] theorem mvs_96 : mvs 96 = false := rfl
@[go_sem] theorem mvs_97 : mvs 97 = false := rfl
@[go_sem] theorem mvs_98 : mvs 98 = false := rfl
@[go_sem] theorem mvs_99 : mvs 99 = false := rfl
@[go_sem] theorem mvs_100 : mvs 100 = false := rfl
@[go_sem] theorem mvs_101 : mvs 101 = false := rfl
@[go_sem] theorem mvs_102 : mvs 102 = false := rfl
@[go_sem] theorem mvs_103 : mvs 103 = false := rfl
@[go_sem] theorem mvs_104 : mvs 104 = false := rfl
@[go_sem] theorem mvs_105 : mvs 105 = false := rfl
@[go_sem] theorem mvs_106 : mvs 106 = false := rfl
@[go_sem] theorem mvs_107 : mvs 107 = false := rfl
@[go_sem] theorem mvs_108 : mvs 108 = false := rfl
@[go_sem] theorem mvs_109 : mvs 109 = false := rfl
@[go_sem] theorem mvs_110 : mvs 110 = false := rfl
@[go_sem] theorem mvs_111 : mvs 111 = false := rfl
@[go_sem] theorem mvs_112 : mvs 112 = false := rfl
@[go_sem] theorem mvs_113 : mvs 113 = false := rfl
@[go_sem] theorem mvs_114 : mvs 114 = false := rfl
@[go_sem] theorem mvs_115 : mvs 115 = false := rfl
@[go_sem] theorem mvs_116 : mvs 116 = false := rfl
@[go_sem] theorem mvs_117 : mvs 117 = false := rfl
@[go_sem] theorem mvs_118 : mvs 118 = false := rfl
@[go_sem] theorem mvs_119 : mvs 119 = false := rfl
@[go_sem] theorem mvs_120 : mvs 120 = false := rfl
@[go_sem] theorem mvs_121 : mvs 121 = false := rfl
/-- Functions whose drawn regions are run in every order. -/
def als : FuncId → Bool
  | 14 => true
  | 16 => true
  | _ => false
@[go_sem] theorem als_3 : als 3 = false := rfl
@[go_sem] theorem als_4 : als 4 = false := rfl
@[go_sem] theorem als_5 : als 5 = false := rfl
@[go_sem] theorem als_6 : als 6 = false := rfl
@[go_sem] theorem als_7 : als 7 = false := rfl
@[go_sem] theorem als_8 : als 8 = false := rfl
@[go_sem] theorem als_9 : als 9 = false := rfl
@[go_sem] theorem als_10 : als 10 = false := rfl
@[go_sem] theorem als_11 : als 11 = false := rfl
@[go_sem] theorem als_12 : als 12 = false := rfl
@[go_sem] theorem als_13 : als 13 = false := rfl
@[go_sem] theorem als_14 : als 14 = true := rfl
@[go_sem] theorem als_15 : als 15 = false := rfl
@[go_sem] theorem als_16 : als 16 = true := rfl
@[go_sem] theorem als_17 : als 17 = false := rfl
@[go_sem] theorem als_18 : als 18 = false := rfl
@[go_sem] theorem als_19 : als 19 = false := rfl
@[go_sem] theorem als_20 : als 20 = false := rfl
@[go_sem] theorem als_21 : als 21 = false := rfl
@[go_sem] theorem als_22 : als 22 = false := rfl
@[go_sem] theorem als_23 : als 23 = false := rfl
@[go_sem] theorem als_24 : als 24 = false := rfl
@[go_sem] theorem als_25 : als 25 = false := rfl
@[go_sem] theorem als_26 : als 26 = false := rfl
@[go_sem] theorem als_27 : als 27 = false := rfl
@[go_sem] theorem als_28 : als 28 = false := rfl
@[go_sem] theorem als_29 : als 29 = false := rfl
@[go_sem] theorem als_30 : als 30 = false := rfl
@[go_sem] theorem als_31 : als 31 = false := rfl
@[go_sem] theorem als_32 : als 32 = false := rfl
@[go_sem] theorem als_33 : als 33 = false := rfl
@[go_sem] theorem als_34 : als 34 = false := rfl
@[go_sem] theorem als_35 : als 35 = false := rfl
@[go_sem] theorem als_36 : als 36 = false := rfl
@[go_sem] theorem als_37 : als 37 = false := rfl
@[go_sem] theorem als_38 : als 38 = false := rfl
@[go_sem] theorem als_39 : als 39 = false := rfl
@[go_sem] theorem als_40 : als 40 = false := rfl
@[go_sem] theorem als_41 : als 41 = false := rfl
@[go_sem] theorem als_42 : als 42 = false := rfl
@[go_sem] theorem als_43 : als 43 = false := rfl
@[go_sem] theorem als_44 : als 44 = false := rfl
@[go_sem] theorem als_45 : als 45 = false := rfl
@[go_sem] theorem als_46 : als 46 = false := rfl
@[go_sem] theorem als_47 : als 47 = false := rfl
@[go_sem] theorem als_48 : als 48 = false := rfl
@[go_sem] theorem als_49 : als 49 = false := rfl
@[go_sem] theorem als_50 : als 50 = false := rfl
@[go_sem] theorem als_51 : als 51 = false := rfl
@[go_sem] theorem als_52 : als 52 = false := rfl
@[go_sem] theorem als_53 : als 53 = false := rfl
@[go_sem] theorem als_54 : als 54 = false := rfl
@[go_sem] theorem als_55 : als 55 = false := rfl
@[go_sem] theorem als_56 : als 56 = false := rfl
@[go_sem] theorem als_57 : als 57 = false := rfl
@[go_sem] theorem als_58 : als 58 = false := rfl
@[go_sem] theorem als_59 : als 59 = false := rfl
@[go_sem] theorem als_60 : als 60 = false := rfl
@[go_sem] theorem als_61 : als 61 = false := rfl
@[go_sem] theorem als_62 : als 62 = false := rfl
@[go_sem] theorem als_63 : als 63 = false := rfl
@[go_sem] theorem als_64 : als 64 = false := rfl
@[go_sem] theorem als_65 : als 65 = false := rfl
@[go_sem] theorem als_66 : als 66 = false := rfl
@[go_sem] theorem als_67 : als 67 = false := rfl
@[go_sem] theorem als_68 : als 68 = false := rfl
@[go_sem] theorem als_69 : als 69 = false := rfl
@[go_sem] theorem als_70 : als 70 = false := rfl
@[go_sem] theorem als_71 : als 71 = false := rfl
@[go_sem] theorem als_72 : als 72 = false := rfl
@[go_sem] theorem als_73 : als 73 = false := rfl
@[go_sem] theorem als_74 : als 74 = false := rfl
@[go_sem] theorem als_75 : als 75 = false := rfl
@[go_sem] theorem als_76 : als 76 = false := rfl
@[go_sem] theorem als_77 : als 77 = false := rfl
@[go_sem] theorem als_78 : als 78 = false := rfl
@[go_sem] theorem als_79 : als 79 = false := rfl
@[go_sem] theorem als_80 : als 80 = false := rfl
@[go_sem] theorem als_81 : als 81 = false := rfl
@[go_sem] theorem als_82 : als 82 = false := rfl
@[go_sem] theorem als_83 : als 83 = false := rfl
@[go_sem] theorem als_84 : als 84 = false := rfl
@[go_sem] theorem als_85 : als 85 = false := rfl
@[go_sem] theorem als_86 : als 86 = false := rfl
@[go_sem] theorem als_87 : als 87 = false := rfl
@[go_sem] theorem als_88 : als 88 = false := rfl
@[go_sem] theorem als_89 : als 89 = false := rfl
@[go_sem] theorem als_90 : als 90 = false := rfl
@[go_sem] theorem als_91 : als 91 = false := rfl
@[go_sem] theorem als_92 : als 92 = false := rfl
@[go_sem] theorem als_93 : als 93 = false := rfl
@[go_sem] theorem als_94 : als 94 = false := rfl
@[go_sem] theorem als_95 : als 95 = false := rfl
@[go_sem] theorem als_96 : als 96 = false := rfl
@[go_sem] theorem als_97 : als 97 = false := rfl
@[go_sem] theorem als_98 : als 98 = false := rfl
@[go_sem] theorem als_99 : als 99 = false := rfl
@[go_sem] theorem als_100 : als 100 = false := rfl
@[go_sem] theorem als_101 : als 101 = false := rfl
@[go_sem] theorem als_102 : als 102 = false := rfl
@[go_sem] theorem als_103 : als 103 = false := rfl
@[go_sem] theorem als_104 : als 104 = false := rfl
@[go_sem] theorem als_105 : als 105 = false := rfl
@[go_sem] theorem als_106 : als 106 = false := rfl
@[go_sem] theorem als_107 : als 107 = false := rfl
@[go_sem] theorem als_108 : als 108 = false := rfl
@[go_sem] theorem als_109 : als 109 = false := rfl
@[go_sem] theorem als_110 : als 110 = false := rfl
@[go_sem] theorem als_111 : als 111 = false := rfl
@[go_sem] theorem als_112 : als 112 = false := rfl
@[go_sem] theorem als_113 : als 113 = false := rfl
@[go_sem] theorem als_114 : als 114 = false := rfl
@[go_sem] theorem als_115 : als 115 = false := rfl
@[go_sem] theorem als_116 : als 116 = false := rfl
@[go_sem] theorem als_117 : als 117 = false := rfl
@[go_sem] theorem als_118 : als 118 = false := rfl
@[go_sem] theorem als_119 : als 119 = false := rfl
@[go_sem] theorem als_120 : als 120 = false := rfl
@[go_sem] theorem als_121 : als 121 = false := rfl
noncomputable def env : Env := ⟨tys, fns, orcs, dead, fun _ => [], inls, mvs, als⟩
@[go_sem] theorem env_al {g} : env.al g = als g := rfl
@[go_sem] theorem env_inl {g} : env.inl g = inls g := rfl
@[go_sem] theorem env_mv {g} : env.mv g = mvs g := rfl
@[go_sem] theorem env_T : env.T = tys := rfl
@[go_sem] theorem env_dead : env.dead = dead := rfl
end Go.Proofs.YtblelojdboefjaaDoor.R
