/- The tables' entries as laws for simp. Printed by genv.py. -/
import Derived.Test.YtlbigobmhglppaaDoorE
import Derived.Test.YtlbigobmhglppaaDoorM5
import Derived.Test.YtlbigobmhglppaaDoorM4
namespace Go.Proofs.YtlbigobmhglppaaDoor.R
open Go
set_option maxRecDepth 100000
@[go_sem] theorem tsl_2 : tsl 2 = none := rfl
@[go_sem] theorem tsl_3 : tsl 3 = none := rfl
@[go_sem] theorem tsl_4 : tsl 4 = none := rfl
@[go_sem] theorem tsl_5 : tsl 5 = none := rfl
@[go_sem] theorem tsl_6 : tsl 6 = none := rfl
@[go_sem] theorem tsl_7 : tsl 7 = none := rfl
@[go_sem] theorem tsl_8 : tsl 8 = none := rfl
@[go_sem] theorem tsl_9 : tsl 9 = none := rfl
@[go_sem] theorem tsl_10 : tsl 10 = none := rfl
@[go_sem] theorem tsl_11 : tsl 11 = none := rfl
@[go_sem] theorem tsl_12 : tsl 12 = none := rfl
@[go_sem] theorem tsl_13 : tsl 13 = none := rfl
@[go_sem] theorem tsl_14 : tsl 14 = none := rfl
@[go_sem] theorem tsl_21 : tsl 21 = none := rfl
@[go_sem] theorem tsl_22 : tsl 22 = some 87 := rfl
@[go_sem] theorem tsl_23 : tsl 23 = some 9 := rfl
@[go_sem] theorem tsl_24 : tsl 24 = some 90 := rfl
@[go_sem] theorem tsl_25 : tsl 25 = none := rfl
@[go_sem] theorem tsl_26 : tsl 26 = none := rfl
@[go_sem] theorem tsl_29 : tsl 29 = some 91 := rfl
@[go_sem] theorem tsl_30 : tsl 30 = some 52 := rfl
@[go_sem] theorem tsl_31 : tsl 31 = none := rfl
@[go_sem] theorem tsl_32 : tsl 32 = none := rfl
@[go_sem] theorem tsl_36 : tsl 36 = some 5 := rfl
@[go_sem] theorem tsl_51 : tsl 51 = none := rfl
@[go_sem] theorem tsl_52 : tsl 52 = none := rfl
@[go_sem] theorem tsl_66 : tsl 66 = none := rfl
@[go_sem] theorem tsl_70 : tsl 70 = none := rfl
@[go_sem] theorem tsl_71 : tsl 71 = none := rfl
@[go_sem] theorem tsl_79 : tsl 79 = none := rfl
@[go_sem] theorem tsl_80 : tsl 80 = none := rfl
@[go_sem] theorem tsl_86 : tsl 86 = none := rfl
@[go_sem] theorem tsl_87 : tsl 87 = none := rfl
@[go_sem] theorem tsl_89 : tsl 89 = none := rfl
@[go_sem] theorem tsl_90 : tsl 90 = none := rfl
@[go_sem] theorem tsl_91 : tsl 91 = none := rfl
@[go_sem] theorem tsl_107 : tsl 107 = none := rfl
@[go_sem] theorem tsl_119 : tsl 119 = none := rfl
@[go_sem] theorem tsl_120 : tsl 120 = none := rfl
@[go_sem] theorem tsl_129 : tsl 129 = none := rfl
@[go_sem] theorem tsl_130 : tsl 130 = none := rfl
@[go_sem] theorem tsl_133 : tsl 133 = none := rfl
@[go_sem] theorem tsl_134 : tsl 134 = none := rfl
@[go_sem] theorem tsz_2 : tsz 2 = some 1 := rfl
@[go_sem] theorem tsz_3 : tsz 3 = some 1 := rfl
@[go_sem] theorem tsz_4 : tsz 4 = some 1 := rfl
@[go_sem] theorem tsz_5 : tsz 5 = some 1 := rfl
@[go_sem] theorem tsz_6 : tsz 6 = some 1 := rfl
@[go_sem] theorem tsz_7 : tsz 7 = some 4 := rfl
@[go_sem] theorem tsz_8 : tsz 8 = some 4 := rfl
@[go_sem] theorem tsz_9 : tsz 9 = some 1 := rfl
@[go_sem] theorem tsz_10 : tsz 10 = some 1 := rfl
@[go_sem] theorem tsz_11 : tsz 11 = some 1 := rfl
@[go_sem] theorem tsz_12 : tsz 12 = some 1 := rfl
@[go_sem] theorem tsz_13 : tsz 13 = some 2 := rfl
@[go_sem] theorem tsz_14 : tsz 14 = some 2 := rfl
@[go_sem] theorem tsz_21 : tsz 21 = some 1 := rfl
@[go_sem] theorem tsz_22 : tsz 22 = some 1 := rfl
@[go_sem] theorem tsz_23 : tsz 23 = some 1 := rfl
@[go_sem] theorem tsz_24 : tsz 24 = some 1 := rfl
@[go_sem] theorem tsz_25 : tsz 25 = some 3 := rfl
@[go_sem] theorem tsz_26 : tsz 26 = some 3 := rfl
@[go_sem] theorem tsz_29 : tsz 29 = some 1 := rfl
@[go_sem] theorem tsz_30 : tsz 30 = some 1 := rfl
@[go_sem] theorem tsz_31 : tsz 31 = some 3 := rfl
@[go_sem] theorem tsz_32 : tsz 32 = some 3 := rfl
@[go_sem] theorem tsz_36 : tsz 36 = some 1 := rfl
@[go_sem] theorem tsz_51 : tsz 51 = some 5 := rfl
@[go_sem] theorem tsz_52 : tsz 52 = some 5 := rfl
@[go_sem] theorem tsz_66 : tsz 66 = some 1 := rfl
@[go_sem] theorem tsz_70 : tsz 70 = some 3 := rfl
@[go_sem] theorem tsz_71 : tsz 71 = some 3 := rfl
@[go_sem] theorem tsz_79 : tsz 79 = some 3 := rfl
@[go_sem] theorem tsz_80 : tsz 80 = some 3 := rfl
@[go_sem] theorem tsz_86 : tsz 86 = some 2 := rfl
@[go_sem] theorem tsz_87 : tsz 87 = some 2 := rfl
@[go_sem] theorem tsz_89 : tsz 89 = some 5 := rfl
@[go_sem] theorem tsz_90 : tsz 90 = some 5 := rfl
@[go_sem] theorem tsz_91 : tsz 91 = some 2 := rfl
@[go_sem] theorem tsz_107 : tsz 107 = some 1 := rfl
@[go_sem] theorem tsz_119 : tsz 119 = some 2 := rfl
@[go_sem] theorem tsz_120 : tsz 120 = some 2 := rfl
@[go_sem] theorem tsz_129 : tsz 129 = some 1 := rfl
@[go_sem] theorem tsz_130 : tsz 130 = some 1 := rfl
@[go_sem] theorem tsz_133 : tsz 133 = some 1 := rfl
@[go_sem] theorem tsz_134 : tsz 134 = some 1 := rfl
@[go_sem] theorem tby_2 : tby 2 = some 8 := rfl
@[go_sem] theorem tby_3 : tby 3 = some 8 := rfl
@[go_sem] theorem tby_4 : tby 4 = some 1 := rfl
@[go_sem] theorem tby_5 : tby 5 = some 1 := rfl
@[go_sem] theorem tby_6 : tby 6 = some 1 := rfl
@[go_sem] theorem tby_7 : tby 7 = some 24 := rfl
@[go_sem] theorem tby_8 : tby 8 = some 24 := rfl
@[go_sem] theorem tby_9 : tby 9 = some 16 := rfl
@[go_sem] theorem tby_10 : tby 10 = some 16 := rfl
@[go_sem] theorem tby_11 : tby 11 = some 16 := rfl
@[go_sem] theorem tby_12 : tby 12 = some 8 := rfl
@[go_sem] theorem tby_13 : tby 13 = some 24 := rfl
@[go_sem] theorem tby_14 : tby 14 = some 24 := rfl
@[go_sem] theorem tby_21 : tby 21 = some 4 := rfl
@[go_sem] theorem tby_22 : tby 22 = some 24 := rfl
@[go_sem] theorem tby_23 : tby 23 = some 24 := rfl
@[go_sem] theorem tby_24 : tby 24 = some 24 := rfl
@[go_sem] theorem tby_25 : tby 25 = some 72 := rfl
@[go_sem] theorem tby_26 : tby 26 = some 72 := rfl
@[go_sem] theorem tby_29 : tby 29 = some 24 := rfl
@[go_sem] theorem tby_30 : tby 30 = some 24 := rfl
@[go_sem] theorem tby_31 : tby 31 = some 72 := rfl
@[go_sem] theorem tby_32 : tby 32 = some 72 := rfl
@[go_sem] theorem tby_36 : tby 36 = some 24 := rfl
@[go_sem] theorem tby_51 : tby 51 = some 88 := rfl
@[go_sem] theorem tby_52 : tby 52 = some 88 := rfl
@[go_sem] theorem tby_66 : tby 66 = some 8 := rfl
@[go_sem] theorem tby_70 : tby 70 = some 40 := rfl
@[go_sem] theorem tby_71 : tby 71 = some 40 := rfl
@[go_sem] theorem tby_79 : tby 79 = some 40 := rfl
@[go_sem] theorem tby_80 : tby 80 = some 40 := rfl
@[go_sem] theorem tby_86 : tby 86 = some 32 := rfl
@[go_sem] theorem tby_87 : tby 87 = some 32 := rfl
@[go_sem] theorem tby_89 : tby 89 = some 88 := rfl
@[go_sem] theorem tby_90 : tby 90 = some 88 := rfl
@[go_sem] theorem tby_91 : tby 91 = some 32 := rfl
@[go_sem] theorem tby_107 : tby 107 = some 4 := rfl
@[go_sem] theorem tby_119 : tby 119 = some 2 := rfl
@[go_sem] theorem tby_120 : tby 120 = some 2 := rfl
@[go_sem] theorem tby_129 : tby 129 = some 1 := rfl
@[go_sem] theorem tby_130 : tby 130 = some 1 := rfl
@[go_sem] theorem tby_133 : tby 133 = some 4 := rfl
@[go_sem] theorem tby_134 : tby 134 = some 4 := rfl
@[go_sem] theorem tag_2 : tag 2 = some false := rfl
@[go_sem] theorem tag_3 : tag 3 = some false := rfl
@[go_sem] theorem tag_4 : tag 4 = some false := rfl
@[go_sem] theorem tag_5 : tag 5 = some false := rfl
@[go_sem] theorem tag_6 : tag 6 = some false := rfl
@[go_sem] theorem tag_7 : tag 7 = some true := rfl
@[go_sem] theorem tag_8 : tag 8 = some true := rfl
@[go_sem] theorem tag_9 : tag 9 = some false := rfl
@[go_sem] theorem tag_10 : tag 10 = some false := rfl
@[go_sem] theorem tag_11 : tag 11 = some false := rfl
@[go_sem] theorem tag_12 : tag 12 = some false := rfl
@[go_sem] theorem tag_13 : tag 13 = some true := rfl
@[go_sem] theorem tag_14 : tag 14 = some true := rfl
@[go_sem] theorem tag_21 : tag 21 = some false := rfl
@[go_sem] theorem tag_22 : tag 22 = some false := rfl
@[go_sem] theorem tag_23 : tag 23 = some false := rfl
@[go_sem] theorem tag_24 : tag 24 = some false := rfl
@[go_sem] theorem tag_25 : tag 25 = some true := rfl
@[go_sem] theorem tag_26 : tag 26 = some true := rfl
@[go_sem] theorem tag_29 : tag 29 = some false := rfl
@[go_sem] theorem tag_30 : tag 30 = some false := rfl
@[go_sem] theorem tag_31 : tag 31 = some true := rfl
@[go_sem] theorem tag_32 : tag 32 = some true := rfl
@[go_sem] theorem tag_36 : tag 36 = some false := rfl
@[go_sem] theorem tag_51 : tag 51 = some true := rfl
@[go_sem] theorem tag_52 : tag 52 = some true := rfl
@[go_sem] theorem tag_66 : tag 66 = some false := rfl
@[go_sem] theorem tag_70 : tag 70 = some true := rfl
@[go_sem] theorem tag_71 : tag 71 = some true := rfl
@[go_sem] theorem tag_79 : tag 79 = some true := rfl
@[go_sem] theorem tag_80 : tag 80 = some true := rfl
@[go_sem] theorem tag_86 : tag 86 = some true := rfl
@[go_sem] theorem tag_87 : tag 87 = some true := rfl
@[go_sem] theorem tag_89 : tag 89 = some true := rfl
@[go_sem] theorem tag_90 : tag 90 = some true := rfl
@[go_sem] theorem tag_91 : tag 91 = some true := rfl
@[go_sem] theorem tag_107 : tag 107 = some false := rfl
@[go_sem] theorem tag_119 : tag 119 = some true := rfl
@[go_sem] theorem tag_120 : tag 120 = some true := rfl
@[go_sem] theorem tag_129 : tag 129 = some false := rfl
@[go_sem] theorem tag_130 : tag 130 = some false := rfl
@[go_sem] theorem tag_133 : tag 133 = some false := rfl
@[go_sem] theorem tag_134 : tag 134 = some false := rfl
@[go_sem] theorem tzr_2 : tzr 2 = some [.i .i64 0] := rfl
@[go_sem] theorem tzr_3 : tzr 3 = some [.i .i64 0] := rfl
@[go_sem] theorem tzr_4 : tzr 4 = some [.b false] := rfl
@[go_sem] theorem tzr_5 : tzr 5 = some [.i .u8 0] := rfl
@[go_sem] theorem tzr_6 : tzr 6 = some [.i .u8 0] := rfl
@[go_sem] theorem tzr_7 : tzr 7 = some [.i .i64 0, .i .i64 0, .b false, .i .u8 0] := rfl
@[go_sem] theorem tzr_8 : tzr 8 = some [.i .i64 0, .i .i64 0, .b false, .i .u8 0] := rfl
@[go_sem] theorem tzr_9 : tzr 9 = some [.t ⟨#[]⟩] := rfl
@[go_sem] theorem tzr_10 : tzr 10 = some [.t ⟨#[]⟩] := rfl
@[go_sem] theorem tzr_11 : tzr 11 = some [.t ⟨#[]⟩] := rfl
@[go_sem] theorem tzr_12 : tzr 12 = some [.i .u64 0] := rfl
@[go_sem] theorem tzr_13 : tzr 13 = some [.t ⟨#[]⟩, .i .u64 0] := rfl
@[go_sem] theorem tzr_14 : tzr 14 = some [.t ⟨#[]⟩, .i .u64 0] := rfl
@[go_sem] theorem tzr_21 : tzr 21 = some [.i .i32 0] := rfl
@[go_sem] theorem tzr_22 : tzr 22 = some [.s 2 []] := rfl
@[go_sem] theorem tzr_23 : tzr 23 = some [.s 1 []] := rfl
@[go_sem] theorem tzr_24 : tzr 24 = some [.s 5 []] := rfl
@[go_sem] theorem tzr_25 : tzr 25 = some [.s 2 [], .s 1 [], .s 5 []] := rfl
@[go_sem] theorem tzr_26 : tzr 26 = some [.s 2 [], .s 1 [], .s 5 []] := rfl
@[go_sem] theorem tzr_29 : tzr 29 = some [.s 2 []] := rfl
@[go_sem] theorem tzr_30 : tzr 30 = some [.s 5 []] := rfl
@[go_sem] theorem tzr_31 : tzr 31 = some [.s 2 [], .s 1 [], .s 5 []] := rfl
@[go_sem] theorem tzr_32 : tzr 32 = some [.s 2 [], .s 1 [], .s 5 []] := rfl
@[go_sem] theorem tzr_36 : tzr 36 = some [.s 1 []] := rfl
@[go_sem] theorem tzr_51 : tzr 51 = some [.t ⟨#[]⟩, .i .i64 0, .s 1 [], .s 2 [], .t ⟨#[]⟩] := rfl
@[go_sem] theorem tzr_52 : tzr 52 = some [.t ⟨#[]⟩, .i .i64 0, .s 1 [], .s 2 [], .t ⟨#[]⟩] := rfl
@[go_sem] theorem tzr_66 : tzr 66 = some [.i .u64 0] := rfl
@[go_sem] theorem tzr_70 : tzr 70 = some [.s 1 [], .i .i64 0, .b false] := rfl
@[go_sem] theorem tzr_71 : tzr 71 = some [.s 1 [], .i .i64 0, .b false] := rfl
@[go_sem] theorem tzr_79 : tzr 79 = some [.s 1 [], .i .i64 0, .b false] := rfl
@[go_sem] theorem tzr_80 : tzr 80 = some [.s 1 [], .i .i64 0, .b false] := rfl
@[go_sem] theorem tzr_86 : tzr 86 = some [.t ⟨#[]⟩, .t ⟨#[]⟩] := rfl
@[go_sem] theorem tzr_87 : tzr 87 = some [.t ⟨#[]⟩, .t ⟨#[]⟩] := rfl
@[go_sem] theorem tzr_89 : tzr 89 = some [.t ⟨#[]⟩, .i .i64 0, .s 1 [], .s 2 [], .t ⟨#[]⟩] := rfl
@[go_sem] theorem tzr_90 : tzr 90 = some [.t ⟨#[]⟩, .i .i64 0, .s 1 [], .s 2 [], .t ⟨#[]⟩] := rfl
@[go_sem] theorem tzr_91 : tzr 91 = some [.t ⟨#[]⟩, .t ⟨#[]⟩] := rfl
@[go_sem] theorem tzr_107 : tzr 107 = some [.i .u32 0] := rfl
@[go_sem] theorem tzr_119 : tzr 119 = some [.i .u8 0, .i .u8 0] := rfl
@[go_sem] theorem tzr_120 : tzr 120 = some [.i .u8 0, .i .u8 0] := rfl
@[go_sem] theorem tzr_129 : tzr 129 = some [.i .u8 0] := rfl
@[go_sem] theorem tzr_130 : tzr 130 = some [.i .u8 0] := rfl
@[go_sem] theorem tzr_133 : tzr 133 = some [.i .i32 0] := rfl
@[go_sem] theorem tzr_134 : tzr 134 = some [.i .i32 0] := rfl
@[go_sem] theorem tfs_7 : tfs 7 = [(0, 1), (1, 1), (2, 1), (3, 1)] := rfl
@[go_sem] theorem tfs_8 : tfs 8 = [(0, 1), (1, 1), (2, 1), (3, 1)] := rfl
@[go_sem] theorem tfs_13 : tfs 13 = [(0, 1), (1, 1)] := rfl
@[go_sem] theorem tfs_14 : tfs 14 = [(0, 1), (1, 1)] := rfl
@[go_sem] theorem tfs_25 : tfs 25 = [(0, 1), (1, 1), (2, 1)] := rfl
@[go_sem] theorem tfs_26 : tfs 26 = [(0, 1), (1, 1), (2, 1)] := rfl
@[go_sem] theorem tfs_31 : tfs 31 = [(0, 1), (1, 1), (2, 1)] := rfl
@[go_sem] theorem tfs_32 : tfs 32 = [(0, 1), (1, 1), (2, 1)] := rfl
@[go_sem] theorem tfs_51 : tfs 51 = [(0, 1), (1, 1), (2, 1), (3, 1), (4, 1)] := rfl
@[go_sem] theorem tfs_52 : tfs 52 = [(0, 1), (1, 1), (2, 1), (3, 1), (4, 1)] := rfl
@[go_sem] theorem tfs_70 : tfs 70 = [(0, 1), (1, 1), (2, 1)] := rfl
@[go_sem] theorem tfs_71 : tfs 71 = [(0, 1), (1, 1), (2, 1)] := rfl
@[go_sem] theorem tfs_79 : tfs 79 = [(0, 1), (1, 1), (2, 1)] := rfl
@[go_sem] theorem tfs_80 : tfs 80 = [(0, 1), (1, 1), (2, 1)] := rfl
@[go_sem] theorem tfs_86 : tfs 86 = [(0, 1), (1, 1)] := rfl
@[go_sem] theorem tfs_87 : tfs 87 = [(0, 1), (1, 1)] := rfl
@[go_sem] theorem tfs_89 : tfs 89 = [(0, 1), (1, 1), (2, 1), (3, 1), (4, 1)] := rfl
@[go_sem] theorem tfs_90 : tfs 90 = [(0, 1), (1, 1), (2, 1), (3, 1), (4, 1)] := rfl
@[go_sem] theorem tfs_91 : tfs 91 = [(0, 1), (1, 1)] := rfl
@[go_sem] theorem tfs_119 : tfs 119 = [(0, 1), (1, 1)] := rfl
@[go_sem] theorem tfs_120 : tfs 120 = [(0, 1), (1, 1)] := rfl
@[go_sem] theorem tik_2 : tik 2 = some .i64 := rfl
@[go_sem] theorem tik_3 : tik 3 = some .i64 := rfl
@[go_sem] theorem tik_4 : tik 4 = none := rfl
@[go_sem] theorem tik_5 : tik 5 = some .u8 := rfl
@[go_sem] theorem tik_6 : tik 6 = some .u8 := rfl
@[go_sem] theorem tik_7 : tik 7 = none := rfl
@[go_sem] theorem tik_8 : tik 8 = none := rfl
@[go_sem] theorem tik_9 : tik 9 = none := rfl
@[go_sem] theorem tik_10 : tik 10 = none := rfl
@[go_sem] theorem tik_11 : tik 11 = none := rfl
@[go_sem] theorem tik_12 : tik 12 = some .u64 := rfl
@[go_sem] theorem tik_13 : tik 13 = none := rfl
@[go_sem] theorem tik_14 : tik 14 = none := rfl
@[go_sem] theorem tik_21 : tik 21 = some .i32 := rfl
@[go_sem] theorem tik_22 : tik 22 = none := rfl
@[go_sem] theorem tik_23 : tik 23 = none := rfl
@[go_sem] theorem tik_24 : tik 24 = none := rfl
@[go_sem] theorem tik_25 : tik 25 = none := rfl
@[go_sem] theorem tik_26 : tik 26 = none := rfl
@[go_sem] theorem tik_29 : tik 29 = none := rfl
@[go_sem] theorem tik_30 : tik 30 = none := rfl
@[go_sem] theorem tik_31 : tik 31 = none := rfl
@[go_sem] theorem tik_32 : tik 32 = none := rfl
@[go_sem] theorem tik_36 : tik 36 = none := rfl
@[go_sem] theorem tik_51 : tik 51 = none := rfl
@[go_sem] theorem tik_52 : tik 52 = none := rfl
@[go_sem] theorem tik_66 : tik 66 = some .u64 := rfl
@[go_sem] theorem tik_70 : tik 70 = none := rfl
@[go_sem] theorem tik_71 : tik 71 = none := rfl
@[go_sem] theorem tik_79 : tik 79 = none := rfl
@[go_sem] theorem tik_80 : tik 80 = none := rfl
@[go_sem] theorem tik_86 : tik 86 = none := rfl
@[go_sem] theorem tik_87 : tik 87 = none := rfl
@[go_sem] theorem tik_89 : tik 89 = none := rfl
@[go_sem] theorem tik_90 : tik 90 = none := rfl
@[go_sem] theorem tik_91 : tik 91 = none := rfl
@[go_sem] theorem tik_107 : tik 107 = some .u32 := rfl
@[go_sem] theorem tik_119 : tik 119 = none := rfl
@[go_sem] theorem tik_120 : tik 120 = none := rfl
@[go_sem] theorem tik_129 : tik 129 = some .u8 := rfl
@[go_sem] theorem tik_130 : tik 130 = some .u8 := rfl
@[go_sem] theorem tik_133 : tik 133 = some .i32 := rfl
@[go_sem] theorem tik_134 : tik 134 = some .i32 := rfl
@[go_sem] theorem tst_2 : tst 2 = false := rfl
@[go_sem] theorem tst_3 : tst 3 = false := rfl
@[go_sem] theorem tst_4 : tst 4 = false := rfl
@[go_sem] theorem tst_5 : tst 5 = false := rfl
@[go_sem] theorem tst_6 : tst 6 = false := rfl
@[go_sem] theorem tst_7 : tst 7 = false := rfl
@[go_sem] theorem tst_8 : tst 8 = false := rfl
@[go_sem] theorem tst_9 : tst 9 = true := rfl
@[go_sem] theorem tst_10 : tst 10 = true := rfl
@[go_sem] theorem tst_11 : tst 11 = true := rfl
@[go_sem] theorem tst_12 : tst 12 = false := rfl
@[go_sem] theorem tst_13 : tst 13 = false := rfl
@[go_sem] theorem tst_14 : tst 14 = false := rfl
@[go_sem] theorem tst_21 : tst 21 = false := rfl
@[go_sem] theorem tst_22 : tst 22 = false := rfl
@[go_sem] theorem tst_23 : tst 23 = false := rfl
@[go_sem] theorem tst_24 : tst 24 = false := rfl
@[go_sem] theorem tst_25 : tst 25 = false := rfl
@[go_sem] theorem tst_26 : tst 26 = false := rfl
@[go_sem] theorem tst_29 : tst 29 = false := rfl
@[go_sem] theorem tst_30 : tst 30 = false := rfl
@[go_sem] theorem tst_31 : tst 31 = false := rfl
@[go_sem] theorem tst_32 : tst 32 = false := rfl
@[go_sem] theorem tst_36 : tst 36 = false := rfl
@[go_sem] theorem tst_51 : tst 51 = false := rfl
@[go_sem] theorem tst_52 : tst 52 = false := rfl
@[go_sem] theorem tst_66 : tst 66 = false := rfl
@[go_sem] theorem tst_70 : tst 70 = false := rfl
@[go_sem] theorem tst_71 : tst 71 = false := rfl
@[go_sem] theorem tst_79 : tst 79 = false := rfl
@[go_sem] theorem tst_80 : tst 80 = false := rfl
@[go_sem] theorem tst_86 : tst 86 = false := rfl
@[go_sem] theorem tst_87 : tst 87 = false := rfl
@[go_sem] theorem tst_89 : tst 89 = false := rfl
@[go_sem] theorem tst_90 : tst 90 = false := rfl
@[go_sem] theorem tst_91 : tst 91 = false := rfl
@[go_sem] theorem tst_107 : tst 107 = false := rfl
@[go_sem] theorem tst_119 : tst 119 = false := rfl
@[go_sem] theorem tst_120 : tst 120 = false := rfl
@[go_sem] theorem tst_129 : tst 129 = false := rfl
@[go_sem] theorem tst_130 : tst 130 = false := rfl
@[go_sem] theorem tst_133 : tst 133 = false := rfl
@[go_sem] theorem tst_134 : tst 134 = false := rfl
@[go_sem] theorem tbo_2 : tbo 2 = false := rfl
@[go_sem] theorem tbo_3 : tbo 3 = false := rfl
@[go_sem] theorem tbo_4 : tbo 4 = true := rfl
@[go_sem] theorem tbo_5 : tbo 5 = false := rfl
@[go_sem] theorem tbo_6 : tbo 6 = false := rfl
@[go_sem] theorem tbo_7 : tbo 7 = false := rfl
@[go_sem] theorem tbo_8 : tbo 8 = false := rfl
@[go_sem] theorem tbo_9 : tbo 9 = false := rfl
@[go_sem] theorem tbo_10 : tbo 10 = false := rfl
@[go_sem] theorem tbo_11 : tbo 11 = false := rfl
@[go_sem] theorem tbo_12 : tbo 12 = false := rfl
@[go_sem] theorem tbo_13 : tbo 13 = false := rfl
@[go_sem] theorem tbo_14 : tbo 14 = false := rfl
@[go_sem] theorem tbo_21 : tbo 21 = false := rfl
@[go_sem] theorem tbo_22 : tbo 22 = false := rfl
@[go_sem] theorem tbo_23 : tbo 23 = false := rfl
@[go_sem] theorem tbo_24 : tbo 24 = false := rfl
@[go_sem] theorem tbo_25 : tbo 25 = false := rfl
@[go_sem] theorem tbo_26 : tbo 26 = false := rfl
@[go_sem] theorem tbo_29 : tbo 29 = false := rfl
@[go_sem] theorem tbo_30 : tbo 30 = false := rfl
@[go_sem] theorem tbo_31 : tbo 31 = false := rfl
@[go_sem] theorem tbo_32 : tbo 32 = false := rfl
@[go_sem] theorem tbo_36 : tbo 36 = false := rfl
@[go_sem] theorem tbo_51 : tbo 51 = false := rfl
@[go_sem] theorem tbo_52 : tbo 52 = false := rfl
@[go_sem] theorem tbo_66 : tbo 66 = false := rfl
@[go_sem] theorem tbo_70 : tbo 70 = false := rfl
@[go_sem] theorem tbo_71 : tbo 71 = false := rfl
@[go_sem] theorem tbo_79 : tbo 79 = false := rfl
@[go_sem] theorem tbo_80 : tbo 80 = false := rfl
@[go_sem] theorem tbo_86 : tbo 86 = false := rfl
@[go_sem] theorem tbo_87 : tbo 87 = false := rfl
@[go_sem] theorem tbo_89 : tbo 89 = false := rfl
@[go_sem] theorem tbo_90 : tbo 90 = false := rfl
@[go_sem] theorem tbo_91 : tbo 91 = false := rfl
@[go_sem] theorem tbo_107 : tbo 107 = false := rfl
@[go_sem] theorem tbo_119 : tbo 119 = false := rfl
@[go_sem] theorem tbo_120 : tbo 120 = false := rfl
@[go_sem] theorem tbo_129 : tbo 129 = false := rfl
@[go_sem] theorem tbo_130 : tbo 130 = false := rfl
@[go_sem] theorem tbo_133 : tbo 133 = false := rfl
@[go_sem] theorem tbo_134 : tbo 134 = false := rfl
@[go_sem] theorem dead_7_4 : dead 7 4 = [0, 2, 4, 5, 6, 7, 9, 10, 11, 12, 13, 14, 15, 16, 17, 18, 19, 20, 21, 22, 23, 24, 25, 26, 27, 28, 29, 30, 31, 32, 33, 34, 35, 36, 37, 38, 39, 40, 41, 42, 43, 44, 45, 46, 47, 48, 49, 50, 51, 52, 53, 54, 55, 56, 57, 58, 59, 60, 61, 62, 63, 64, 65, 66, 67, 68, 69, 70, 71, 72, 73, 74, 75, 76, 77, 78, 79, 80, 81, 82, 83, 84, 85, 86, 87, 88, 89, 90, 91, 92, 93, 94, 95, 96, 97, 98, 99, 100, 101, 102, 103, 104, 105, 106] := rfl
@[go_sem] theorem dead_7_10 : dead 7 10 = [0, 2, 3, 4, 5, 6, 8, 9, 10, 11, 12, 13, 14, 15, 16, 17, 18, 19, 20, 21, 22, 23, 24, 25, 26, 27, 28, 29, 30, 31, 32, 33, 34, 35, 36, 37, 38, 39, 40, 41, 42, 43, 44, 45, 46, 47, 48, 49, 50, 51, 52, 53, 54, 55, 56, 57, 58, 59, 60, 61, 62, 63, 64, 65, 66, 67, 68, 69, 70, 71, 72, 73, 74, 75, 76, 77, 78, 79, 80, 81, 82, 83, 84, 85, 86, 87, 88, 89, 90, 91, 92, 93, 94, 95, 96, 97, 98, 99, 100, 101, 102, 103, 104, 105, 106] := rfl
@[go_sem] theorem dead_9_2 : dead 9 2 = [0, 2, 3, 4, 5, 7, 11, 12, 13, 14, 15, 16, 17, 18, 19, 20, 21, 22, 23, 24, 25, 26, 27, 28, 29, 30, 31, 32, 33, 34, 35, 36, 37, 38, 39, 40, 41, 42, 43, 44, 45, 46, 47, 48, 49, 50, 51, 52, 53, 54, 55, 56, 57, 58, 59, 60, 61, 62, 63] := rfl
@[go_sem] theorem dead_9_8 : dead 9 8 = [0, 2, 3, 4, 5, 6, 7, 8, 9, 10, 11, 12, 13, 14, 15, 16, 17, 18, 19, 20, 21, 22, 23, 24, 25, 26, 27, 28, 29, 30, 31, 32, 33, 37, 38, 39, 40, 41, 42, 43, 44, 45, 46, 47, 48, 49, 50, 51, 52, 53, 54, 55, 56, 57, 58, 59, 60, 61, 62, 63] := rfl
@[go_sem] theorem dead_11_5 : dead 11 5 = [0, 2, 5, 7, 8, 9, 10, 11, 12, 13, 14, 15, 16, 17, 18, 19, 20, 21, 22, 23, 24, 25, 26, 27, 28, 29, 30, 31, 32, 33, 34, 35, 36, 37, 38, 39, 40, 41, 42, 43, 44, 45, 46, 47, 48, 49, 50, 51, 52, 53, 54, 55, 56, 57, 58, 59, 60, 61, 62, 63, 64, 65, 66, 67, 68, 69, 70, 71, 72, 73, 74, 75, 76, 77, 78, 79, 80, 81, 82, 83, 84, 85, 86, 87, 88, 89, 90] := rfl
@[go_sem] theorem dead_11_10 : dead 11 10 = [0, 2, 4, 6, 7, 8, 9, 10, 11, 12, 13, 14, 15, 16, 17, 18, 19, 20, 21, 22, 23, 24, 25, 26, 27, 28, 29, 30, 31, 32, 33, 34, 35, 36, 37, 38, 39, 40, 41, 42, 43, 44, 45, 46, 47, 48, 49, 50, 51, 52, 53, 54, 55, 56, 57, 58, 59, 60, 61, 62, 63, 64, 65, 66, 67, 68, 69, 70, 71, 72, 73, 74, 75, 76, 77, 78, 79, 80, 81, 82, 83, 84, 85, 86, 87, 88, 89, 90] := rfl
@[go_sem] theorem dead_12_6 : dead 12 6 = [0, 2, 4, 5, 6, 8, 9, 10, 11, 12, 13, 14, 15, 16, 17, 18, 19, 20, 24, 25, 26, 27, 28, 29, 30, 31, 32, 33, 34, 35, 36, 37, 38, 39, 40, 41, 42, 43, 44, 45, 46, 47, 48, 49, 50, 51, 52, 53, 54, 55, 56, 57, 58, 59, 60, 61, 62, 63, 64, 65, 66, 67] := rfl
@[go_sem] theorem dead_12_12 : dead 12 12 = [0, 2, 4, 5, 6, 7, 8, 9, 10, 11, 12, 13, 14, 15, 16, 17, 18, 19, 20, 21, 22, 23, 24, 25, 26, 27, 28, 29, 30, 31, 32, 33, 34, 35, 36, 40, 41, 42, 43, 44, 45, 46, 47, 48, 49, 50, 51, 52, 53, 54, 55, 56, 57, 58, 59, 60, 61, 62, 63, 64, 65, 66, 67] := rfl
@[go_sem] theorem dead_13_4 : dead 13 4 = [2, 3, 4, 6, 7, 8, 9, 10, 11, 12, 13, 14, 15, 16, 17, 18, 19, 20, 21, 22, 23, 24, 25] := rfl
@[go_sem] theorem dead_15_2 : dead 15 2 = [2, 3, 4, 6, 7, 8, 9, 10, 11, 12, 13, 14, 15, 16, 17, 18, 19] := rfl
@[go_sem] theorem dead_16_2 : dead 16 2 = [2, 3, 4, 6, 7, 8, 9, 10, 11, 12, 13, 14, 15, 16, 17, 18, 19, 20, 21] := rfl
@[go_sem] theorem dead_17_6 : dead 17 6 = [1, 3, 7, 9, 10, 11, 12, 13, 14, 15, 16, 17, 18, 19, 20, 21, 22, 23, 24, 25, 26, 27, 28, 29, 30, 31, 32, 33, 34, 35, 36, 37, 38, 39, 40, 41, 42, 44, 45, 46, 47, 48, 49, 50, 51, 52, 53, 54, 55, 56, 57, 58, 59, 60, 61, 62, 63, 64, 65, 66, 67, 68, 69, 70, 71, 72, 73, 74, 75, 76, 77, 78, 79, 80, 81, 82, 83, 84, 85, 86, 87, 88, 89, 90, 91, 92, 93, 94, 95, 96, 97, 98, 99, 100, 101, 102, 103, 104, 105, 106, 107, 108, 109, 110, 111, 112, 113, 114, 115, 116, 117, 118, 119, 120, 121, 122, 123, 124, 125, 126, 127, 128, 129, 130, 131, 132, 133, 134, 135, 136, 137, 138, 139, 140, 141, 142, 143] := rfl
@[go_sem] theorem dead_17_14 : dead 17 14 = [0, 1, 3, 5, 6, 11, 12, 13, 14, 15, 16, 17, 18, 19, 20, 21, 22, 23, 24, 25, 26, 27, 28, 29, 30, 31, 32, 33, 34, 35, 36, 37, 38, 39, 40, 41, 42, 44, 45, 46, 47, 48, 49, 50, 51, 52, 53, 54, 55, 56, 57, 58, 59, 60, 61, 62, 63, 64, 65, 66, 67, 68, 69, 70, 71, 72, 73, 74, 75, 76, 77, 78, 79, 80, 81, 82, 83, 84, 85, 86, 87, 88, 89, 90, 91, 92, 93, 94, 95, 96, 97, 98, 99, 100, 101, 102, 103, 104, 105, 106, 107, 108, 109, 110, 111, 112, 113, 114, 115, 116, 117, 118, 119, 120, 121, 122, 123, 124, 125, 126, 127, 128, 129, 130, 131, 132, 133, 134, 135, 136, 137, 138, 139, 140, 141, 142, 143] := rfl
@[go_sem] theorem dead_17_19 : dead 17 19 = [0, 1, 3, 5, 6, 10, 13, 14, 15, 16, 17, 18, 19, 20, 21, 22, 23, 24, 25, 26, 27, 28, 29, 30, 31, 32, 33, 34, 35, 36, 37, 38, 39, 40, 41, 42, 44, 45, 46, 47, 48, 49, 50, 51, 52, 53, 54, 55, 56, 57, 58, 59, 60, 61, 62, 63, 64, 65, 66, 67, 68, 69, 70, 71, 72, 73, 74, 75, 76, 77, 78, 79, 80, 81, 82, 83, 84, 85, 86, 87, 88, 89, 90, 91, 92, 93, 94, 95, 96, 97, 98, 99, 100, 101, 102, 103, 104, 105, 106, 107, 108, 109, 110, 111, 112, 113, 114, 115, 116, 117, 118, 119, 120, 121, 122, 123, 124, 125, 126, 127, 128, 129, 130, 131, 132, 133, 134, 135, 136, 137, 138, 139, 140, 141, 142, 143] := rfl
@[go_sem] theorem dead_18_3 : dead 18 3 = [1, 2, 5, 6, 7, 8, 9, 10, 11, 12, 13, 14, 15, 16, 17, 18, 19, 20, 21] := rfl
@[go_sem] theorem dead_19_7 : dead 19 7 = [0, 1, 3, 4, 5, 10, 11, 12, 13, 14, 15, 16, 17, 18, 19, 20, 21, 22, 24, 25, 26, 27, 28, 29, 30, 33, 34, 35, 36, 37, 38, 39, 40, 41, 42, 43, 44, 45, 46, 47, 48, 49, 50, 51, 52, 53, 54, 55, 56, 57, 58, 59, 60, 61, 62, 63, 64, 65, 66, 67, 68, 69, 70, 71, 72, 73, 74, 75, 76, 77, 78, 79, 80, 81, 82, 83] := rfl
@[go_sem] theorem dead_19_11 : dead 19 11 = [0, 1, 3, 4, 5, 9, 10, 11, 12, 13, 14, 15, 16, 17, 18, 19, 20, 21, 22, 24, 25, 26, 27, 28, 29, 30, 31, 32, 33, 34, 35, 36, 37, 38, 39, 40, 41, 42, 45, 46, 47, 48, 49, 50, 51, 52, 53, 54, 55, 56, 57, 58, 59, 60, 61, 62, 63, 64, 65, 66, 67, 68, 69, 70, 71, 72, 73, 74, 75, 76, 77, 78, 79, 80, 81, 82, 83] := rfl
@[go_sem] theorem dead_21_5 : dead 21 5 = [2, 3, 4, 6, 7, 8, 9, 10, 11, 12, 13, 14, 15, 16, 17, 18, 19, 20, 21, 22, 23, 24, 25, 26] := rfl
@[go_sem] theorem dead_22_5 : dead 22 5 = [2, 3, 4, 6, 7, 8, 9, 10, 11, 12, 13, 14, 15, 16, 17, 18, 19, 20, 21, 22, 23, 24, 25, 26, 27] := rfl
@[go_sem] theorem dead_23_5 : dead 23 5 = [2, 3, 4, 6, 7, 8, 9, 10, 11, 12, 13, 14, 15, 16, 17, 18, 19, 20, 21, 22, 23, 24, 25, 26] := rfl
@[go_sem] theorem dead_24_2 : dead 24 2 = [1, 2, 4, 5, 6, 7, 8, 9, 10, 11, 12, 13, 14, 15, 16, 17, 18, 19, 20, 21, 22, 23, 24, 25, 26, 27, 28, 29, 30, 31, 32, 33, 34, 35, 36, 37, 38, 39, 40, 41, 42, 43, 44, 45, 46, 47] := rfl
@[go_sem] theorem dead_27_3 : dead 27 3 = [1, 2, 5, 6, 7, 8, 9, 10, 11, 12, 13, 14, 15, 16, 17, 18, 19, 20, 21, 22] := rfl
@[go_sem] theorem dead_28_3 : dead 28 3 = [1, 2, 5, 6, 7, 8, 9, 10, 11, 12, 13, 14, 15, 16, 17, 18, 19, 20, 21] := rfl
@[go_sem] theorem dead_29_3 : dead 29 3 = [1, 2, 5, 6, 7, 8, 9, 10, 11, 12, 13, 14, 15, 16, 17, 18, 19, 20, 21, 22] := rfl
@[go_sem] theorem dead_32_2 : dead 32 2 = [1, 2, 3, 4, 8, 9, 10, 11, 12, 13, 14, 15, 16, 17, 18, 19, 20, 21, 22, 23, 24, 25, 26, 27, 28, 29, 30, 31, 32, 33, 34, 35, 36, 37, 38, 39, 40, 41] := rfl
@[go_sem] theorem dead_33_2 : dead 33 2 = [1, 2, 4, 5, 6, 7, 8, 9, 10, 11, 12, 13, 14, 15, 16, 17, 18, 19, 20, 21, 22, 23, 24] := rfl
@[go_sem] theorem dead_34_4 : dead 34 4 = [2, 3, 4, 6, 7, 8, 9, 10, 11, 12, 13, 14, 15, 16, 17, 18, 19, 20, 21, 22, 23, 24, 25, 26] := rfl
@[go_sem] theorem dead_35_4 : dead 35 4 = [2, 3, 4, 6, 7, 8, 9, 10, 11, 12, 13, 14, 15, 16, 17, 18, 19, 20, 21, 22, 23, 24, 25] := rfl
@[go_sem] theorem dead_36_4 : dead 36 4 = [2, 3, 4, 6, 7, 8, 9, 10, 11, 12, 13, 14, 15, 16, 17, 18, 19, 20, 21, 22, 23, 24, 25, 26] := rfl
@[go_sem] theorem dead_37_6 : dead 37 6 = [0, 2, 3, 4, 6, 7, 8, 9, 10, 11, 12, 13, 14, 15, 16, 17, 18, 19, 20, 21, 22, 23, 24, 25, 26, 27, 28] := rfl
@[go_sem] theorem dead_38_3 : dead 38 3 = [2, 3, 4, 6, 7, 8, 9, 10, 11, 12, 13, 14, 15, 16, 17, 18, 19, 20, 21, 22, 23, 24, 25, 26, 27, 28, 29] := rfl
@[go_sem] theorem dead_40_3 : dead 40 3 = [1, 2, 5, 6, 7, 8, 9, 10, 11, 12, 13, 14, 15, 16, 17, 18, 19, 20, 21, 22, 23, 24, 25, 26, 27, 28, 29, 30, 31, 32, 33] := rfl
@[go_sem] theorem dead_40_7 : dead 40 7 = [1, 2, 6, 7, 8, 9, 10, 11, 12, 13, 14, 15, 16, 17, 18, 19, 20, 21, 22, 23, 24, 25, 26, 27, 28, 29, 30, 31, 32, 33] := rfl
@[go_sem] theorem dead_41_3 : dead 41 3 = [1, 2, 3, 4, 5, 6, 7, 8, 9, 10, 14, 15, 16, 17, 18, 19, 20, 21, 22, 23, 24, 25] := rfl
@[go_sem] theorem dead_42_3 : dead 42 3 = [0, 2, 3, 4, 6, 7, 8, 9, 10, 11, 12, 13, 14, 15, 16, 17, 18, 19, 20, 21, 22, 23, 24, 25, 26] := rfl
@[go_sem] theorem dead_45_2 : dead 45 2 = [2, 3, 4, 6, 7, 8, 9, 10, 11, 12, 13, 14, 15, 16, 17, 18, 19, 20, 21, 22, 23, 24, 25, 26, 27, 28] := rfl
@[go_sem] theorem dead_46_2 : dead 46 2 = [2, 3, 4, 6, 7, 8, 9, 10, 11, 12, 13, 14, 15, 16, 17, 18, 19] := rfl
@[go_sem] theorem dead_47_2 : dead 47 2 = [2, 3, 4, 6, 7, 8, 9, 10, 11, 12, 13, 14, 15, 16, 17, 18, 19, 20, 21, 22, 23, 24, 25, 26, 27, 28, 29, 30, 31, 32, 33, 34, 35, 36, 37, 38, 39, 40, 41, 42, 43, 44, 45, 46, 47, 48, 49] := rfl
@[go_sem] theorem dead_49_4 : dead 49 4 = [1, 2, 6, 7, 8, 9, 10, 11, 12, 13, 14, 15, 16, 17, 18, 19, 20, 21, 22, 23, 24, 25, 26, 27, 28, 29, 30, 31, 32, 33, 34, 35, 36, 37, 38, 39, 40, 41, 42, 43, 44, 45, 46, 47, 48, 49] := rfl
@[go_sem] theorem dead_54_3 : dead 54 3 = [1, 2, 4, 5, 6, 7, 10, 11, 12, 13, 14, 15, 16, 17, 18, 19, 20, 21, 22] := rfl
@[go_sem] theorem dead_58_2 : dead 58 2 = [2, 3, 4, 6, 7, 8, 9, 10, 11, 12, 13, 14, 15, 16, 17, 18, 19, 20, 21, 22, 23, 24, 25, 26, 27, 28, 29, 30, 31, 32] := rfl
@[go_sem] theorem dead_59_2 : dead 59 2 = [2, 3, 4, 6, 7, 8, 9, 10, 11, 12, 13, 14, 15, 16, 17, 18, 19, 20, 21] := rfl
@[go_sem] theorem dead_60_2 : dead 60 2 = [2, 3, 4, 6, 7, 8, 9, 10, 11, 12, 13, 14, 15, 16, 17, 18, 19, 20, 21, 22, 23, 24, 25, 26, 27, 28, 29, 30, 31, 32, 33, 34, 35, 36, 37, 38, 39, 40, 41, 42, 43, 44, 45, 46, 47, 48, 49, 50, 51, 52, 53, 54, 55, 56, 57, 58, 59] := rfl
@[go_sem] theorem dead_63_2 : dead 63 2 = [1, 2, 4, 5, 6, 7, 8, 9, 10, 11, 12, 13, 14, 15, 16, 17, 18, 19, 20, 21, 22, 23, 24, 25, 26, 27, 28, 29, 30, 31, 32, 33, 34, 35, 36, 37, 38, 39, 40, 41, 42, 43, 44, 45] := rfl
@[go_sem] theorem dead_65_6 : dead 65 6 = [1, 2, 3, 7, 8, 9, 10, 11, 12, 13, 14, 15, 16, 17, 18, 19, 20, 21, 22, 23, 24, 25, 26, 27, 28, 29, 30, 31, 32, 33, 34, 35, 36, 37, 38, 39, 40, 41, 42, 43, 44, 45, 46, 47, 48, 49, 50, 51, 52, 53, 54, 55, 56, 57, 58] := rfl
@[go_sem] theorem dead_66_5 : dead 66 5 = [1, 2, 5, 6, 7, 8, 9, 10, 11, 12, 13, 14, 15, 16, 17, 18, 19, 20, 21, 22, 23, 24, 25, 26, 27, 28, 29, 30, 31, 32] := rfl
@[go_sem] theorem dead_71_2 : dead 71 2 = [1, 2, 3, 4, 5, 8, 9, 10, 11, 12, 13, 14, 15, 16, 17, 18, 19, 20, 21, 22, 23, 24, 25, 26, 27, 28, 29, 30, 31, 32, 33, 34, 35, 36, 37, 38, 39, 40, 41, 42, 43, 44, 45, 46, 47, 48, 49, 50, 51, 52, 53, 54, 55] := rfl
@[go_sem] theorem dead_75_3 : dead 75 3 = [0, 1, 2, 4, 5, 6, 10, 11, 12, 13, 14, 15, 16, 17, 18, 19, 20, 21, 22, 23, 24, 25, 26, 27, 28, 29, 30, 31] := rfl
@[go_sem] theorem dead_75_7 : dead 75 7 = [0, 1, 2, 4, 5, 6, 10, 11, 12, 13, 14, 15, 16, 18, 19, 20, 21, 22, 23, 24, 25, 26, 27, 28, 29, 30, 31] := rfl
@[go_sem] theorem dead_76_4 : dead 76 4 = [1, 2, 4, 5, 6, 7, 8, 9, 10, 11, 12, 13, 14, 15, 16, 17, 18, 19] := rfl
@[go_sem] theorem dead_77_3 : dead 77 3 = [2, 3, 4, 5, 6, 9, 10, 11, 12, 13, 14, 15, 16, 17, 18, 19, 20, 21, 22, 23, 24, 25, 26, 27, 28, 29, 30, 31, 32, 33, 34, 35, 36, 37, 38, 39, 40, 41, 42, 43, 44, 45, 46, 47, 48, 49, 50, 51, 52, 53, 54, 55, 56, 57, 58, 59, 60, 61, 62, 63] := rfl
@[go_sem] theorem dead_79_6 : dead 79 6 = [2, 3, 4, 5, 6, 10, 11, 12, 13, 14, 15, 16, 17, 18, 19, 20, 21, 22, 23, 24, 25, 26, 27, 28, 29, 30, 31, 32, 33, 34, 35, 36, 37, 38, 39, 40, 41, 42, 43, 44, 45, 46, 47, 48, 49, 50, 51, 52, 53, 54, 55, 56] := rfl
@[go_sem] theorem dead_84_11 : dead 84 11 = [4, 5, 6, 7, 8, 11, 12, 13, 14, 15, 16, 17, 18, 19, 20, 21, 22, 23, 24, 25, 26, 27, 28, 29, 30, 31, 32, 33, 34, 35, 36, 37, 38, 39, 40, 41, 42, 43, 44, 45, 46, 47, 48, 49, 50, 51, 52, 53, 54, 55, 56, 57, 58, 59, 60, 61, 62, 63, 64, 65] := rfl
@[go_sem] theorem dead_87_6 : dead 87 6 = [2, 3, 4, 5, 8, 9, 10, 11, 12, 13, 14, 15, 16, 17, 18, 19, 20, 21, 22, 23, 24, 25, 26, 27, 28, 29, 30, 31, 32, 33, 34, 35, 36, 37, 38, 39, 40, 41, 42, 43, 44, 45, 46, 47, 48, 49] := rfl
@[go_sem] theorem dead_88_6 : dead 88 6 = [2, 3, 4, 6, 7, 8, 9, 10, 11, 12, 13, 14, 15, 16, 17, 18, 19, 20, 21, 22, 23, 24, 25, 26, 27, 28, 29, 30, 31, 32, 33] := rfl
@[go_sem] theorem dead_90_2 : dead 90 2 = [2, 3, 4, 5, 6, 9, 10, 11, 12, 13, 14, 15, 16, 17, 18] := rfl
@[go_sem] theorem dead_91_2 : dead 91 2 = [0, 1, 3, 5, 6, 7, 8, 9] := rfl
@[go_sem] theorem dead_94_15 : dead 94 15 = [2, 3, 4, 11, 12, 13, 14, 15, 16, 17, 18, 19, 20, 21, 22, 23, 24, 25, 26, 27, 28, 29, 30, 31, 32, 33, 34, 35, 36, 37, 38, 39, 40, 41, 42, 43, 44, 45, 46, 47, 48, 49, 50, 51, 52, 53, 54, 55, 56, 57, 58, 59, 60, 61, 62, 63, 64, 65, 66, 67, 68, 69, 70, 71, 72, 73, 74, 75, 76, 77, 78, 79, 80, 81, 82, 83, 84, 85, 86, 87, 88, 89, 90, 91, 92, 93, 94, 95, 96, 97, 98, 99, 100, 101, 102, 103, 104, 105, 106, 107, 108, 109, 110, 111, 112, 113, 114, 115, 116, 117, 118, 119, 120, 121, 122, 123, 124, 125, 126, 127, 128, 129, 130, 131, 132, 133, 134, 135, 136, 137, 138, 139, 140, 141, 142] := rfl
@[go_sem] theorem dead_99_5 : dead 99 5 = [2, 3, 4, 10, 11, 12, 13, 14, 15, 16, 17, 18, 19, 20, 21, 22, 23, 24, 25, 26, 27, 28, 29, 30, 31, 32, 33, 34, 35, 36, 37, 38, 39, 40, 41, 42, 43, 44, 45, 46, 47, 48, 49, 50, 51, 52, 53, 54, 55, 56, 57, 58, 59, 60, 61, 62, 63, 64, 65, 66, 67, 68, 69, 70, 71, 72, 73, 74, 75, 76, 77, 78, 79, 80] := rfl
@[go_sem] theorem dead_99_11 : dead 99 11 = [2, 3, 4, 9, 11, 12, 13, 14, 15, 16, 17, 18, 19, 20, 21, 22, 23, 24, 25, 26, 27, 28, 29, 30, 31, 32, 33, 34, 35, 36, 37, 38, 39, 40, 41, 42, 43, 44, 45, 46, 47, 48, 49, 50, 51, 52, 53, 54, 55, 56, 57, 58, 59, 60, 61, 62, 63, 64, 65, 66, 67, 68, 69, 70, 71, 72, 73, 74, 75, 76, 77, 78, 79, 80] := rfl
@[go_sem] theorem dead_101_3 : dead 101 3 = [1, 2, 3, 6, 7, 8, 9, 10, 11, 12, 13, 14, 15, 16, 17, 18, 19, 20, 21, 22, 23, 24, 25, 26, 27, 28, 29, 30, 31, 32, 33, 34, 35, 36, 37, 38] := rfl
@[go_sem] theorem dead_101_8 : dead 101 8 = [0, 1, 2, 3, 5, 9, 10, 11, 12, 13, 14, 15, 16, 17, 18, 19, 20, 21, 22, 23, 24, 25, 26, 27, 28, 29, 30, 31, 32, 33, 34, 35, 36, 37, 38] := rfl
attribute [go_sem] tfo tfz
@[go_sem] theorem tys_sl {t} : tys.sl t = tsl t := rfl
@[go_sem] theorem tys_sz {t} : tys.sz t = tsz t := rfl
@[go_sem] theorem tys_by {t} : tys.byt t = tby t := rfl
@[go_sem] theorem tys_ag {t} : tys.ag t = tag t := rfl
@[go_sem] theorem tys_zr {t} : tys.zr t = tzr t := rfl
@[go_sem] theorem tys_fo {t f} : tys.fo t f = tfo t f := rfl
@[go_sem] theorem tys_fz {t f} : tys.fz t f = tfz t f := rfl
@[go_sem] theorem tys_ik {t} : tys.ik t = tik t := rfl
@[go_sem] theorem tys_st {t} : tys.str t = tst t := rfl
@[go_sem] theorem tys_bo {t} : tys.boo t = tbo t := rfl
/-- The functions without a body. -/
def orcs : FuncId → Option (CallF → List SV → List (List CV) → Option Ret)
  | 93 => some (byteOrc fun s c => Lib.countByte s.data.toList c.toNat.toUInt8)
  | 100 => some (byteOrc fun s c => Lib.indexByte s.data.toList c.toNat.toUInt8)
  | _ => none
noncomputable def env : Env := ⟨tys, fns, orcs, dead, fun _ => []⟩
@[go_sem] theorem env_T : env.T = tys := rfl
@[go_sem] theorem env_dead : env.dead = dead := rfl
end Go.Proofs.YtlbigobmhglppaaDoor.R
