import Derived.Test.YtgohjdaepcmonaaProg
import Derived.Test.YtgohjdaepcmonaaAbsG
import Derived.KernelRfl
set_option linter.unusedVariables false
namespace Go.Proofs.Ytgohjdaepcmonaa
open Go.Abs
abbrev mt_82_4 : MT := ⟨82, 4, true, false⟩
abbrev mt_9_24 : MT := ⟨9, 24, false, true⟩
abbrev mt_9_4 : MT := ⟨9, 4, false, false⟩
abbrev mt_9_80 : MT := ⟨9, 80, false, true⟩
def tab : Tab := [
  ⟨2, false, [.int .i64], [], none, .int .i64, none, none⟩,
  ⟨3, false, [.int .i64], [], none, .int .i64, none, none⟩,
  ⟨4, false, [.bool], [], none, .bool, none, none⟩,
  ⟨5, false, [.int .u8], [], none, .int .u8, none, none⟩,
  ⟨6, false, [.int .u8], [], none, .int .u8, none, none⟩,
  ⟨7, true, [.int .i64, .int .i64, .bool, .int .u8], [(0, 2), (1, 3), (2, 4), (3, 6)], none, .oth, none, none⟩,
  ⟨8, true, [.int .i64, .int .i64, .bool, .int .u8], [(0, 2), (1, 3), (2, 4), (3, 6)], none, .oth, none, none⟩,
  ⟨9, false, [.str], [], none, .str, none, none⟩,
  ⟨10, false, [.str], [], none, .str, none, none⟩,
  ⟨11, false, [.str], [], none, .str, none, none⟩,
  ⟨12, false, [.int .u64], [], none, .int .u64, none, none⟩,
  ⟨13, true, [.str, .int .u64], [(0, 9), (1, 12)], none, .oth, none, none⟩,
  ⟨14, true, [.str, .int .u64], [(0, 9), (1, 12)], none, .oth, none, none⟩,
  ⟨15, false, [.oth], [], none, .oth, none, none⟩,
  ⟨16, false, [.oth], [], none, .oth, none, none⟩,
  ⟨17, false, [.oth], [], none, .oth, none, none⟩,
  ⟨18, true, [.oth], [(0, 17)], none, .oth, none, none⟩,
  ⟨19, true, [.oth], [(0, 17)], none, .oth, none, none⟩,
  ⟨21, false, [.int .i32], [], none, .int .i32, none, none⟩,
  ⟨22, false, [.sl 24], [], some 24, .sl 24, none, none⟩,
  ⟨23, true, [.str, .bool, .sl 24], [(0, 9), (1, 4), (2, 22)], none, .oth, none, none⟩,
  ⟨24, true, [.str, .bool, .sl 24], [(0, 9), (1, 4), (2, 22)], none, .oth, none, none⟩,
  ⟨25, false, [.sl 48], [], some 48, .sl 48, none, none⟩,
  ⟨26, false, [.int .i64], [], none, .int .i64, none, none⟩,
  ⟨35, false, [.sl 38], [], some 38, .sl 38, none, none⟩,
  ⟨37, true, [.str, .bool, .sl 24, .str, .bool, .sl 24], [(0, 24), (3, 24)], none, .oth, none, none⟩,
  ⟨38, true, [.str, .bool, .sl 24, .str, .bool, .sl 24], [(0, 24), (3, 24)], none, .oth, none, none⟩,
  ⟨45, false, [.sl 9], [], some 9, .sl 9, none, none⟩,
  ⟨47, true, [.str, .str, .bool, .sl 24], [(0, 9), (1, 24)], none, .oth, none, none⟩,
  ⟨48, true, [.str, .str, .bool, .sl 24], [(0, 9), (1, 24)], none, .oth, none, none⟩,
  ⟨56, false, [.oth], [], none, .oth, none, none⟩,
  ⟨57, false, [.sl 82], [], some 82, .sl 82, none, none⟩,
  ⟨58, true, [.sl 48, .sl 82], [(0, 25), (1, 57)], none, .oth, none, none⟩,
  ⟨59, true, [.sl 48, .sl 82], [(0, 25), (1, 57)], none, .oth, none, none⟩,
  ⟨69, true, [.sl 48], [(0, 25)], none, .oth, none, none⟩,
  ⟨70, true, [.sl 48], [(0, 25)], none, .oth, none, none⟩,
  ⟨73, false, [.oth], [], none, .oth, none, none⟩,
  ⟨74, false, [.mp mt_9_24], [], none, .mp mt_9_24, none, some mt_9_24⟩,
  ⟨75, false, [.mp mt_82_4], [], none, .mp mt_82_4, none, some mt_82_4⟩,
  ⟨76, true, [.mp mt_9_24, .mp mt_82_4], [(0, 74), (1, 75)], none, .oth, none, none⟩,
  ⟨77, true, [.mp mt_9_24, .mp mt_82_4], [(0, 74), (1, 75)], none, .oth, none, none⟩,
  ⟨78, false, [.mp mt_9_80], [], none, .mp mt_9_80, none, some mt_9_80⟩,
  ⟨79, true, [.int .i64, .int .i64], [(0, 3), (1, 3)], none, .oth, none, none⟩,
  ⟨80, true, [.int .i64, .int .i64], [(0, 3), (1, 3)], none, .oth, none, none⟩,
  ⟨82, true, [.str, .str], [], none, .oth, some (2, 9), none⟩,
  ⟨85, false, [.sl 3], [], some 3, .sl 3, none, none⟩,
  ⟨91, false, [.oth], [], none, .oth, none, none⟩,
  ⟨107, false, [.mp mt_9_4], [], none, .mp mt_9_4, none, some mt_9_4⟩,
  ⟨108, false, [.int .u64], [], none, .int .u64, none, none⟩,
  ⟨110, false, [.sl 5], [], some 5, .sl 5, none, none⟩,
  ⟨117, true, [.oth, .oth, .oth, .str], [(0, 17), (1, 17), (2, 17), (3, 9)], none, .oth, none, none⟩,
  ⟨118, true, [.oth, .oth, .oth, .str], [(0, 17), (1, 17), (2, 17), (3, 9)], none, .oth, none, none⟩,
  ⟨119, true, [], [], none, .oth, some (0, 16), none⟩,
  ⟨120, true, [], [(0, 119)], none, .oth, none, none⟩,
  ⟨121, true, [], [(0, 119)], none, .oth, none, none⟩,
  ⟨123, false, [.int .u32], [], none, .int .u32, none, none⟩,
  ⟨124, false, [.int .u8], [], none, .int .u8, none, none⟩,
  ⟨125, false, [.int .u8], [], none, .int .u8, none, none⟩,
  ⟨127, false, [.oth], [], none, .oth, none, none⟩,
  ⟨128, false, [.int .i32], [], none, .int .i32, none, none⟩,
  ⟨129, false, [.int .i32], [], none, .int .i32, none, none⟩,
  ⟨132, false, [.oth], [], none, .oth, none, none⟩]
theorem tab_checked : tab.all (tiOk Try.prog tab) = true := by kernel_rfl
theorem tab_ok : TabOk Try.prog tab := tabOk_of tab_checked
abbrev t_t0 : Nat := 0
abbrev t_t1 : Nat := 1
abbrev t_int64 : Nat := 2
abbrev t_int : Nat := 3
abbrev t_bool : Nat := 4
abbrev t_uint8 : Nat := 5
abbrev t_abi_BoundsErrorCode : Nat := 6
abbrev t_t7 : Nat := 7
abbrev t_runtime_boundsError : Nat := 8
abbrev t_string : Nat := 9
abbrev t_runtime_errorString : Nat := 10
abbrev t_runtime_plainError : Nat := 11
abbrev t_uintptr : Nat := 12
abbrev t_t13 : Nat := 13
abbrev t_runtime_errorAddressString : Nat := 14
abbrev t_p_runtime_TypeAssertionError : Nat := 15
abbrev t_p_runtime_PanicNilError : Nat := 16
abbrev t_p_abi_Type : Nat := 17
abbrev t_t18 : Nat := 18
abbrev t_maps_unhashableTypeError : Nat := 19
abbrev t_t20 : Nat := 20
abbrev t_int32 : Nat := 21
abbrev t_s_Term : Nat := 22
abbrev t_t23 : Nat := 23
abbrev t_Term : Nat := 24
abbrev t_s_Bind : Nat := 25
abbrev t_Errno : Nat := 26
abbrev t_t27 : Nat := 27
abbrev t_t28 : Nat := 28
abbrev t_t29 : Nat := 29
abbrev t_t30 : Nat := 30
abbrev t_t31 : Nat := 31
abbrev t_t32 : Nat := 32
abbrev t_t33 : Nat := 33
abbrev t_t34 : Nat := 34
abbrev t_s_Rule : Nat := 35
abbrev t_t36 : Nat := 36
abbrev t_t37 : Nat := 37
abbrev t_Rule : Nat := 38
abbrev t_t39 : Nat := 39
abbrev t_t40 : Nat := 40
abbrev t_t41 : Nat := 41
abbrev t_t42 : Nat := 42
abbrev t_t43 : Nat := 43
abbrev t_t44 : Nat := 44
abbrev t_s_string : Nat := 45
abbrev t_t46 : Nat := 46
abbrev t_t47 : Nat := 47
abbrev t_Bind : Nat := 48
abbrev t_t49 : Nat := 49
abbrev t_t50 : Nat := 50
abbrev t_t51 : Nat := 51
abbrev t_t52 : Nat := 52
abbrev t_t53 : Nat := 53
abbrev t_t54 : Nat := 54
abbrev t_t55 : Nat := 55
abbrev t_p_r03_solver : Nat := 56
abbrev t_s_a2_string : Nat := 57
abbrev t_t58 : Nat := 58
abbrev t_r03_solver : Nat := 59
abbrev t_t60 : Nat := 60
abbrev t_t61 : Nat := 61
abbrev t_t62 : Nat := 62
abbrev t_t63 : Nat := 63
abbrev t_t64 : Nat := 64
abbrev t_t65 : Nat := 65
abbrev t_t66 : Nat := 66
abbrev t_t67 : Nat := 67
abbrev t_t68 : Nat := 68
abbrev t_t69 : Nat := 69
abbrev t_unify_matcher : Nat := 70
abbrev t_t71 : Nat := 71
abbrev t_t72 : Nat := 72
abbrev t_p_unify_unifier : Nat := 73
abbrev t_m_string_Term : Nat := 74
abbrev t_m_a2_string_bool : Nat := 75
abbrev t_t76 : Nat := 76
abbrev t_unify_unifier : Nat := 77
abbrev t_m_string_unify_meter : Nat := 78
abbrev t_t79 : Nat := 79
abbrev t_unify_meter : Nat := 80
abbrev t_t81 : Nat := 81
abbrev t_a2_string : Nat := 82
abbrev t_t83 : Nat := 83
abbrev t_t84 : Nat := 84
abbrev t_s_int : Nat := 85
abbrev t_t86 : Nat := 86
abbrev t_t87 : Nat := 87
abbrev t_t88 : Nat := 88
abbrev t_t89 : Nat := 89
abbrev t_t90 : Nat := 90
abbrev t_p_unify_matcher : Nat := 91
abbrev t_t92 : Nat := 92
abbrev t_t93 : Nat := 93
abbrev t_t94 : Nat := 94
abbrev t_t95 : Nat := 95
abbrev t_t96 : Nat := 96
abbrev t_t97 : Nat := 97
abbrev t_t98 : Nat := 98
abbrev t_t99 : Nat := 99
abbrev t_t100 : Nat := 100
abbrev t_t101 : Nat := 101
abbrev t_t102 : Nat := 102
abbrev t_t103 : Nat := 103
abbrev t_t104 : Nat := 104
abbrev t_t105 : Nat := 105
abbrev t_t106 : Nat := 106
abbrev t_m_string_bool : Nat := 107
abbrev t_uint : Nat := 108
abbrev t_t109 : Nat := 109
abbrev t_s_uint8 : Nat := 110
abbrev t_t111 : Nat := 111
abbrev t_t112 : Nat := 112
abbrev t_t113 : Nat := 113
abbrev t_t114 : Nat := 114
abbrev t_t115 : Nat := 115
abbrev t_t116 : Nat := 116
abbrev t_t117 : Nat := 117
abbrev t_runtime_TypeAssertionError : Nat := 118
abbrev t_a0_p_runtime_PanicNilError : Nat := 119
abbrev t_t120 : Nat := 120
abbrev t_runtime_PanicNilError : Nat := 121
abbrev t_t122 : Nat := 122
abbrev t_uint32 : Nat := 123
abbrev t_abi_TFlag : Nat := 124
abbrev t_abi_Kind : Nat := 125
abbrev t_t126 : Nat := 126
abbrev t_p_uint8 : Nat := 127
abbrev t_abi_NameOff : Nat := 128
abbrev t_abi_TypeOff : Nat := 129
abbrev t_t130 : Nat := 130
abbrev t_abi_Type : Nat := 131
abbrev t_unsafe_Pointer : Nat := 132
abbrev f_main_main : Nat := 0
abbrev f_gosem_cut : Nat := 1
abbrev f_gosem_cut_init : Nat := 2
abbrev f_l03_UnifyMatches : Nat := 3
abbrev f_l03_UnifyUnifies : Nat := 4
abbrev f_l03_UnifyMatching : Nat := 5
abbrev f_l03_UnifyMostGeneral : Nat := 6
abbrev f_l03_UnifySymmetric : Nat := 7
abbrev f_unify_Match : Nat := 8
abbrev f_r01_CheckAll : Nat := 9
abbrev f_l03_is : Nat := 10
abbrev f_l03_alive : Nat := 11
abbrev f_r03_Match : Nat := 12
abbrev f_unify_Unify : Nat := 13
abbrev f_unify_UnifyAll : Nat := 14
abbrev f_r03_UnifyAll : Nat := 15
abbrev f_r01_Rules : Nat := 16
abbrev f_r01_Equal : Nat := 17
abbrev f_r01_Apply : Nat := 18
abbrev f_r01_Check : Nat := 19
abbrev f_r01_CheckSubst : Nat := 20
abbrev f_r01_Fits : Nat := 21
abbrev f_r01_Vars : Nat := 22
abbrev f_r01_Image : Nat := 23
abbrev f_r03_Variant : Nat := 24
abbrev f_term_All : Nat := 25
abbrev f_unify_Find : Nat := 26
abbrev f_term_Own : Nat := 27
abbrev f_r01_SameSubst : Nat := 28
abbrev f_l03_symbol : Nat := 29
abbrev f_l03_variable : Nat := 30
abbrev f_r03_match : Nat := 31
abbrev f_term_CheckRules : Nat := 32
abbrev f_unify_Solve : Nat := 33
abbrev f_r03_solver_solve : Nat := 34
abbrev f_r03_large : Nat := 35
abbrev f_r03_resolve : Nat := 36
abbrev f_r01_Compare : Nat := 37
abbrev f_r01_Formed : Nat := 38
abbrev f_r01_Size : Nat := 39
abbrev f_r01_Depth : Nat := 40
abbrev f_r01_IsName : Nat := 41
abbrev f_r01_CompareNames : Nat := 42
abbrev f_r01_Grown : Nat := 43
abbrev f_r01_collect : Nat := 44
abbrev f_r01_Canonical : Nat := 45
abbrev f_term_Check : Nat := 46
abbrev f_unify_matcher_match : Nat := 47
abbrev f_r03_Bound : Nat := 48
abbrev f_r03_with : Nat := 49
abbrev f_unify_unifier_solve : Nat := 50
abbrev f_unify_unifier_measure : Nat := 51
abbrev f_unify_bind : Nat := 52
abbrev f_unify_unifier_whole : Nat := 53
abbrev f_r03_solver_known : Nat := 54
abbrev f_r03_walk : Nat := 55
abbrev f_r03_solver_bind : Nat := 56
abbrev f_r03_measure : Nat := 57
abbrev f_r01_CompareInts : Nat := 58
abbrev f_r01_Marked : Nat := 59
abbrev f_r01_Letters : Nat := 60
abbrev f_r01_Insert : Nat := 61
abbrev f_r01_Renaming : Nat := 62
abbrev f_r01_First : Nat := 63
abbrev f_term_formed : Nat := 64
abbrev f_term_fits : Nat := 65
abbrev f_term_Image : Nat := 66
abbrev f_term_Equal : Nat := 67
abbrev f_unify_unifier_head : Nat := 68
abbrev f_unify_unifier_set : Nat := 69
abbrev f_slices_BinarySearchFunc_Bind_string : Nat := 70
abbrev f_unify_bind_1 : Nat := 71
abbrev f_strings_Compare : Nat := 72
abbrev f_slices_Insert_Bind : Nat := 73
abbrev f_r01_Has : Nat := 74
abbrev f_r03_reach : Nat := 75
abbrev f_r01_letter : Nat := 76
abbrev f_r01_sorted : Nat := 77
abbrev f_r01_Digits : Nat := 78
abbrev f_term_IsName : Nat := 79
abbrev f_slices_ContainsFunc_Term : Nat := 80
abbrev f_term_formed_1 : Nat := 81
abbrev f_term_Size : Nat := 82
abbrev f_term_Depth : Nat := 83
abbrev f_term_Image_1 : Nat := 84
abbrev f_slices_EqualFunc_Term_Term : Nat := 85
abbrev f_unify_unifier_occurs : Nat := 86
abbrev f_bytealg_CompareString : Nat := 87
abbrev f_slices_overlaps_Bind : Nat := 88
abbrev f_slices_rotateRight_Bind : Nat := 89
abbrev f_strings_TrimSuffix : Nat := 90
abbrev f_slices_ContainsFunc_byte : Nat := 91
abbrev f_term_IsName_1 : Nat := 92
abbrev f_term_inName : Nat := 93
abbrev f_slices_IndexFunc_Term : Nat := 94
abbrev f_unify_unifier_occurs_1 : Nat := 95
abbrev f_bytealg_abigen_runtime_cmpstring : Nat := 96
abbrev f_slices_rotateLeft_Bind : Nat := 97
abbrev f_stringslite_TrimSuffix : Nat := 98
abbrev f_slices_IndexFunc_byte : Nat := 99
abbrev f_slices_Reverse_Bind : Nat := 100
abbrev f_stringslite_HasSuffix : Nat := 101
abbrev f_runtime_boundsError_Error : Nat := 102
abbrev f_runtime_boundsError_RuntimeError : Nat := 103
abbrev f_runtime_errorString_Error : Nat := 104
abbrev f_runtime_errorString_RuntimeError : Nat := 105
abbrev f_runtime_plainError_Error : Nat := 106
abbrev f_runtime_plainError_RuntimeError : Nat := 107
abbrev f_runtime_errorAddressString_Error : Nat := 108
abbrev f_runtime_errorAddressString_RuntimeError : Nat := 109
abbrev f_runtime_TypeAssertionError_Error : Nat := 110
abbrev f_runtime_TypeAssertionError_RuntimeError : Nat := 111
abbrev f_runtime_PanicNilError_Error : Nat := 112
abbrev f_runtime_PanicNilError_RuntimeError : Nat := 113
abbrev f_abi_Type_Align : Nat := 114
abbrev f_maps_unhashableTypeError_Error : Nat := 115
abbrev f_maps_unhashableTypeError_RuntimeError : Nat := 116
abbrev f_abi_Kind_String : Nat := 117
def rsL : List RS := [
  .tup [],
  .tup [],
  .tup [],
  .one (.v .bool),
  .one (.v .bool),
  .one (.v .bool),
  .one (.v .bool),
  .one (.v .bool),
  .tup [.one (.v (.sl t_Bind)), .one (.v .bool), .one (.v (.int .i64))],
  .one (.v (.int .i64)),
  .one (.v .bool),
  .one (.v .bool),
  .tup [.one (.v (.sl t_Bind)), .one (.v .bool)],
  .tup [.one (.v (.sl t_Bind)), .one (.v .bool), .one (.v (.int .i64))],
  .tup [.one (.v (.sl t_Bind)), .one (.v .bool), .one (.v (.int .i64))],
  .tup [.one (.v (.sl t_Bind)), .one (.v .bool), .one (.v (.int .i64))],
  .one (.v (.int .i64)),
  .one (.v .bool),
  .agg [.v .str, .v .bool, .v (.sl t_Term)],
  .one (.v (.int .i64)),
  .one (.v (.int .i64)),
  .one (.v .bool),
  .one (.v (.sl t_string)),
  .agg [.v .str, .v .bool, .v (.sl t_Term)],
  .one (.v .bool),
  .one (.v (.int .i64)),
  .tup [.one (.v (.sl t_Bind)), .one (.v .bool)],
  .agg [.v .str, .v .bool, .v (.sl t_Term)],
  .one (.v .bool),
  .agg [.v .str, .v .bool, .v (.sl t_Term)],
  .agg [.v .str, .v .bool, .v (.sl t_Term)],
  .tup [.one (.v (.sl t_Bind)), .one (.v .bool)],
  .one (.v (.int .i64)),
  .tup [.one (.v (.sl t_Bind)), .one (.v .bool), .one (.v (.int .i64))],
  .one (.v .bool),
  .one (.v .bool),
  .agg [.v .str, .v .bool, .v (.sl t_Term)],
  .one (.v (.int .i64)),
  .one (.v .bool),
  .one (.v (.int .i64)),
  .one (.v (.int .i64)),
  .one (.v .bool),
  .one (.v (.int .i64)),
  .tup [.one (.v (.int .i64)), .one (.v (.int .i64))],
  .one (.v (.sl t_string)),
  .agg [.v .str, .v .bool, .v (.sl t_Term)],
  .one (.v (.int .i64)),
  .one (.v .bool),
  .one (.v .bool),
  .one (.v (.sl t_Bind)),
  .one (.v .bool),
  .agg [.v (.int .i64), .v (.int .i64)],
  .one (.same 0 (.sl t_Bind)),
  .agg [.v .str, .v .bool, .v (.sl t_Term)],
  .one (.v .bool),
  .agg [.v .str, .v .bool, .v (.sl t_Term)],
  .one (.v .bool),
  .tup [.one (.v (.int .i64)), .one (.v (.int .i64))],
  .one (.v (.int .i64)),
  .one (.v .bool),
  .one (.v .bool),
  .one (.v (.sl t_string)),
  .one (.v (.sl t_Bind)),
  .one (.v (.sl t_string)),
  .one (.v .bool),
  .one (.v .bool),
  .tup [.agg [.v .str, .v .bool, .v (.sl t_Term)], .one (.v .bool)],
  .one (.v .bool),
  .agg [.v .str, .v .bool, .v (.sl t_Term)],
  .one (.v .bool),
  .tup [.one (.v (.int .i64)), .one (.v .bool)],
  .one (.v (.int .i64)),
  .one (.v (.int .i64)),
  .one (.same 0 (.sl t_Bind)),
  .one (.v .bool),
  .one (.same 2 (.sl t_string)),
  .one (.v .bool),
  .one (.v (.sl t_string)),
  .one (.v .str),
  .one (.v .bool),
  .one (.v .bool),
  .one (.v .bool),
  .one (.v (.int .i64)),
  .one (.v (.int .i64)),
  .one (.v (.int .i64)),
  .one (.v .bool),
  .one (.v .bool),
  .one (.v (.int .i64)),
  .one (.v .bool),
  .tup [],
  .one (.v .str),
  .one (.v .bool),
  .one (.v .bool),
  .one (.v .bool),
  .one (.v (.int .i64)),
  .one (.v .bool),
  .one (.v (.int .i64)),
  .tup [],
  .one (.v .str),
  .one (.v (.int .i64)),
  .tup [],
  .one (.v .bool),
  .one (.v .str),
  .tup [],
  .one (.v .str),
  .tup [],
  .one (.v .str),
  .tup [],
  .one (.v .str),
  .tup [],
  .one (.v .str),
  .tup [],
  .one (.v .str),
  .tup [],
  .one (.v (.int .i64)),
  .one (.v .str),
  .tup [],
  .one (.v .str)]
def rsT (f : FuncId) (_ : List D) : RS := rsL.getD f (.tup [])
def nilsL : List (List (Option Nat)) := [
  [],
  [],
  [],
  [none, none],
  [none, none, some 38],
  [none, none, some 48],
  [none, none, some 48],
  [none, none],
  [none, none],
  [some 24],
  [some 48, none, none, some 48, none, none],
  [],
  [none, none],
  [none, none],
  [some 38],
  [some 38],
  [some 38],
  [none, none],
  [some 48, none],
  [none],
  [some 48],
  [some 48, none],
  [some 24],
  [some 48, none],
  [none, none],
  [some 24],
  [none, none],
  [none],
  [some 48, some 48],
  [none, some 24],
  [none],
  [some 48, none, none],
  [some 38],
  [some 38],
  [none, none, none],
  [some 48],
  [some 48, none],
  [none, none],
  [none],
  [none],
  [none],
  [none, none],
  [none, none],
  [some 48, none],
  [none, some 9],
  [none],
  [none],
  [none, none, none],
  [some 48, none],
  [some 48, none, none],
  [none, none, none],
  [none, none, none],
  [none, none, none],
  [none, none],
  [none, none, none],
  [some 48, none],
  [none, none, none],
  [some 48, some 3, some 3, none],
  [none, none],
  [none],
  [none],
  [some 9, none],
  [some 9, none],
  [none, some 9],
  [none],
  [none],
  [some 48, none],
  [none, none],
  [none, none],
  [none, none, none],
  [some 48, none, none],
  [none, none],
  [none, none],
  [none, none, some 48],
  [some 9, none],
  [some 48, none, none],
  [none],
  [some 9],
  [none],
  [none, none],
  [some 24, none],
  [none],
  [none],
  [none],
  [none, none],
  [some 24, some 24, none],
  [none, none, none, none],
  [none, none],
  [some 48, some 48],
  [some 48, none],
  [none, none],
  [some 5, none],
  [none],
  [none],
  [some 24, none],
  [none],
  [none, none],
  [some 48, none],
  [none, none],
  [some 5, none],
  [some 48],
  [none, none],
  [none],
  [none],
  [none],
  [none],
  [none],
  [none],
  [none],
  [none],
  [none],
  [none],
  [none],
  [none],
  [none],
  [none],
  [none],
  [none]]
def nilsT (f : FuncId) : List (Option Nat) := nilsL.getD f []
def ownsT (f : FuncId) : Option (Nat × TypeId) := match f with | 52 => some (0, 48) | 73 => some (0, 48) | 75 => some (2, 9) | _ => none
def extT (f : FuncId) : Bool := Nat.beq f 96
def entT (f : FuncId) : Bool := Nat.blt f 118 && !([0, 1, 88, 96, 102, 103, 104, 105, 106, 107, 108, 109, 110, 111, 112, 113, 114, 115, 116, 117].any (Nat.beq f))
abbrev cl : FuncId → List D → Heap → (D → Heap → Prop) → Prop := ACalls Try.prog (lfs tab)
def envA (l : List (Nat × List Adj)) (c : CutT) (r : List Nat) (z : List (Nat × List Frz)) (y : List Nat) : Env := { T := tab, rs := rsT, ext := extT, ent := entT, call := cl, owns := ownsT, nils := nilsT, frz := frzLook z, lit := inL r, join := inL y, cut := cutLook c, flt := fltLook c, late := lateLook c, adj := adjLook l }
theorem ents : (List.range 118).all (fun f => !entT f || entOk Try.prog f) = true := by kernel_rfl
theorem envOk (l : List (Nat × List Adj)) (c : CutT) (r : List Nat) (z : List (Nat × List Frz)) (y : List Nat) : EnvOk Try.prog (envA l c r z y) := ⟨tab_ok, fun f hf args w => by
  have hf' : entT f = true := hf
  have hlt : f < 118 := by
    have := ((Bool.and_eq_true _ _).mp hf').1
    exact Nat.le_of_ble_eq_true this
  have h := List.all_eq_true.1 ents f (List.mem_range.2 hlt)
  rw [hf'] at h
  exact ent_of (by simpa using h) args w, fun _ _ _ _ h => h, fun _ _ _ _ _ h k => k.mono h, by kernel_rfl, fun f hf a b w => by
  have hf2 : f = 96 := Nat.eq_of_beq_eq_true hf
  subst hf2
  rw [run_callFunc_extern Try.func96 (by kernel_rfl) (by kernel_rfl) (by kernel_rfl) (e := Extern.BytealgCompare.compare) (by kernel_rfl), Lib.run_compareString]; rfl⟩
end Go.Proofs.Ytgohjdaepcmonaa