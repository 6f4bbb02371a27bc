/-
  Texts T, KitA, V0 of this proof, joined.
-/
import Derived.Test.YtgohjdaepcmonaaProg
import Derived.KernelRfl
import Derived.IntWalk
import Derived.Test.YtgohjdaepcmonaaP6
set_option linter.unusedVariables false
namespace Go.Proofs.Ytgohjdaepcmonaa
open Go.Abs
abbrev mt_82_4 : MT := ⟨82, 4, true, false⟩
abbrev mt_9_24 : MT := ⟨9, 24, false, true⟩
abbrev mt_9_4 : MT := ⟨9, 4, false, false⟩
abbrev mt_9_80 : MT := ⟨9, 80, false, true⟩
def tab : Tab := [
  ⟨2, false, [.int .i64], [], none, .int .i64, none, none⟩,
  ⟨3, false, [.int .i64], [], none, .int .i64, none, none⟩,
  ⟨4, false, [.bool], [], none, .bool, none, none⟩,
  ⟨5, false, [.int .u8], [], none, .int .u8, none, none⟩,
  ⟨6, false, [.int .u8], [], none, .int .u8, none, none⟩,
  ⟨7, true, [.int .i64, .int .i64, .bool, .int .u8], [(0, 2), (1, 3), (2, 4), (3, 6)], none, .oth, none, none⟩,
  ⟨8, true, [.int .i64, .int .i64, .bool, .int .u8], [(0, 2), (1, 3), (2, 4), (3, 6)], none, .oth, none, none⟩,
  ⟨9, false, [.str], [], none, .str, none, none⟩,
  ⟨10, false, [.str], [], none, .str, none, none⟩,
  ⟨11, false, [.str], [], none, .str, none, none⟩,
  ⟨12, false, [.int .u64], [], none, .int .u64, none, none⟩,
  ⟨13, true, [.str, .int .u64], [(0, 9), (1, 12)], none, .oth, none, none⟩,
  ⟨14, true, [.str, .int .u64], [(0, 9), (1, 12)], none, .oth, none, none⟩,
  ⟨15, false, [.oth], [], none, .oth, none, none⟩,
  ⟨16, false, [.oth], [], none, .oth, none, none⟩,
  ⟨17, false, [.oth], [], none, .oth, none, none⟩,
  ⟨18, true, [.oth], [(0, 17)], none, .oth, none, none⟩,
  ⟨19, true, [.oth], [(0, 17)], none, .oth, none, none⟩,
  ⟨21, false, [.int .i32], [], none, .int .i32, none, none⟩,
  ⟨22, false, [.sl 24], [], some 24, .sl 24, none, none⟩,
  ⟨23, true, [.str, .bool, .sl 24], [(0, 9), (1, 4), (2, 22)], none, .oth, none, none⟩,
  ⟨24, true, [.str, .bool, .sl 24], [(0, 9), (1, 4), (2, 22)], none, .oth, none, none⟩,
  ⟨25, false, [.sl 48], [], some 48, .sl 48, none, none⟩,
  ⟨26, false, [.int .i64], [], none, .int .i64, none, none⟩,
  ⟨35, false, [.sl 38], [], some 38, .sl 38, none, none⟩,
  ⟨37, true, [.str, .bool, .sl 24, .str, .bool, .sl 24], [(0, 24), (3, 24)], none, .oth, none, none⟩,
  ⟨38, true, [.str, .bool, .sl 24, .str, .bool, .sl 24], [(0, 24), (3, 24)], none, .oth, none, none⟩,
  ⟨45, false, [.sl 9], [], some 9, .sl 9, none, none⟩,
  ⟨47, true, [.str, .str, .bool, .sl 24], [(0, 9), (1, 24)], none, .oth, none, none⟩,
  ⟨48, true, [.str, .str, .bool, .sl 24], [(0, 9), (1, 24)], none, .oth, none, none⟩,
  ⟨56, false, [.oth], [], none, .oth, none, none⟩,
  ⟨57, false, [.sl 82], [], some 82, .sl 82, none, none⟩,
  ⟨58, true, [.sl 48, .sl 82], [(0, 25), (1, 57)], none, .oth, none, none⟩,
  ⟨59, true, [.sl 48, .sl 82], [(0, 25), (1, 57)], none, .oth, none, none⟩,
  ⟨69, true, [.sl 48], [(0, 25)], none, .oth, none, none⟩,
  ⟨70, true, [.sl 48], [(0, 25)], none, .oth, none, none⟩,
  ⟨73, false, [.oth], [], none, .oth, none, none⟩,
  ⟨74, false, [.mp mt_9_24], [], none, .mp mt_9_24, none, some mt_9_24⟩,
  ⟨75, false, [.mp mt_82_4], [], none, .mp mt_82_4, none, some mt_82_4⟩,
  ⟨76, true, [.mp mt_9_24, .mp mt_82_4], [(0, 74), (1, 75)], none, .oth, none, none⟩,
  ⟨77, true, [.mp mt_9_24, .mp mt_82_4], [(0, 74), (1, 75)], none, .oth, none, none⟩,
  ⟨78, false, [.mp mt_9_80], [], none, .mp mt_9_80, none, some mt_9_80⟩,
  ⟨79, true, [.int .i64, .int .i64], [(0, 3), (1, 3)], none, .oth, none, none⟩,
  ⟨80, true, [.int .i64, .int .i64], [(0, 3), (1, 3)], none, .oth, none, none⟩,
  ⟨82, true, [.str, .str], [], none, .oth, some (2, 9), none⟩,
  ⟨85, false, [.sl 3], [], some 3, .sl 3, none, none⟩,
  ⟨91, false, [.oth], [], none, .oth, none, none⟩,
  ⟨107, false, [.mp mt_9_4], [], none, .mp mt_9_4, none, some mt_9_4⟩,
  ⟨108, false, [.int .u64], [], none, .int .u64, none, none⟩,
  ⟨110, false, [.sl 5], [], some 5, .sl 5, none, none⟩,
  ⟨117, true, [.oth, .oth, .oth, .str], [(0, 17), (1, 17), (2, 17), (3, 9)], none, .oth, none, none⟩,
  ⟨118, true, [.oth, .oth, .oth, .str], [(0, 17), (1, 17), (2, 17), (3, 9)], none, .oth, none, none⟩,
  ⟨119, true, [], [], none, .oth, some (0, 16), none⟩,
  ⟨120, true, [], [(0, 119)], none, .oth, none, none⟩,
  ⟨121, true, [], [(0, 119)], none, .oth, none, none⟩,
  ⟨123, false, [.int .u32], [], none, .int .u32, none, none⟩,
  ⟨124, false, [.int .u8], [], none, .int .u8, none, none⟩,
  ⟨125, false, [.int .u8], [], none, .int .u8, none, none⟩,
  ⟨127, false, [.oth], [], none, .oth, none, none⟩,
  ⟨128, false, [.int .i32], [], none, .int .i32, none, none⟩,
  ⟨129, false, [.int .i32], [], none, .int .i32, none, none⟩,
  ⟨132, false, [.oth], [], none, .oth, none, none⟩]
theorem tab_checked : tab.all (tiOk Try.prog tab) = true := by kernel_rfl
theorem tab_ok : TabOk Try.prog tab := tabOk_of tab_checked
abbrev t_t0 : Nat := 0
abbrev t_t1 : Nat := 1
abbrev t_int64 : Nat := 2
abbrev t_int : Nat := 3
abbrev t_bool : Nat := 4
abbrev t_uint8 : Nat := 5
abbrev t_abi_BoundsErrorCode : Nat := 6
abbrev t_t7 : Nat := 7
abbrev t_runtime_boundsError : Nat := 8
abbrev t_string : Nat := 9
abbrev t_runtime_errorString : Nat := 10
abbrev t_runtime_plainError : Nat := 11
abbrev t_uintptr : Nat := 12
abbrev t_t13 : Nat := 13
abbrev t_runtime_errorAddressString : Nat := 14
abbrev t_p_runtime_TypeAssertionError : Nat := 15
abbrev t_p_runtime_PanicNilError : Nat := 16
abbrev t_p_abi_Type : Nat := 17
abbrev t_t18 : Nat := 18
abbrev t_maps_unhashableTypeError : Nat := 19
abbrev t_t20 : Nat := 20
abbrev t_int32 : Nat := 21
abbrev t_s_Term : Nat := 22
abbrev t_t23 : Nat := 23
abbrev t_Term : Nat := 24
abbrev t_s_Bind : Nat := 25
abbrev t_Errno : Nat := 26
abbrev t_t27 : Nat := 27
abbrev t_t28 : Nat := 28
abbrev t_t29 : Nat := 29
abbrev t_t30 : Nat := 30
abbrev t_t31 : Nat := 31
abbrev t_t32 : Nat := 32
abbrev t_t33 : Nat := 33
abbrev t_t34 : Nat := 34
abbrev t_s_Rule : Nat := 35
abbrev t_t36 : Nat := 36
abbrev t_t37 : Nat := 37
abbrev t_Rule : Nat := 38
abbrev t_t39 : Nat := 39
abbrev t_t40 : Nat := 40
abbrev t_t41 : Nat := 41
abbrev t_t42 : Nat := 42
abbrev t_t43 : Nat := 43
abbrev t_t44 : Nat := 44
abbrev t_s_string : Nat := 45
abbrev t_t46 : Nat := 46
abbrev t_t47 : Nat := 47
abbrev t_Bind : Nat := 48
abbrev t_t49 : Nat := 49
abbrev t_t50 : Nat := 50
abbrev t_t51 : Nat := 51
abbrev t_t52 : Nat := 52
abbrev t_t53 : Nat := 53
abbrev t_t54 : Nat := 54
abbrev t_t55 : Nat := 55
abbrev t_p_r03_solver : Nat := 56
abbrev t_s_a2_string : Nat := 57
abbrev t_t58 : Nat := 58
abbrev t_r03_solver : Nat := 59
abbrev t_t60 : Nat := 60
abbrev t_t61 : Nat := 61
abbrev t_t62 : Nat := 62
abbrev t_t63 : Nat := 63
abbrev t_t64 : Nat := 64
abbrev t_t65 : Nat := 65
abbrev t_t66 : Nat := 66
abbrev t_t67 : Nat := 67
abbrev t_t68 : Nat := 68
abbrev t_t69 : Nat := 69
abbrev t_unify_matcher : Nat := 70
abbrev t_t71 : Nat := 71
abbrev t_t72 : Nat := 72
abbrev t_p_unify_unifier : Nat := 73
abbrev t_m_string_Term : Nat := 74
abbrev t_m_a2_string_bool : Nat := 75
abbrev t_t76 : Nat := 76
abbrev t_unify_unifier : Nat := 77
abbrev t_m_string_unify_meter : Nat := 78
abbrev t_t79 : Nat := 79
abbrev t_unify_meter : Nat := 80
abbrev t_t81 : Nat := 81
abbrev t_a2_string : Nat := 82
abbrev t_t83 : Nat := 83
abbrev t_t84 : Nat := 84
abbrev t_s_int : Nat := 85
abbrev t_t86 : Nat := 86
abbrev t_t87 : Nat := 87
abbrev t_t88 : Nat := 88
abbrev t_t89 : Nat := 89
abbrev t_t90 : Nat := 90
abbrev t_p_unify_matcher : Nat := 91
abbrev t_t92 : Nat := 92
abbrev t_t93 : Nat := 93
abbrev t_t94 : Nat := 94
abbrev t_t95 : Nat := 95
abbrev t_t96 : Nat := 96
abbrev t_t97 : Nat := 97
abbrev t_t98 : Nat := 98
abbrev t_t99 : Nat := 99
abbrev t_t100 : Nat := 100
abbrev t_t101 : Nat := 101
abbrev t_t102 : Nat := 102
abbrev t_t103 : Nat := 103
abbrev t_t104 : Nat := 104
abbrev t_t105 : Nat := 105
abbrev t_t106 : Nat := 106
abbrev t_m_string_bool : Nat := 107
abbrev t_uint : Nat := 108
abbrev t_t109 : Nat := 109
abbrev t_s_uint8 : Nat := 110
abbrev t_t111 : Nat := 111
abbrev t_t112 : Nat := 112
abbrev t_t113 : Nat := 113
abbrev t_t114 : Nat := 114
abbrev t_t115 : Nat := 115
abbrev t_t116 : Nat := 116
abbrev t_t117 : Nat := 117
abbrev t_runtime_TypeAssertionError : Nat := 118
abbrev t_a0_p_runtime_PanicNilError : Nat := 119
abbrev t_t120 : Nat := 120
abbrev t_runtime_PanicNilError : Nat := 121
abbrev t_t122 : Nat := 122
abbrev t_uint32 : Nat := 123
abbrev t_abi_TFlag : Nat := 124
abbrev t_abi_Kind : Nat := 125
abbrev t_t126 : Nat := 126
abbrev t_p_uint8 : Nat := 127
abbrev t_abi_NameOff : Nat := 128
abbrev t_abi_TypeOff : Nat := 129
abbrev t_t130 : Nat := 130
abbrev t_abi_Type : Nat := 131
abbrev t_unsafe_Pointer : Nat := 132
abbrev f_main_main : Nat := 0
abbrev f_gosem_cut : Nat := 1
abbrev f_gosem_cut_init : Nat := 2
abbrev f_l03_UnifyMatches : Nat := 3
abbrev f_l03_UnifyUnifies : Nat := 4
abbrev f_l03_UnifyMatching : Nat := 5
abbrev f_l03_UnifyMostGeneral : Nat := 6
abbrev f_l03_UnifySymmetric : Nat := 7
abbrev f_unify_Match : Nat := 8
abbrev f_r01_CheckAll : Nat := 9
abbrev f_l03_is : Nat := 10
abbrev f_l03_alive : Nat := 11
abbrev f_r03_Match : Nat := 12
abbrev f_unify_Unify : Nat := 13
abbrev f_unify_UnifyAll : Nat := 14
abbrev f_r03_UnifyAll : Nat := 15
abbrev f_r01_Rules : Nat := 16
abbrev f_r01_Equal : Nat := 17
abbrev f_r01_Apply : Nat := 18
abbrev f_r01_Check : Nat := 19
abbrev f_r01_CheckSubst : Nat := 20
abbrev f_r01_Fits : Nat := 21
abbrev f_r01_Vars : Nat := 22
abbrev f_r01_Image : Nat := 23
abbrev f_r03_Variant : Nat := 24
abbrev f_term_All : Nat := 25
abbrev f_unify_Find : Nat := 26
abbrev f_term_Own : Nat := 27
abbrev f_r01_SameSubst : Nat := 28
abbrev f_l03_symbol : Nat := 29
abbrev f_l03_variable : Nat := 30
abbrev f_r03_match : Nat := 31
abbrev f_term_CheckRules : Nat := 32
abbrev f_unify_Solve : Nat := 33
abbrev f_r03_solver_solve : Nat := 34
abbrev f_r03_large : Nat := 35
abbrev f_r03_resolve : Nat := 36
abbrev f_r01_Compare : Nat := 37
abbrev f_r01_Formed : Nat := 38
abbrev f_r01_Size : Nat := 39
abbrev f_r01_Depth : Nat := 40
abbrev f_r01_IsName : Nat := 41
abbrev f_r01_CompareNames : Nat := 42
abbrev f_r01_Grown : Nat := 43
abbrev f_r01_collect : Nat := 44
abbrev f_r01_Canonical : Nat := 45
abbrev f_term_Check : Nat := 46
abbrev f_unify_matcher_match : Nat := 47
abbrev f_r03_Bound : Nat := 48
abbrev f_r03_with : Nat := 49
abbrev f_unify_unifier_solve : Nat := 50
abbrev f_unify_unifier_measure : Nat := 51
abbrev f_unify_bind : Nat := 52
abbrev f_unify_unifier_whole : Nat := 53
abbrev f_r03_solver_known : Nat := 54
abbrev f_r03_walk : Nat := 55
abbrev f_r03_solver_bind : Nat := 56
abbrev f_r03_measure : Nat := 57
abbrev f_r01_CompareInts : Nat := 58
abbrev f_r01_Marked : Nat := 59
abbrev f_r01_Letters : Nat := 60
abbrev f_r01_Insert : Nat := 61
abbrev f_r01_Renaming : Nat := 62
abbrev f_r01_First : Nat := 63
abbrev f_term_formed : Nat := 64
abbrev f_term_fits : Nat := 65
abbrev f_term_Image : Nat := 66
abbrev f_term_Equal : Nat := 67
abbrev f_unify_unifier_head : Nat := 68
abbrev f_unify_unifier_set : Nat := 69
abbrev f_slices_BinarySearchFunc_Bind_string : Nat := 70
abbrev f_unify_bind_1 : Nat := 71
abbrev f_strings_Compare : Nat := 72
abbrev f_slices_Insert_Bind : Nat := 73
abbrev f_r01_Has : Nat := 74
abbrev f_r03_reach : Nat := 75
abbrev f_r01_letter : Nat := 76
abbrev f_r01_sorted : Nat := 77
abbrev f_r01_Digits : Nat := 78
abbrev f_term_IsName : Nat := 79
abbrev f_slices_ContainsFunc_Term : Nat := 80
abbrev f_term_formed_1 : Nat := 81
abbrev f_term_Size : Nat := 82
abbrev f_term_Depth : Nat := 83
abbrev f_term_Image_1 : Nat := 84
abbrev f_slices_EqualFunc_Term_Term : Nat := 85
abbrev f_unify_unifier_occurs : Nat := 86
abbrev f_bytealg_CompareString : Nat := 87
abbrev f_slices_overlaps_Bind : Nat := 88
abbrev f_slices_rotateRight_Bind : Nat := 89
abbrev f_strings_TrimSuffix : Nat := 90
abbrev f_slices_ContainsFunc_byte : Nat := 91
abbrev f_term_IsName_1 : Nat := 92
abbrev f_term_inName : Nat := 93
abbrev f_slices_IndexFunc_Term : Nat := 94
abbrev f_unify_unifier_occurs_1 : Nat := 95
abbrev f_bytealg_abigen_runtime_cmpstring : Nat := 96
abbrev f_slices_rotateLeft_Bind : Nat := 97
abbrev f_stringslite_TrimSuffix : Nat := 98
abbrev f_slices_IndexFunc_byte : Nat := 99
abbrev f_slices_Reverse_Bind : Nat := 100
abbrev f_stringslite_HasSuffix : Nat := 101
abbrev f_runtime_boundsError_Error : Nat := 102
abbrev f_runtime_boundsError_RuntimeError : Nat := 103
abbrev f_runtime_errorString_Error : Nat := 104
abbrev f_runtime_errorString_RuntimeError : Nat := 105
abbrev f_runtime_plainError_Error : Nat := 106
abbrev f_runtime_plainError_RuntimeError : Nat := 107
abbrev f_runtime_errorAddressString_Error : Nat := 108
abbrev f_runtime_errorAddressString_RuntimeError : Nat := 109
abbrev f_runtime_TypeAssertionError_Error : Nat := 110
abbrev f_runtime_TypeAssertionError_RuntimeError : Nat := 111
abbrev f_runtime_PanicNilError_Error : Nat := 112
abbrev f_runtime_PanicNilError_RuntimeError : Nat := 113
abbrev f_abi_Type_Align : Nat := 114
abbrev f_maps_unhashableTypeError_Error : Nat := 115
abbrev f_maps_unhashableTypeError_RuntimeError : Nat := 116
abbrev f_abi_Kind_String : Nat := 117
def rsL : List RS := [
  .tup [],
  .tup [],
  .tup [],
  .one (.v .bool),
  .one (.v .bool),
  .one (.v .bool),
  .one (.v .bool),
  .one (.v .bool),
  .tup [.one (.v (.sl t_Bind)), .one (.v .bool), .one (.v (.int .i64))],
  .one (.v (.int .i64)),
  .one (.v .bool),
  .one (.v .bool),
  .tup [.one (.v (.sl t_Bind)), .one (.v .bool)],
  .tup [.one (.v (.sl t_Bind)), .one (.v .bool), .one (.v (.int .i64))],
  .tup [.one (.v (.sl t_Bind)), .one (.v .bool), .one (.v (.int .i64))],
  .tup [.one (.v (.sl t_Bind)), .one (.v .bool), .one (.v (.int .i64))],
  .one (.v (.int .i64)),
  .one (.v .bool),
  .agg [.v .str, .v .bool, .v (.sl t_Term)],
  .one (.v (.int .i64)),
  .one (.v (.int .i64)),
  .one (.v .bool),
  .one (.v (.sl t_string)),
  .agg [.v .str, .v .bool, .v (.sl t_Term)],
  .one (.v .bool),
  .one (.v (.int .i64)),
  .tup [.one (.v (.sl t_Bind)), .one (.v .bool)],
  .agg [.v .str, .v .bool, .v (.sl t_Term)],
  .one (.v .bool),
  .agg [.v .str, .v .bool, .v (.sl t_Term)],
  .agg [.v .str, .v .bool, .v (.sl t_Term)],
  .tup [.one (.v (.sl t_Bind)), .one (.v .bool)],
  .one (.v (.int .i64)),
  .tup [.one (.v (.sl t_Bind)), .one (.v .bool), .one (.v (.int .i64))],
  .one (.v .bool),
  .one (.v .bool),
  .agg [.v .str, .v .bool, .v (.sl t_Term)],
  .one (.v (.int .i64)),
  .one (.v .bool),
  .one (.v (.int .i64)),
  .one (.v (.int .i64)),
  .one (.v .bool),
  .one (.v (.int .i64)),
  .tup [.one (.v (.int .i64)), .one (.v (.int .i64))],
  .one (.v (.sl t_string)),
  .agg [.v .str, .v .bool, .v (.sl t_Term)],
  .one (.v (.int .i64)),
  .one (.v .bool),
  .one (.v .bool),
  .one (.v (.sl t_Bind)),
  .one (.v .bool),
  .agg [.v (.int .i64), .v (.int .i64)],
  .one (.same 0 (.sl t_Bind)),
  .agg [.v .str, .v .bool, .v (.sl t_Term)],
  .one (.v .bool),
  .agg [.v .str, .v .bool, .v (.sl t_Term)],
  .one (.v .bool),
  .tup [.one (.v (.int .i64)), .one (.v (.int .i64))],
  .one (.v (.int .i64)),
  .one (.v .bool),
  .one (.v .bool),
  .one (.v (.sl t_string)),
  .one (.v (.sl t_Bind)),
  .one (.v (.sl t_string)),
  .one (.v .bool),
  .one (.v .bool),
  .tup [.agg [.v .str, .v .bool, .v (.sl t_Term)], .one (.v .bool)],
  .one (.v .bool),
  .agg [.v .str, .v .bool, .v (.sl t_Term)],
  .one (.v .bool),
  .tup [.one (.v (.int .i64)), .one (.v .bool)],
  .one (.v (.int .i64)),
  .one (.v (.int .i64)),
  .one (.same 0 (.sl t_Bind)),
  .one (.v .bool),
  .one (.same 2 (.sl t_string)),
  .one (.v .bool),
  .one (.v (.sl t_string)),
  .one (.v .str),
  .one (.v .bool),
  .one (.v .bool),
  .one (.v .bool),
  .one (.v (.int .i64)),
  .one (.v (.int .i64)),
  .one (.v (.int .i64)),
  .one (.v .bool),
  .one (.v .bool),
  .one (.v (.int .i64)),
  .one (.v .bool),
  .tup [],
  .one (.v .str),
  .one (.v .bool),
  .one (.v .bool),
  .one (.v .bool),
  .one (.v (.int .i64)),
  .one (.v .bool),
  .one (.v (.int .i64)),
  .tup [],
  .one (.v .str),
  .one (.v (.int .i64)),
  .tup [],
  .one (.v .bool),
  .one (.v .str),
  .tup [],
  .one (.v .str),
  .tup [],
  .one (.v .str),
  .tup [],
  .one (.v .str),
  .tup [],
  .one (.v .str),
  .tup [],
  .one (.v .str),
  .tup [],
  .one (.v (.int .i64)),
  .one (.v .str),
  .tup [],
  .one (.v .str)]
def rsT (f : FuncId) (_ : List D) : RS := rsL.getD f (.tup [])
def nilsL : List (List (Option Nat)) := [
  [],
  [],
  [],
  [none, none],
  [none, none, some 38],
  [none, none, some 48],
  [none, none, some 48],
  [none, none],
  [none, none],
  [some 24],
  [some 48, none, none, some 48, none, none],
  [],
  [none, none],
  [none, none],
  [some 38],
  [some 38],
  [some 38],
  [none, none],
  [some 48, none],
  [none],
  [some 48],
  [some 48, none],
  [some 24],
  [some 48, none],
  [none, none],
  [some 24],
  [none, none],
  [none],
  [some 48, some 48],
  [none, some 24],
  [none],
  [some 48, none, none],
  [some 38],
  [some 38],
  [none, none, none],
  [some 48],
  [some 48, none],
  [none, none],
  [none],
  [none],
  [none],
  [none, none],
  [none, none],
  [some 48, none],
  [none, some 9],
  [none],
  [none],
  [none, none, none],
  [some 48, none],
  [some 48, none, none],
  [none, none, none],
  [none, none, none],
  [none, none, none],
  [none, none],
  [none, none, none],
  [some 48, none],
  [none, none, none],
  [some 48, some 3, some 3, none],
  [none, none],
  [none],
  [none],
  [some 9, none],
  [some 9, none],
  [none, some 9],
  [none],
  [none],
  [some 48, none],
  [none, none],
  [none, none],
  [none, none, none],
  [some 48, none, none],
  [none, none],
  [none, none],
  [none, none, some 48],
  [some 9, none],
  [some 48, none, none],
  [none],
  [some 9],
  [none],
  [none, none],
  [some 24, none],
  [none],
  [none],
  [none],
  [none, none],
  [some 24, some 24, none],
  [none, none, none, none],
  [none, none],
  [some 48, some 48],
  [some 48, none],
  [none, none],
  [some 5, none],
  [none],
  [none],
  [some 24, none],
  [none],
  [none, none],
  [some 48, none],
  [none, none],
  [some 5, none],
  [some 48],
  [none, none],
  [none],
  [none],
  [none],
  [none],
  [none],
  [none],
  [none],
  [none],
  [none],
  [none],
  [none],
  [none],
  [none],
  [none],
  [none],
  [none]]
def nilsT (f : FuncId) : List (Option Nat) := nilsL.getD f []
def ownsT (f : FuncId) : Option (Nat × TypeId) := match f with | 52 => some (0, 48) | 73 => some (0, 48) | 75 => some (2, 9) | _ => none
def extT (f : FuncId) : Bool := Nat.beq f 96
def entT (f : FuncId) : Bool := Nat.blt f 118 && !([0, 1, 88, 96, 102, 103, 104, 105, 106, 107, 108, 109, 110, 111, 112, 113, 114, 115, 116, 117].any (Nat.beq f))
abbrev cl : FuncId → List D → Heap → (D → Heap → Prop) → Prop := ACalls Try.prog (lfs tab)
def envA (l : List (Nat × List Adj)) (c : CutT) (r : List Nat) (z : List (Nat × List Frz)) (y : List Nat) : Env := { T := tab, rs := rsT, ext := extT, ent := entT, call := cl, owns := ownsT, nils := nilsT, frz := frzLook z, lit := inL r, join := inL y, cut := cutLook c, flt := fltLook c, late := lateLook c, adj := adjLook l }
theorem ents : (List.range 118).all (fun f => !entT f || entOk Try.prog f) = true := by kernel_rfl
theorem envOk (l : List (Nat × List Adj)) (c : CutT) (r : List Nat) (z : List (Nat × List Frz)) (y : List Nat) : EnvOk Try.prog (envA l c r z y) := ⟨tab_ok, fun f hf args w => by
  have hf' : entT f = true := hf
  have hlt : f < 118 := by
    have := ((Bool.and_eq_true _ _).mp hf').1
    exact Nat.le_of_ble_eq_true this
  have h := List.all_eq_true.1 ents f (List.mem_range.2 hlt)
  rw [hf'] at h
  exact ent_of (by simpa using h) args w, fun _ _ _ _ h => h, fun _ _ _ _ _ h k => k.mono h, by kernel_rfl, fun f hf a b w => by
  have hf2 : f = 96 := Nat.eq_of_beq_eq_true hf
  subst hf2
  rw [run_callFunc_extern Try.func96 (by kernel_rfl) (by kernel_rfl) (by kernel_rfl) (e := Extern.BytealgCompare.compare) (by kernel_rfl), Lib.run_compareString]; rfl⟩
end Go.Proofs.Ytgohjdaepcmonaa
set_option linter.unusedVariables false
set_option linter.unusedSimpArgs false
namespace Go.Proofs.Ytgohjdaepcmonaa
open Go.Abs
abbrev iD (n : Int) : D := .v (.int .i64) (.i n)
abbrev bD (b : Bool) : D := .v .bool (.b b)
abbrev sD (s : ByteArray) : D := .v .str (.s s)
abbrev uD (n : Int) : D := .v (.int .u8) (.i n)
def Fn (f : FuncId) (args : List D) (r : D) : Prop := ∀ Q : D → Heap → Prop, Q r [] → cl f args [] Q
theorem Fn.use {f : FuncId} {args : List D} {r : D} (h : Fn f args r) {Q : D → Heap → Prop} (hq : Q r []) : cl f args [] Q := h Q hq
theorem Fn.here {f : FuncId} {args : List D} {r r' : D} (h : Fn f args r) (e : r' = r) : cl f args [] (fun x H' => x = r' ∧ H' = []) := h _ ⟨e.symm, rfl⟩
theorem iff_intro {b : Bool} {p q : Prop} (h1 : b = true → p) (h2 : b = false → q) : iff b p q := by
  cases b with
  | true => exact h1 rfl
  | false => exact h2 rfl
theorem iff_dec {c : Prop} [Decidable c] {p q : Prop} (h1 : c → p) (h2 : ¬ c → q) : iff (decide c) p q := by
  by_cases h : c
  · exact iff_yes (decide_eq_true h) (h1 h)
  · exact iff_no (decide_eq_false h) (h2 h)
theorem iff_beq {α : Type} [BEq α] [LawfulBEq α] {a b : α} {p q : Prop} (h1 : a = b → p) (h2 : a ≠ b → q) : iff (a == b) p q := by
  by_cases h : a = b
  · exact iff_yes (by simp [h]) (h1 h)
  · exact iff_no (by simp [h]) (h2 h)
theorem iff_bne {α : Type} [BEq α] [LawfulBEq α] {a b : α} {p q : Prop} (h1 : a ≠ b → p) (h2 : a = b → q) : iff (a != b) p q := by
  by_cases h : a = b
  · exact iff_no (by simp [h]) (h2 h)
  · exact iff_yes (by simp [h]) (h1 h)
theorem iff_not {b : Bool} {p q : Prop} (h : iff b q p) : iff (!b) p q := by cases b <;> exact h
theorem wrap_in (n : Int) (h1 : -9223372036854775808 ≤ n) (h2 : n ≤ 9223372036854775807) : IntKind.i64.wrap n = n := IntWalk.i64_in n ⟨h1, h2⟩
theorem wrap_u64 (n : Int) (h1 : 0 ≤ n) (h2 : n ≤ 18446744073709551615) : IntKind.u64.wrap n = n := by
  simp only [IntKind.wrap, IntKind.signed, IntKind.bits, Bool.false_and, Bool.false_eq_true, if_false]; omega
theorem big_eq : big = 9223372036854775807 := rfl
theorem ba_toList (s : ByteArray) : s.toList = s.data.toList := by
  have key : ∀ (n i : Nat) (r : List UInt8), s.size - i = n → i ≤ s.size → ByteArray.toList.loop s i r = r.reverse ++ s.data.toList.drop i := by
    intro n
    induction n with
    | zero =>
      intro i r h1 h2
      unfold ByteArray.toList.loop
      have : ¬ i < s.size := by omega
      rw [if_neg this]
      have h3 : s.data.toList.length = s.size := by simp
      simp [List.drop_eq_nil_of_le (by omega : s.data.toList.length ≤ i)]
    | succ n ih =>
      intro i r h1 h2
      unfold ByteArray.toList.loop
      have hi : i < s.size := by omega
      rw [if_pos hi, ih (i + 1) _ (by omega) (by omega)]
      have h3 : i < s.data.toList.length := by simpa using hi
      rw [List.drop_eq_getElem_cons h3]
      have : s.get! i = s.data.toList[i] := by
        show s.data[i]! = _
        rw [getElem!_pos s.data i (by simpa using hi)]
        simp
      simp [this]
  have := key s.size 0 [] (by omega) (by omega)
  simpa [ByteArray.toList] using this
theorem ba_ext {a b : ByteArray} (h : a.data.toList = b.data.toList) : a = b := by
  cases a; cases b; simp at h; exact congrArg _ h
theorem ba_eq_iff {a b : ByteArray} : a.data.toList = b.data.toList ↔ a = b := ⟨ba_ext, fun h => h ▸ rfl⟩
theorem ba_beq (a b : ByteArray) : (a.toList == b.toList) = decide (a = b) := by
  rw [ba_toList, ba_toList, Bool.eq_iff_iff, beq_iff_eq, ba_eq_iff, decide_eq_true_iff]
theorem ba_size (s : ByteArray) : s.data.toList.length = s.size := by simp
theorem ba_nil (s : ByteArray) : (s = ByteArray.mk #[]) ↔ s.size = 0 := by
  constructor
  · rintro rfl; rfl
  · intro h
    apply ba_ext
    apply List.eq_nil_of_length_eq_zero
    rw [ba_size]; exact h
abbrev cmpN (a b : ByteArray) : Int := Lib.compareBytes a.data.toList b.data.toList
theorem cmp_self : ∀ l : List UInt8, Lib.compareBytes l l = 0
  | [] => rfl
  | a :: l => by simp [Lib.compareBytes, cmp_self l]
theorem u8_lt (a b : UInt8) : a < b ↔ a.toNat < b.toNat := UInt8.lt_iff_toNat_lt
theorem cmp_cases : ∀ (l m : List UInt8), (Lib.compareBytes l m = -1 ∧ Lib.compareBytes m l = 1) ∨ (Lib.compareBytes l m = 0 ∧ l = m) ∨ (Lib.compareBytes l m = 1 ∧ Lib.compareBytes m l = -1)
  | [], [] => by simp [Lib.compareBytes]
  | [], _ :: _ => by simp [Lib.compareBytes]
  | _ :: _, [] => by simp [Lib.compareBytes]
  | a :: l, b :: m => by
    simp only [Lib.compareBytes]
    by_cases h1 : a < b
    · have h2 : ¬ b < a := by rw [u8_lt] at *; omega
      simp [h1, h2]
    · by_cases h2 : b < a
      · simp [h1, h2]
      · have h3 : a = b := by
          apply UInt8.toNat_inj.1; rw [u8_lt] at *; omega
        subst h3
        simp only [if_neg h1]
        rcases cmp_cases l m with h | ⟨h, h'⟩ | h
        · exact .inl h
        · exact .inr (.inl ⟨h, by rw [h']⟩)
        · exact .inr (.inr h)
theorem cmp_trans : ∀ (l m n : List UInt8), Lib.compareBytes l m = -1 → Lib.compareBytes m n = -1 → Lib.compareBytes l n = -1
  | [], [], n, h, _ => by simp [Lib.compareBytes] at h
  | [], _ :: _, [], _, h => by simp [Lib.compareBytes] at h
  | [], _ :: _, _ :: _, _, _ => by simp [Lib.compareBytes]
  | _ :: _, [], _, h, _ => by simp [Lib.compareBytes] at h
  | _ :: _, _ :: _, [], _, h => by simp [Lib.compareBytes] at h
  | a :: l, b :: m, c :: n, h1, h2 => by
    simp only [Lib.compareBytes] at *
    by_cases hab : a < b
    · by_cases hbc : b < c
      · have : a < c := by rw [u8_lt] at *; omega
        simp [this]
      · rw [if_neg hbc] at h2
        by_cases hcb : c < b
        · simp [hcb] at h2
        · have : a < c := by rw [u8_lt] at *; omega
          simp [this]
    · rw [if_neg hab] at h1
      by_cases hba : b < a
      · simp [hba] at h1
      · rw [if_neg hba] at h1
        have he : a = b := by apply UInt8.toNat_inj.1; rw [u8_lt] at *; omega
        subst he
        by_cases hbc : a < c
        · simp [hbc]
        · rw [if_neg hbc] at h2
          by_cases hcb : c < a
          · simp [hcb] at h2
          · rw [if_neg hcb] at h2
            rw [if_neg hbc, if_neg hcb]
            exact cmp_trans l m n h1 h2
theorem cmpN_cases (a b : ByteArray) : (cmpN a b = -1 ∧ cmpN b a = 1) ∨ (cmpN a b = 0 ∧ a = b) ∨ (cmpN a b = 1 ∧ cmpN b a = -1) := by
  rcases cmp_cases a.data.toList b.data.toList with h | ⟨h1, h2⟩ | h
  · exact .inl h
  · exact .inr (.inl ⟨h1, ba_ext h2⟩)
  · exact .inr (.inr h)
theorem cmpN_self (a : ByteArray) : cmpN a a = 0 := cmp_self _
theorem cmpN_zero {a b : ByteArray} : cmpN a b = 0 ↔ a = b := by
  rcases cmpN_cases a b with h | h | h
  · constructor
    · omega
    · rintro rfl; have := cmpN_self a; omega
  · exact ⟨fun _ => h.2, fun _ => h.1⟩
  · constructor
    · omega
    · rintro rfl; have := cmpN_self a; omega
theorem cmpN_trans {a b c : ByteArray} (h1 : cmpN a b = -1) (h2 : cmpN b c = -1) : cmpN a c = -1 := cmp_trans _ _ _ h1 h2
def letterB (c : Int) : Bool := decide (65 ≤ c ∧ c ≤ 90 ∨ 97 ≤ c ∧ c ≤ 122 ∨ 48 ≤ c ∧ c ≤ 57 ∨ c = 95 ∨ c = 39)
def lettersL (l : List UInt8) : Bool := l.all fun c => letterB (c.toNat : Int)
def markedL (l : List UInt8) : Bool := decide (l.getLast? = some 35)
def nameOk (s : ByteArray) (m : Bool) : Bool :=
  decide (s.size ≤ 24) && (if m && markedL s.data.toList then decide (1 < s.size) && lettersL s.data.toList.dropLast else decide (0 < s.size) && lettersL s.data.toList)
theorem extract_list (s : ByteArray) (i j : Nat) : (s.extract i j).data.toList = (s.data.toList.take j).drop i := by
  simp [ByteArray.data_extract, Array.toList_extract, List.extract_eq_take_drop, List.drop_take]
end Go.Proofs.Ytgohjdaepcmonaa
set_option linter.unusedVariables false
set_option maxRecDepth 100000
namespace Go.Proofs.Ytgohjdaepcmonaa
open Go.Abs
def env_l03_UnifyMatches : Env := envA [] [] [] [] []
def vc_l03_UnifyMatches (a0_0 : ByteArray) (a0_1 : Bool) (a0_2 : LL) (a1_0 : ByteArray) (a1_1 : Bool) (a1_2 : LL) (Q : QD) : Prop :=
  cl f_unify_Match [.agg [.v .str (V.s a0_0), .v .bool (V.b a0_1), .v (.sl t_Term) (V.l a0_2)], .agg [.v .str (V.s a1_0), .v .bool (V.b a1_1), .v (.sl t_Term) (V.l a1_2)]] [] fun r1 H2 => r1 = (.tup [.v (.sl t_Bind) ((r1.parts.headD .undef).V), .v .bool ((r1.parts.tail.headD .undef).V), .v (.int .i64) ((r1.parts.tail.tail.headD .undef).V)]) ∧ H2 = [] ∧ cl f_r01_CheckAll [.v (.sl t_Term) (V.l ([[V.s a0_0, V.b a0_1, V.l a0_2], [V.s a1_0, V.b a1_1, V.l a1_2]]))] [] fun r3 H4 => r3 = (.v (.int .i64) (r3.V)) ∧ H4 = [] ∧ iff (r3.V.int != (0 : Int)) (cl f_l03_is [.v (.sl t_Bind) ((r1.parts.headD .undef).V), .v .bool ((r1.parts.tail.headD .undef).V), .v (.int .i64) ((r1.parts.tail.tail.headD .undef).V), .v (.sl t_Bind) (V.l ([])), .v .bool (V.b false), .v (.int .i64) (r3.V)] [] fun r5 H6 => r5 = (.v .bool (r5.V)) ∧ H6 = [] ∧ iff r5.V.bool (cl f_l03_alive [] [] fun r7 H8 => r7 = (.v .bool (r7.V)) ∧ H8 = [] ∧ True ∧ Q (.v .bool (r7.V)) []) (True ∧ Q (.v .bool (V.b false)) [])) (cl f_r03_Match [.agg [.v .str (V.s a0_0), .v .bool (V.b a0_1), .v (.sl t_Term) (V.l a0_2)], .agg [.v .str (V.s a1_0), .v .bool (V.b a1_1), .v (.sl t_Term) (V.l a1_2)]] [] fun r9 H10 => r9 = (.tup [.v (.sl t_Bind) ((r9.parts.headD .undef).V), .v .bool ((r9.parts.tail.headD .undef).V)]) ∧ H10 = [] ∧ cl f_l03_is [.v (.sl t_Bind) ((r1.parts.headD .undef).V), .v .bool ((r1.parts.tail.headD .undef).V), .v (.int .i64) ((r1.parts.tail.tail.headD .undef).V), .v (.sl t_Bind) ((r9.parts.headD .undef).V), .v .bool ((r9.parts.tail.headD .undef).V), .v (.int .i64) (V.i 0)] [] fun r11 H12 => r11 = (.v .bool (r11.V)) ∧ H12 = [] ∧ iff r11.V.bool (cl f_l03_alive [] [] fun r13 H14 => r13 = (.v .bool (r13.V)) ∧ H14 = [] ∧ True ∧ Q (.v .bool (r13.V)) []) (True ∧ Q (.v .bool (V.b false)) []))
theorem C_l03_UnifyMatches (a0_0 : ByteArray) (a0_1 : Bool) (a0_2 : LL) (a1_0 : ByteArray) (a1_1 : Bool) (a1_2 : LL) (Q : QD) (h : vc_l03_UnifyMatches a0_0 a0_1 a0_2 a1_0 a1_1 a1_2 Q) : cl f_l03_UnifyMatches [.agg [.v .str (V.s a0_0), .v .bool (V.b a0_1), .v (.sl t_Term) (V.l a0_2)], .agg [.v .str (V.s a1_0), .v .bool (V.b a1_1), .v (.sl t_Term) (V.l a1_2)]] [] Q :=
  acalls2 (E := env_l03_UnifyMatches) (envOk _ _ _ _ _) 0 Try.func3 (by kernel_rfl) h
def env_l03_UnifyUnifies : Env := envA [(3000010, ua 0 2 (ua 3 2 (ua 6 4 (ua 13 4 (ua 21 42 (da 3 2 (da 36 2 ((.dead 44) :: da 50 2 ([.dead 61])))))))))] [] [] [] [10]
@[irreducible] def jp_l03_UnifyUnifies_0 (Q : QD) (x2 : LL) (x10 x11 x12 : V) : Prop :=
  joinM (evCode env_l03_UnifyUnifies (fnAt [1, 1, 1, 1] Try.f4)) ⟨un 2 ((.v (.sl t_Rule) (V.l x2)) :: un 2 (.skip :: un 4 ((.v (.sl t_Bind) (x10)) :: (.v .bool (x11)) :: (.v (.int .i64) (x12)) :: un 4 (sk 4 (un 42 (sk 28 ([]))))))), dd 91 ([])⟩ [] (endK env_l03_UnifyUnifies Try.f4 Q)
def je_l03_UnifyUnifies_0 (Q : QD) (x2 : LL) (x10 x11 x12 : V) : Prop :=
  cl f_r01_Rules [.v (.sl t_Rule) (V.l x2)] [] fun r1 H2 => r1 = (.v (.int .i64) (r1.V)) ∧ H2 = [] ∧ iff (r1.V.int != (0 : Int)) (cl f_l03_is [.v (.sl t_Bind) (x10), .v .bool (x11), .v (.int .i64) (x12), .v (.sl t_Bind) (V.l ([])), .v .bool (V.b false), .v (.int .i64) (r1.V)] [] fun r3 H4 => r3 = (.v .bool (r3.V)) ∧ H4 = [] ∧ iff r3.V.bool (cl f_l03_alive [] [] fun r5 H6 => r5 = (.v .bool (r5.V)) ∧ H6 = [] ∧ True ∧ Q (.v .bool (r5.V)) []) (True ∧ Q (.v .bool (V.b false)) [])) (cl f_r03_UnifyAll [.v (.sl t_Rule) (V.l x2)] [] fun r7 H8 => r7 = (.tup [.v (.sl t_Bind) ((r7.parts.headD .undef).V), .v .bool ((r7.parts.tail.headD .undef).V), .v (.int .i64) ((r7.parts.tail.tail.headD .undef).V)]) ∧ H8 = [] ∧ cl f_l03_is [.v (.sl t_Bind) (x10), .v .bool (x11), .v (.int .i64) (x12), .v (.sl t_Bind) ((r7.parts.headD .undef).V), .v .bool ((r7.parts.tail.headD .undef).V), .v (.int .i64) ((r7.parts.tail.tail.headD .undef).V)] [] fun r9 H10 => r9 = (.v .bool (r9.V)) ∧ H10 = [] ∧ iff r9.V.bool (cl f_l03_alive [] [] fun r11 H12 => r11 = (.v .bool (r11.V)) ∧ H12 = [] ∧ True ∧ Q (.v .bool (r11.V)) []) (True ∧ Q (.v .bool (V.b false)) []))
theorem jp_l03_UnifyUnifies_0_s (Q : QD) (x2 : LL) (x10 x11 x12 : V) : jp_l03_UnifyUnifies_0 Q x2 x10 x11 x12 = je_l03_UnifyUnifies_0 Q x2 x10 x11 x12 := by kernel_rfl
def vc_l03_UnifyUnifies (a0_0 : ByteArray) (a0_1 : Bool) (a0_2 : LL) (a1_0 : ByteArray) (a1_1 : Bool) (a1_2 a2 : LL) (Q : QD) : Prop :=
  cl f_unify_Unify [.agg [.v .str (V.s a0_0), .v .bool (V.b a0_1), .v (.sl t_Term) (V.l a0_2)], .agg [.v .str (V.s a1_0), .v .bool (V.b a1_1), .v (.sl t_Term) (V.l a1_2)]] [] fun r1 H2 => r1 = (.tup [.v (.sl t_Bind) ((r1.parts.headD .undef).V), .v .bool ((r1.parts.tail.headD .undef).V), .v (.int .i64) ((r1.parts.tail.tail.headD .undef).V)]) ∧ H2 = [] ∧ cl f_unify_UnifyAll [.v (.sl t_Rule) (V.l a2)] [] fun r3 H4 => r3 = (.tup [.v (.sl t_Bind) ((r3.parts.headD .undef).V), .v .bool ((r3.parts.tail.headD .undef).V), .v (.int .i64) ((r3.parts.tail.tail.headD .undef).V)]) ∧ H4 = [] ∧ cl f_r01_CheckAll [.v (.sl t_Term) (V.l ([[V.s a0_0, V.b a0_1, V.l a0_2], [V.s a1_0, V.b a1_1, V.l a1_2]]))] [] fun r5 H6 => r5 = (.v (.int .i64) (r5.V)) ∧ H6 = [] ∧ iff (r5.V.int != (0 : Int)) (cl f_l03_is [.v (.sl t_Bind) ((r1.parts.headD .undef).V), .v .bool ((r1.parts.tail.headD .undef).V), .v (.int .i64) ((r1.parts.tail.tail.headD .undef).V), .v (.sl t_Bind) (V.l ([])), .v .bool (V.b false), .v (.int .i64) (r5.V)] [] fun r7 H8 => r7 = (.v .bool (r7.V)) ∧ H8 = [] ∧ iff (!r7.V.bool) (True ∧ Q (.v .bool (V.b false)) []) (jp_l03_UnifyUnifies_0 Q a2 ((r3.parts.headD .undef).V) ((r3.parts.tail.headD .undef).V) ((r3.parts.tail.tail.headD .undef).V))) (cl f_r03_UnifyAll [.v (.sl t_Rule) (V.l ([[V.s a0_0, V.b a0_1, V.l a0_2, V.s a1_0, V.b a1_1, V.l a1_2]]))] [] fun r9 H10 => r9 = (.tup [.v (.sl t_Bind) ((r9.parts.headD .undef).V), .v .bool ((r9.parts.tail.headD .undef).V), .v (.int .i64) ((r9.parts.tail.tail.headD .undef).V)]) ∧ H10 = [] ∧ cl f_l03_is [.v (.sl t_Bind) ((r1.parts.headD .undef).V), .v .bool ((r1.parts.tail.headD .undef).V), .v (.int .i64) ((r1.parts.tail.tail.headD .undef).V), .v (.sl t_Bind) ((r9.parts.headD .undef).V), .v .bool ((r9.parts.tail.headD .undef).V), .v (.int .i64) ((r9.parts.tail.tail.headD .undef).V)] [] fun r11 H12 => r11 = (.v .bool (r11.V)) ∧ H12 = [] ∧ iff (!r11.V.bool) (True ∧ Q (.v .bool (V.b false)) []) (jp_l03_UnifyUnifies_0 Q a2 ((r3.parts.headD .undef).V) ((r3.parts.tail.headD .undef).V) ((r3.parts.tail.tail.headD .undef).V)))
theorem C_l03_UnifyUnifies (a0_0 : ByteArray) (a0_1 : Bool) (a0_2 : LL) (a1_0 : ByteArray) (a1_1 : Bool) (a1_2 a2 : LL) (Q : QD) (h : vc_l03_UnifyUnifies a0_0 a0_1 a0_2 a1_0 a1_1 a1_2 a2 Q) : cl f_l03_UnifyUnifies [.agg [.v .str (V.s a0_0), .v .bool (V.b a0_1), .v (.sl t_Term) (V.l a0_2)], .agg [.v .str (V.s a1_0), .v .bool (V.b a1_1), .v (.sl t_Term) (V.l a1_2)], .v (.sl t_Rule) (V.l a2)] [] Q :=
  acalls2 (E := env_l03_UnifyUnifies) (envOk _ _ _ _ _) 0 Try.func4 (by kernel_rfl) h
def env_l03_UnifyMatching : Env := envA [(10, ua 0 2 (ua 3 2 (ua 6 7 (ua 14 60 (ua 77 12 ((.dead 14) :: da 85 2 ([]))))))), (3000004, ua 0 2 ((.undef 4) :: ua 6 4 (ua 15 20 ([.dead 4, .dead 18, .dead 30, .dead 32])))), (3000006, ua 0 2 ((.undef 4) :: ua 6 4 (ua 15 35 ([.dead 36, .dead 40, .dead 46, .dead 49])))), (3000009, ua 0 2 (ua 3 2 (ua 6 4 (ua 11 2 (ua 15 59 ((.dead 3) :: (.dead 67) :: da 69 3 ([])))))))] [(2, 10, [], []), (6, 11, [], []), (12, 6, [], [])] [] [] [4, 6, 9]
def kl_l03_UnifyMatching_0 (Q : QD) : Post := blockK 0 (seqJ env_l03_UnifyMatching (fnAt [1, 1, 1, 1, 1, 1] Try.f5) (endK env_l03_UnifyMatching Try.f5 Q))
@[irreducible] def lp_l03_UnifyMatching_0 (Q : QD) (m0 : Nat) (x2 : LL) (x74 : V) (x75 x76 : Int) : Prop :=
  iter (adj (env_l03_UnifyMatching.adj 10)) (evCode env_l03_UnifyMatching (fnAt [1, 1, 1, 1, 1, 0, 1, 0, 0] Try.f5)) (kl_l03_UnifyMatching_0 Q) m0 ⟨un 2 ((.v (.sl t_Bind) (V.l x2)) :: un 2 (.skip :: un 7 (.skip :: un 60 ((.v (.sl t_Bind) (x74)) :: (.v (.int .i64) (V.i x75)) :: (.v (.int .i64) (V.i x76)) :: un 12 ([.skip]))))), dd 90 ([])⟩ []
@[irreducible] def jp_l03_UnifyMatching_2 (Q : QD) (x2 : LL) (x10 : V) : Prop :=
  joinM (evCode env_l03_UnifyMatching (fnAt [1, 1, 1, 1, 1] Try.f5)) ⟨un 2 ((.v (.sl t_Bind) (V.l x2)) :: un 2 (.skip :: un 4 ((.v (.sl t_Bind) (x10)) :: un 2 (sk 2 (un 59 (sk 16 ([]))))))), dd 90 ([])⟩ [] (endK env_l03_UnifyMatching Try.f5 Q)
@[irreducible] def jp_l03_UnifyMatching_1 (Q : QD) (x2 : LL) (y3_0 : ByteArray) (y3_1 : Bool) (y3_2 : LL) : Prop :=
  joinM (evCode env_l03_UnifyMatching (fnAt [1, 1, 1] Try.f5)) ⟨un 2 ((.v (.sl t_Bind) (V.l x2)) :: (.ptr (.loc 3) 0) :: .undef :: .skip :: un 4 (sk 5 (un 35 (sk 40 ([]))))), dd 3 ((.cells [.v .str (V.s y3_0), .v .bool (V.b y3_1), .v (.sl t_Term) (V.l y3_2)]) :: dd 86 ([]))⟩ [] (endK env_l03_UnifyMatching Try.f5 Q)
@[irreducible] def jp_l03_UnifyMatching_0 (Q : QD) (x2 : LL) (y3_0 : ByteArray) (y3_1 : Bool) (y3_2 : LL) : Prop :=
  joinM (evCode env_l03_UnifyMatching (fnAt [1, 1] Try.f5)) ⟨un 2 ((.v (.sl t_Bind) (V.l x2)) :: (.ptr (.loc 3) 0) :: .undef :: .skip :: un 4 (sk 5 (un 20 (sk 55 ([]))))), dd 3 ((.cells [.v .str (V.s y3_0), .v .bool (V.b y3_1), .v (.sl t_Term) (V.l y3_2)]) :: dd 86 ([]))⟩ [] (endK env_l03_UnifyMatching Try.f5 Q)
def st_l03_UnifyMatching_0 (Q : QD) (m0 : Nat) (x2 : LL) (x74 : V) (x75 x76 : Int) : Prop :=
  iff (decide (x76 < x75)) (0 ≤ x76 ∧ x76 < x74.list.length ∧ (∃ r1 : D, cl f_r01_Image [.v (.sl t_Bind) (V.l x2), .v .str (((x74.list.getD x76.toNat []).drop 0).headD V.none)] [] (fun r H' => r = (.agg [.v .str ((r1.cells.headD .undef).V), .v .bool ((r1.cells.tail.headD .undef).V), .v (.sl t_Term) ((r1.cells.tail.tail.headD .undef).V)]) ∧ H' = []) ∧ cl f_r01_Equal [.agg [.v .str ((((x74.list.getD x76.toNat []).drop 0).tail).headD V.none), .v .bool (((((x74.list.getD x76.toNat []).drop 0).tail).tail).headD V.none), .v (.sl t_Term) ((((((x74.list.getD x76.toNat []).drop 0).tail).tail).tail).headD V.none)], .agg [.v .str ((r1.cells.headD .undef).V), .v .bool ((r1.cells.tail.headD .undef).V), .v (.sl t_Term) ((r1.cells.tail.tail.headD .undef).V)]] [] fun r2 H3 => r2 = (.v .bool (r2.V)) ∧ H3 = [] ∧ iff (!r2.V.bool) (True ∧ Q (.v .bool (V.b false)) []) (lp_l03_UnifyMatching_0 Q m0 x2 x74 x75 (IntKind.i64.wrap (x76 + (1 : Int)))))) (cl f_l03_alive [] [] fun r4 H5 => r4 = (.v .bool (r4.V)) ∧ H5 = [] ∧ True ∧ Q (.v .bool (r4.V)) [])
theorem lp_l03_UnifyMatching_0_s (Q : QD) (m0 : Nat) (x2 : LL) (x74 : V) (x75 x76 : Int) : lp_l03_UnifyMatching_0 Q (m0 + 1) x2 x74 x75 x76 = st_l03_UnifyMatching_0 Q m0 x2 x74 x75 x76 := by kernel_rfl
theorem range_l03_UnifyMatching_0 (Q : QD) (x2 : LL) (x74 : V) (n : Nat) (hb : n ≤ big) (J : Nat → Prop)
    (step : ∀ (k : Nat), k < n → J k → ∀ K : Prop, (J (k + 1) → K) → (0 ≤ (k : Int) ∧ (k : Int) < x74.list.length ∧ (∃ r1 : D, cl f_r01_Image [.v (.sl t_Bind) (V.l x2), .v .str (((x74.list.getD k []).drop 0).headD V.none)] [] (fun r H' => r = (.agg [.v .str ((r1.cells.headD .undef).V), .v .bool ((r1.cells.tail.headD .undef).V), .v (.sl t_Term) ((r1.cells.tail.tail.headD .undef).V)]) ∧ H' = []) ∧ cl f_r01_Equal [.agg [.v .str ((((x74.list.getD k []).drop 0).tail).headD V.none), .v .bool (((((x74.list.getD k []).drop 0).tail).tail).headD V.none), .v (.sl t_Term) ((((((x74.list.getD k []).drop 0).tail).tail).tail).headD V.none)], .agg [.v .str ((r1.cells.headD .undef).V), .v .bool ((r1.cells.tail.headD .undef).V), .v (.sl t_Term) ((r1.cells.tail.tail.headD .undef).V)]] [] fun r2 H3 => r2 = (.v .bool (r2.V)) ∧ H3 = [] ∧ iff (!r2.V.bool) (True ∧ Q (.v .bool (V.b false)) []) (K))))
    (last : J n → (cl f_l03_alive [] [] fun r4 H5 => r4 = (.v .bool (r4.V)) ∧ H5 = [] ∧ True ∧ Q (.v .bool (r4.V)) []))
    (k : Nat) (le0 : k ≤ n) (hj : J k) : ∃ m0, lp_l03_UnifyMatching_0 Q m0 x2 x74 (n : Int) ((k : Int)) := by
  exact rangeG0 n hb J (fun m0 i => lp_l03_UnifyMatching_0 Q m0 x2 x74 (n : Int) i) (fun m0 i => lp_l03_UnifyMatching_0_s Q m0 x2 x74 (n : Int) i) (fun k hl_ hj_ m_ ih_ => step k hl_ hj_ _ ih_) last k le0 hj
def je_l03_UnifyMatching_2 (Q : QD) (x2 : LL) (x10 : V) : Prop :=
  (x10.list.length ≤ big → ∃ m0, lp_l03_UnifyMatching_0 Q m0 x2 x10 ((x10.list.length : Int)) 0)
theorem jp_l03_UnifyMatching_2_s (Q : QD) (x2 : LL) (x10 : V) : jp_l03_UnifyMatching_2 Q x2 x10 = je_l03_UnifyMatching_2 Q x2 x10 := by kernel_rfl
def je_l03_UnifyMatching_1 (Q : QD) (x2 : LL) (y3_0 : ByteArray) (y3_1 : Bool) (y3_2 : LL) : Prop :=
  (∃ r1 : D, cl f_r01_Apply [.v (.sl t_Bind) (V.l x2), .agg [.v .str (V.s y3_0), .v .bool (V.b y3_1), .v (.sl t_Term) (V.l y3_2)]] [] (fun r H' => r = (.agg [.v .str ((r1.cells.headD .undef).V), .v .bool ((r1.cells.tail.headD .undef).V), .v (.sl t_Term) ((r1.cells.tail.tail.headD .undef).V)]) ∧ H' = []) ∧ (∃ r2 : D, cl f_unify_Match [.agg [.v .str (V.s y3_0), .v .bool (V.b y3_1), .v (.sl t_Term) (V.l y3_2)], .agg [.v .str ((r1.cells.headD .undef).V), .v .bool ((r1.cells.tail.headD .undef).V), .v (.sl t_Term) ((r1.cells.tail.tail.headD .undef).V)]] [] (fun r H' => r = (.tup [.v (.sl t_Bind) ((r2.parts.headD .undef).V), .v .bool ((r2.parts.tail.headD .undef).V), .v (.int .i64) ((r2.parts.tail.tail.headD .undef).V)]) ∧ H' = []) ∧ iff ((((r2.parts.tail.tail.headD .undef).V).int) != (0 : Int)) (True ∧ Q (.v .bool (V.b false)) []) (iff (!(((r2.parts.tail.headD .undef).V).bool)) (True ∧ Q (.v .bool (V.b false)) []) (((((r2.parts.headD .undef).V).list).length ≤ big → cl f_r01_Vars [.v (.sl t_Term) (V.l ([[V.s y3_0, V.b y3_1, V.l y3_2]]))] [] fun r3 H4 => r3 = (.v (.sl t_string) (r3.V)) ∧ H4 = [] ∧ (r3.V.list.length ≤ big → iff ((((((r2.parts.headD .undef).V).list).length : Int)) != ((r3.V.list.length : Int))) (True ∧ Q (.v .bool (V.b false)) []) (jp_l03_UnifyMatching_2 Q x2 ((r2.parts.headD .undef).V))))))))
theorem jp_l03_UnifyMatching_1_s (Q : QD) (x2 : LL) (y3_0 : ByteArray) (y3_1 : Bool) (y3_2 : LL) : jp_l03_UnifyMatching_1 Q x2 y3_0 y3_1 y3_2 = je_l03_UnifyMatching_1 Q x2 y3_0 y3_1 y3_2 := by kernel_rfl
def je_l03_UnifyMatching_0 (Q : QD) (x2 : LL) (y3_0 : ByteArray) (y3_1 : Bool) (y3_2 : LL) : Prop :=
  cl f_r01_Check [.agg [.v .str (V.s y3_0), .v .bool (V.b y3_1), .v (.sl t_Term) (V.l y3_2)]] [] fun r1 H2 => r1 = (.v (.int .i64) (r1.V)) ∧ H2 = [] ∧ iff (r1.V.int != (0 : Int)) (cl f_l03_alive [] [] fun r3 H4 => r3 = (.v .bool (r3.V)) ∧ H4 = [] ∧ True ∧ Q (.v .bool (r3.V)) []) (cl f_r01_CheckSubst [.v (.sl t_Bind) (V.l x2)] [] fun r5 H6 => r5 = (.v (.int .i64) (r5.V)) ∧ H6 = [] ∧ iff (r5.V.int != (0 : Int)) (cl f_l03_alive [] [] fun r7 H8 => r7 = (.v .bool (r7.V)) ∧ H8 = [] ∧ True ∧ Q (.v .bool (r7.V)) []) (cl f_r01_Fits [.v (.sl t_Bind) (V.l x2), .agg [.v .str (V.s y3_0), .v .bool (V.b y3_1), .v (.sl t_Term) (V.l y3_2)]] [] fun r9 H10 => r9 = (.v .bool (r9.V)) ∧ H10 = [] ∧ iff (!r9.V.bool) (cl f_l03_alive [] [] fun r11 H12 => r11 = (.v .bool (r11.V)) ∧ H12 = [] ∧ True ∧ Q (.v .bool (r11.V)) []) (jp_l03_UnifyMatching_1 Q x2 y3_0 y3_1 y3_2)))
theorem jp_l03_UnifyMatching_0_s (Q : QD) (x2 : LL) (y3_0 : ByteArray) (y3_1 : Bool) (y3_2 : LL) : jp_l03_UnifyMatching_0 Q x2 y3_0 y3_1 y3_2 = je_l03_UnifyMatching_0 Q x2 y3_0 y3_1 y3_2 := by kernel_rfl
def vc_l03_UnifyMatching (a0_0 : ByteArray) (a0_1 : Bool) (a0_2 : LL) (a1_0 : ByteArray) (a1_1 : Bool) (a1_2 a2 : LL) (Q : QD) : Prop :=
  cl f_unify_Match [.agg [.v .str (V.s a0_0), .v .bool (V.b a0_1), .v (.sl t_Term) (V.l a0_2)], .agg [.v .str (V.s a1_0), .v .bool (V.b a1_1), .v (.sl t_Term) (V.l a1_2)]] [] fun r1 H2 => r1 = (.tup [.v (.sl t_Bind) ((r1.parts.headD .undef).V), .v .bool ((r1.parts.tail.headD .undef).V), .v (.int .i64) ((r1.parts.tail.tail.headD .undef).V)]) ∧ H2 = [] ∧ iff ((((r1.parts.tail.tail.headD .undef).V).int) == (0 : Int)) (iff (((r1.parts.tail.headD .undef).V).bool) ((∃ r3 : D, cl f_r01_Apply [.v (.sl t_Bind) ((r1.parts.headD .undef).V), .agg [.v .str (V.s a0_0), .v .bool (V.b a0_1), .v (.sl t_Term) (V.l a0_2)]] [] (fun r H' => r = (.agg [.v .str ((r3.cells.headD .undef).V), .v .bool ((r3.cells.tail.headD .undef).V), .v (.sl t_Term) ((r3.cells.tail.tail.headD .undef).V)]) ∧ H' = []) ∧ cl f_r01_Equal [.agg [.v .str ((r3.cells.headD .undef).V), .v .bool ((r3.cells.tail.headD .undef).V), .v (.sl t_Term) ((r3.cells.tail.tail.headD .undef).V)], .agg [.v .str (V.s a1_0), .v .bool (V.b a1_1), .v (.sl t_Term) (V.l a1_2)]] [] fun r4 H5 => r4 = (.v .bool (r4.V)) ∧ H5 = [] ∧ iff (!r4.V.bool) (True ∧ Q (.v .bool (V.b false)) []) (jp_l03_UnifyMatching_0 Q a2 a0_0 a0_1 a0_2))) (jp_l03_UnifyMatching_0 Q a2 a0_0 a0_1 a0_2)) (jp_l03_UnifyMatching_0 Q a2 a0_0 a0_1 a0_2)
theorem C_l03_UnifyMatching (a0_0 : ByteArray) (a0_1 : Bool) (a0_2 : LL) (a1_0 : ByteArray) (a1_1 : Bool) (a1_2 a2 : LL) (Q : QD) (h : vc_l03_UnifyMatching a0_0 a0_1 a0_2 a1_0 a1_1 a1_2 a2 Q) : cl f_l03_UnifyMatching [.agg [.v .str (V.s a0_0), .v .bool (V.b a0_1), .v (.sl t_Term) (V.l a0_2)], .agg [.v .str (V.s a1_0), .v .bool (V.b a1_1), .v (.sl t_Term) (V.l a1_2)], .v (.sl t_Bind) (V.l a2)] [] Q :=
  acalls2 (E := env_l03_UnifyMatching) (envOk _ _ _ _ _) 0 Try.func5 (by kernel_rfl) h
def env_l03_UnifyMostGeneral : Env := envA [(10, ua 0 2 ((.undef 6) :: (.undef 9) :: (.undef 11) :: ua 15 43 (ua 61 19 ([.dead 11, .dead 67, .dead 73, .dead 76])))), (20, ua 0 2 (ua 3 2 ((.undef 6) :: ua 8 2 ((.undef 11) :: ua 13 98 (ua 114 21 (da 3 2 ((.dead 14) :: (.dead 119) :: (.dead 122) :: (.dead 127) :: da 130 2 ([])))))))), (3000004, ua 0 2 ((.undef 6) :: ua 15 17 (da 24 2 ([.dead 31])))), (3000009, ua 0 2 ((.undef 6) :: (.undef 9) :: ua 15 43 ((.dead 36) :: (.dead 41) :: (.dead 45) :: (.dead 50) :: da 53 2 ([])))), (3000015, ua 0 2 ((.undef 6) :: (.undef 9) :: (.undef 11) :: ua 15 65 ((.dead 11) :: (.dead 36) :: (.dead 41) :: (.dead 45) :: (.dead 50) :: da 53 2 ([.dead 59, .dead 67, .dead 73, .dead 76])))), (3000017, ua 0 2 ((.undef 6) :: (.undef 9) :: (.undef 11) :: ua 15 91 ((.dead 81) :: (.dead 86) :: (.dead 92) :: (.dead 98) :: da 101 2 ([.dead 105]))))] [(7, 18, [], []), (12, 12, [], []), (15, 21, [], [])] [] [] [4, 9, 15, 17]
def kl_l03_UnifyMostGeneral_0 (Q : QD) : Post := blockK 0 (seqJ env_l03_UnifyMostGeneral (fnAt [1, 1, 1, 1, 1] Try.f6) (endK env_l03_UnifyMostGeneral Try.f6 Q))
def kl_l03_UnifyMostGeneral_1 (Q : QD) : Post := blockK 2 (seqJ env_l03_UnifyMostGeneral (fnAt [1, 1, 1, 1, 1, 1, 1, 1] Try.f6) (endK env_l03_UnifyMostGeneral Try.f6 Q))
@[irreducible] def lp_l03_UnifyMostGeneral_1 (Q : QD) (m1 : Nat) (x2 : LL) (x7 x111 : V) (x112 x113 : Int) : Prop :=
  iter (adj (env_l03_UnifyMostGeneral.adj 20)) (evCode env_l03_UnifyMostGeneral (fnAt [1, 1, 1, 1, 1, 1, 1, 0, 1, 0, 0] Try.f6)) (kl_l03_UnifyMostGeneral_1 Q) m1 ⟨un 2 ((.v (.sl t_Bind) (V.l x2)) :: un 2 (.skip :: .undef :: (.v (.sl t_Bind) (x7)) :: un 2 (.skip :: .undef :: .skip :: un 98 ((.v (.sl t_string) (x111)) :: (.v (.int .i64) (V.i x112)) :: (.v (.int .i64) (V.i x113)) :: un 21 ([.skip]))))), dd 136 ([])⟩ []
@[irreducible] def jp_l03_UnifyMostGeneral_3 (Q : QD) (x2 : LL) (x7 x8 : V) (y3_0 : ByteArray) (y3_1 : Bool) (y3_2 : LL) (y4_0 : ByteArray) (y4_1 : Bool) (y4_2 : LL) : Prop :=
  joinM (evCode env_l03_UnifyMostGeneral (fnAt [1, 1, 1, 1, 1, 1] Try.f6)) ⟨un 2 ((.v (.sl t_Bind) (V.l x2)) :: (.ptr (.loc 3) 0) :: (.ptr (.loc 4) 0) :: .skip :: .undef :: (.v (.sl t_Bind) (x7)) :: (.v .bool (x8)) :: .undef :: .skip :: .undef :: sk 3 (un 91 (sk 30 ([])))), dd 3 ((.cells [.v .str (V.s y3_0), .v .bool (V.b y3_1), .v (.sl t_Term) (V.l y3_2)]) :: (.cells [.v .str (V.s y4_0), .v .bool (V.b y4_1), .v (.sl t_Term) (V.l y4_2)]) :: dd 131 ([]))⟩ [] (endK env_l03_UnifyMostGeneral Try.f6 Q)
@[irreducible] def jp_l03_UnifyMostGeneral_2 (Q : QD) (x2 : LL) (x7 x8 : V) (y3_0 : ByteArray) (y3_1 : Bool) (y3_2 : LL) (y4_0 : ByteArray) (y4_1 : Bool) (y4_2 : LL) : Prop :=
  joinM (evCode env_l03_UnifyMostGeneral (fnAt [1, 1, 1, 1, 1] Try.f6)) ⟨un 2 ((.v (.sl t_Bind) (V.l x2)) :: (.ptr (.loc 3) 0) :: (.ptr (.loc 4) 0) :: .skip :: .undef :: (.v (.sl t_Bind) (x7)) :: (.v .bool (x8)) :: .undef :: .skip :: .undef :: sk 3 (un 65 (sk 56 ([])))), dd 3 ((.cells [.v .str (V.s y3_0), .v .bool (V.b y3_1), .v (.sl t_Term) (V.l y3_2)]) :: (.cells [.v .str (V.s y4_0), .v .bool (V.b y4_1), .v (.sl t_Term) (V.l y4_2)]) :: dd 131 ([]))⟩ [] (endK env_l03_UnifyMostGeneral Try.f6 Q)
@[irreducible] def lp_l03_UnifyMostGeneral_0 (Q : QD) (m0 : Nat) (x2 : LL) (x7 x8 x58 : V) (x59 x60 : Int) (y3_0 : ByteArray) (y3_1 : Bool) (y3_2 : LL) (y4_0 : ByteArray) (y4_1 : Bool) (y4_2 : LL) : Prop :=
  iter (adj (env_l03_UnifyMostGeneral.adj 10)) (evCode env_l03_UnifyMostGeneral (fnAt [1, 1, 1, 1, 0, 1, 0, 1, 1, 0, 0] Try.f6)) (kl_l03_UnifyMostGeneral_0 Q) m0 ⟨un 2 ((.v (.sl t_Bind) (V.l x2)) :: (.ptr (.loc 3) 0) :: (.ptr (.loc 4) 0) :: .skip :: .undef :: (.v (.sl t_Bind) (x7)) :: (.v .bool (x8)) :: .undef :: .skip :: .undef :: sk 3 (un 43 ((.v (.sl t_Bind) (x58)) :: (.v (.int .i64) (V.i x59)) :: (.v (.int .i64) (V.i x60)) :: un 19 (sk 56 ([]))))), dd 3 ((.cells [.v .str (V.s y3_0), .v .bool (V.b y3_1), .v (.sl t_Term) (V.l y3_2)]) :: (.cells [.v .str (V.s y4_0), .v .bool (V.b y4_1), .v (.sl t_Term) (V.l y4_2)]) :: dd 131 ([]))⟩ []
@[irreducible] def jp_l03_UnifyMostGeneral_1 (Q : QD) (x2 : LL) (x7 x8 : V) (y3_0 : ByteArray) (y3_1 : Bool) (y3_2 : LL) (y4_0 : ByteArray) (y4_1 : Bool) (y4_2 : LL) : Prop :=
  joinM (evCode env_l03_UnifyMostGeneral (fnAt [1, 1, 1, 1, 0, 1, 0, 1] Try.f6)) ⟨un 2 ((.v (.sl t_Bind) (V.l x2)) :: (.ptr (.loc 3) 0) :: (.ptr (.loc 4) 0) :: .skip :: .undef :: (.v (.sl t_Bind) (x7)) :: (.v .bool (x8)) :: .undef :: sk 5 (un 43 (sk 78 ([])))), dd 3 ((.cells [.v .str (V.s y3_0), .v .bool (V.b y3_1), .v (.sl t_Term) (V.l y3_2)]) :: (.cells [.v .str (V.s y4_0), .v .bool (V.b y4_1), .v (.sl t_Term) (V.l y4_2)]) :: dd 131 ([]))⟩ [] (seqJ env_l03_UnifyMostGeneral (fnAt [1, 1, 1, 1, 1] Try.f6) (endK env_l03_UnifyMostGeneral Try.f6 Q))
@[irreducible] def jp_l03_UnifyMostGeneral_0 (Q : QD) (x2 : LL) (x7 x8 x9 : V) (y3_0 : ByteArray) (y3_1 : Bool) (y3_2 : LL) (y4_0 : ByteArray) (y4_1 : Bool) (y4_2 : LL) : Prop :=
  joinM (evCode env_l03_UnifyMostGeneral (fnAt [1, 1, 1] Try.f6)) ⟨un 2 ((.v (.sl t_Bind) (V.l x2)) :: (.ptr (.loc 3) 0) :: (.ptr (.loc 4) 0) :: .skip :: .undef :: (.v (.sl t_Bind) (x7)) :: (.v .bool (x8)) :: (.v (.int .i64) (x9)) :: sk 5 (un 17 (sk 104 ([])))), dd 3 ((.cells [.v .str (V.s y3_0), .v .bool (V.b y3_1), .v (.sl t_Term) (V.l y3_2)]) :: (.cells [.v .str (V.s y4_0), .v .bool (V.b y4_1), .v (.sl t_Term) (V.l y4_2)]) :: dd 131 ([]))⟩ [] (endK env_l03_UnifyMostGeneral Try.f6 Q)
def st_l03_UnifyMostGeneral_1 (Q : QD) (m1 : Nat) (x2 : LL) (x7 x111 : V) (x112 x113 : Int) : Prop :=
  iff (decide (x113 < x112)) (0 ≤ x113 ∧ x113 < x111.list.length ∧ cl f_r01_Image [.v (.sl t_Bind) (x7), .v .str (((x111.list.getD x113.toNat []).drop 0).headD V.none)] [] fun r1 H2 => r1 = (.agg [.v .str ((r1.cells.headD .undef).V), .v .bool ((r1.cells.tail.headD .undef).V), .v (.sl t_Term) ((r1.cells.tail.tail.headD .undef).V)]) ∧ H2 = [] ∧ cl f_r01_Fits [.v (.sl t_Bind) (V.l x2), .agg [.v .str ((r1.cells.headD .undef).V), .v .bool ((r1.cells.tail.headD .undef).V), .v (.sl t_Term) ((r1.cells.tail.tail.headD .undef).V)]] [] fun r3 H4 => r3 = (.v .bool (r3.V)) ∧ H4 = [] ∧ iff (!r3.V.bool) (True ∧ Q (.v .bool (V.b false)) []) (cl f_r01_Apply [.v (.sl t_Bind) (V.l x2), .agg [.v .str ((r1.cells.headD .undef).V), .v .bool ((r1.cells.tail.headD .undef).V), .v (.sl t_Term) ((r1.cells.tail.tail.headD .undef).V)]] [] fun r5 H6 => r5 = (.agg [.v .str ((r5.cells.headD .undef).V), .v .bool ((r5.cells.tail.headD .undef).V), .v (.sl t_Term) ((r5.cells.tail.tail.headD .undef).V)]) ∧ H6 = [] ∧ cl f_r01_Image [.v (.sl t_Bind) (V.l x2), .v .str (((x111.list.getD x113.toNat []).drop 0).headD V.none)] [] fun r7 H8 => r7 = (.agg [.v .str ((r7.cells.headD .undef).V), .v .bool ((r7.cells.tail.headD .undef).V), .v (.sl t_Term) ((r7.cells.tail.tail.headD .undef).V)]) ∧ H8 = [] ∧ cl f_r01_Equal [.agg [.v .str ((r5.cells.headD .undef).V), .v .bool ((r5.cells.tail.headD .undef).V), .v (.sl t_Term) ((r5.cells.tail.tail.headD .undef).V)], .agg [.v .str ((r7.cells.headD .undef).V), .v .bool ((r7.cells.tail.headD .undef).V), .v (.sl t_Term) ((r7.cells.tail.tail.headD .undef).V)]] [] fun r9 H10 => r9 = (.v .bool (r9.V)) ∧ H10 = [] ∧ iff (!r9.V.bool) (True ∧ Q (.v .bool (V.b false)) []) (lp_l03_UnifyMostGeneral_1 Q m1 x2 x7 x111 x112 (IntKind.i64.wrap (x113 + (1 : Int)))))) (cl f_l03_alive [] [] fun r11 H12 => r11 = (.v .bool (r11.V)) ∧ H12 = [] ∧ True ∧ Q (.v .bool (r11.V)) [])
theorem lp_l03_UnifyMostGeneral_1_s (Q : QD) (m1 : Nat) (x2 : LL) (x7 x111 : V) (x112 x113 : Int) : lp_l03_UnifyMostGeneral_1 Q (m1 + 1) x2 x7 x111 x112 x113 = st_l03_UnifyMostGeneral_1 Q m1 x2 x7 x111 x112 x113 := by kernel_rfl
theorem range_l03_UnifyMostGeneral_1 (Q : QD) (x2 : LL) (x7 x111 : V) (n : Nat) (hb : n ≤ big) (J : Nat → Prop)
    (step : ∀ (k : Nat), k < n → J k → ∀ K : Prop, (J (k + 1) → K) → (0 ≤ (k : Int) ∧ (k : Int) < x111.list.length ∧ cl f_r01_Image [.v (.sl t_Bind) (x7), .v .str (((x111.list.getD k []).drop 0).headD V.none)] [] fun r1 H2 => r1 = (.agg [.v .str ((r1.cells.headD .undef).V), .v .bool ((r1.cells.tail.headD .undef).V), .v (.sl t_Term) ((r1.cells.tail.tail.headD .undef).V)]) ∧ H2 = [] ∧ cl f_r01_Fits [.v (.sl t_Bind) (V.l x2), .agg [.v .str ((r1.cells.headD .undef).V), .v .bool ((r1.cells.tail.headD .undef).V), .v (.sl t_Term) ((r1.cells.tail.tail.headD .undef).V)]] [] fun r3 H4 => r3 = (.v .bool (r3.V)) ∧ H4 = [] ∧ iff (!r3.V.bool) (True ∧ Q (.v .bool (V.b false)) []) (cl f_r01_Apply [.v (.sl t_Bind) (V.l x2), .agg [.v .str ((r1.cells.headD .undef).V), .v .bool ((r1.cells.tail.headD .undef).V), .v (.sl t_Term) ((r1.cells.tail.tail.headD .undef).V)]] [] fun r5 H6 => r5 = (.agg [.v .str ((r5.cells.headD .undef).V), .v .bool ((r5.cells.tail.headD .undef).V), .v (.sl t_Term) ((r5.cells.tail.tail.headD .undef).V)]) ∧ H6 = [] ∧ cl f_r01_Image [.v (.sl t_Bind) (V.l x2), .v .str (((x111.list.getD k []).drop 0).headD V.none)] [] fun r7 H8 => r7 = (.agg [.v .str ((r7.cells.headD .undef).V), .v .bool ((r7.cells.tail.headD .undef).V), .v (.sl t_Term) ((r7.cells.tail.tail.headD .undef).V)]) ∧ H8 = [] ∧ cl f_r01_Equal [.agg [.v .str ((r5.cells.headD .undef).V), .v .bool ((r5.cells.tail.headD .undef).V), .v (.sl t_Term) ((r5.cells.tail.tail.headD .undef).V)], .agg [.v .str ((r7.cells.headD .undef).V), .v .bool ((r7.cells.tail.headD .undef).V), .v (.sl t_Term) ((r7.cells.tail.tail.headD .undef).V)]] [] fun r9 H10 => r9 = (.v .bool (r9.V)) ∧ H10 = [] ∧ iff (!r9.V.bool) (True ∧ Q (.v .bool (V.b false)) []) (K))))
    (last : J n → (cl f_l03_alive [] [] fun r11 H12 => r11 = (.v .bool (r11.V)) ∧ H12 = [] ∧ True ∧ Q (.v .bool (r11.V)) []))
    (k : Nat) (le0 : k ≤ n) (hj : J k) : ∃ m1, lp_l03_UnifyMostGeneral_1 Q m1 x2 x7 x111 (n : Int) ((k : Int)) := by
  exact rangeG0 n hb J (fun m1 i => lp_l03_UnifyMostGeneral_1 Q m1 x2 x7 x111 (n : Int) i) (fun m1 i => lp_l03_UnifyMostGeneral_1_s Q m1 x2 x7 x111 (n : Int) i) (fun k hl_ hj_ m_ ih_ => step k hl_ hj_ _ ih_) last k le0 hj
def je_l03_UnifyMostGeneral_3 (Q : QD) (x2 : LL) (x7 x8 : V) (y3_0 : ByteArray) (y3_1 : Bool) (y3_2 : LL) (y4_0 : ByteArray) (y4_1 : Bool) (y4_2 : LL) : Prop :=
  iff (!x8.bool) (True ∧ Q (.v .bool (V.b false)) []) (cl f_r01_Vars [.v (.sl t_Term) (V.l ([[V.s y3_0, V.b y3_1, V.l y3_2], [V.s y4_0, V.b y4_1, V.l y4_2]]))] [] fun r1 H2 => r1 = (.v (.sl t_string) (r1.V)) ∧ H2 = [] ∧ (r1.V.list.length ≤ big → ∃ m1, lp_l03_UnifyMostGeneral_1 Q m1 x2 x7 r1.V ((r1.V.list.length : Int)) 0))
theorem jp_l03_UnifyMostGeneral_3_s (Q : QD) (x2 : LL) (x7 x8 : V) (y3_0 : ByteArray) (y3_1 : Bool) (y3_2 : LL) (y4_0 : ByteArray) (y4_1 : Bool) (y4_2 : LL) : jp_l03_UnifyMostGeneral_3 Q x2 x7 x8 y3_0 y3_1 y3_2 y4_0 y4_1 y4_2 = je_l03_UnifyMostGeneral_3 Q x2 x7 x8 y3_0 y3_1 y3_2 y4_0 y4_1 y4_2 := by kernel_rfl
def je_l03_UnifyMostGeneral_2 (Q : QD) (x2 : LL) (x7 x8 : V) (y3_0 : ByteArray) (y3_1 : Bool) (y3_2 : LL) (y4_0 : ByteArray) (y4_1 : Bool) (y4_2 : LL) : Prop :=
  (∃ r1 : D, cl f_r01_CheckSubst [.v (.sl t_Bind) (V.l x2)] [] (fun r H' => r = (.v (.int .i64) (r1.V)) ∧ H' = []) ∧ iff (r1.V.int != (0 : Int)) (cl f_l03_alive [] [] fun r2 H3 => r2 = (.v .bool (r2.V)) ∧ H3 = [] ∧ True ∧ Q (.v .bool (r2.V)) []) ((∃ r4 : D, cl f_r01_Fits [.v (.sl t_Bind) (V.l x2), .agg [.v .str (V.s y3_0), .v .bool (V.b y3_1), .v (.sl t_Term) (V.l y3_2)]] [] (fun r H' => r = (.v .bool (r4.V)) ∧ H' = []) ∧ iff (!r4.V.bool) (cl f_l03_alive [] [] fun r5 H6 => r5 = (.v .bool (r5.V)) ∧ H6 = [] ∧ True ∧ Q (.v .bool (r5.V)) []) ((∃ r7 : D, cl f_r01_Fits [.v (.sl t_Bind) (V.l x2), .agg [.v .str (V.s y4_0), .v .bool (V.b y4_1), .v (.sl t_Term) (V.l y4_2)]] [] (fun r H' => r = (.v .bool (r7.V)) ∧ H' = []) ∧ iff (!r7.V.bool) (cl f_l03_alive [] [] fun r8 H9 => r8 = (.v .bool (r8.V)) ∧ H9 = [] ∧ True ∧ Q (.v .bool (r8.V)) []) ((∃ r10 : D, cl f_r01_Apply [.v (.sl t_Bind) (V.l x2), .agg [.v .str (V.s y3_0), .v .bool (V.b y3_1), .v (.sl t_Term) (V.l y3_2)]] [] (fun r H' => r = (.agg [.v .str ((r10.cells.headD .undef).V), .v .bool ((r10.cells.tail.headD .undef).V), .v (.sl t_Term) ((r10.cells.tail.tail.headD .undef).V)]) ∧ H' = []) ∧ cl f_r01_Apply [.v (.sl t_Bind) (V.l x2), .agg [.v .str (V.s y4_0), .v .bool (V.b y4_1), .v (.sl t_Term) (V.l y4_2)]] [] fun r11 H12 => r11 = (.agg [.v .str ((r11.cells.headD .undef).V), .v .bool ((r11.cells.tail.headD .undef).V), .v (.sl t_Term) ((r11.cells.tail.tail.headD .undef).V)]) ∧ H12 = [] ∧ cl f_r01_Equal [.agg [.v .str ((r10.cells.headD .undef).V), .v .bool ((r10.cells.tail.headD .undef).V), .v (.sl t_Term) ((r10.cells.tail.tail.headD .undef).V)], .agg [.v .str ((r11.cells.headD .undef).V), .v .bool ((r11.cells.tail.headD .undef).V), .v (.sl t_Term) ((r11.cells.tail.tail.headD .undef).V)]] [] fun r13 H14 => r13 = (.v .bool (r13.V)) ∧ H14 = [] ∧ iff (!r13.V.bool) (cl f_l03_alive [] [] fun r15 H16 => r15 = (.v .bool (r15.V)) ∧ H16 = [] ∧ True ∧ Q (.v .bool (r15.V)) []) (jp_l03_UnifyMostGeneral_3 Q x2 x7 x8 y3_0 y3_1 y3_2 y4_0 y4_1 y4_2))))))))
theorem jp_l03_UnifyMostGeneral_2_s (Q : QD) (x2 : LL) (x7 x8 : V) (y3_0 : ByteArray) (y3_1 : Bool) (y3_2 : LL) (y4_0 : ByteArray) (y4_1 : Bool) (y4_2 : LL) : jp_l03_UnifyMostGeneral_2 Q x2 x7 x8 y3_0 y3_1 y3_2 y4_0 y4_1 y4_2 = je_l03_UnifyMostGeneral_2 Q x2 x7 x8 y3_0 y3_1 y3_2 y4_0 y4_1 y4_2 := by kernel_rfl
def st_l03_UnifyMostGeneral_0 (Q : QD) (m0 : Nat) (x2 : LL) (x7 x8 x58 : V) (x59 x60 : Int) (y3_0 : ByteArray) (y3_1 : Bool) (y3_2 : LL) (y4_0 : ByteArray) (y4_1 : Bool) (y4_2 : LL) : Prop :=
  iff (decide (x60 < x59)) (0 ≤ x60 ∧ x60 < x58.list.length ∧ (∃ r1 : D, cl f_r01_Fits [.v (.sl t_Bind) (x7), .agg [.v .str ((((x58.list.getD x60.toNat []).drop 0).tail).headD V.none), .v .bool (((((x58.list.getD x60.toNat []).drop 0).tail).tail).headD V.none), .v (.sl t_Term) ((((((x58.list.getD x60.toNat []).drop 0).tail).tail).tail).headD V.none)]] [] (fun r H' => r = (.v .bool (r1.V)) ∧ H' = []) ∧ iff (!r1.V.bool) (True ∧ Q (.v .bool (V.b false)) []) ((∃ r2 : D, cl f_r01_Apply [.v (.sl t_Bind) (x7), .agg [.v .str ((((x58.list.getD x60.toNat []).drop 0).tail).headD V.none), .v .bool (((((x58.list.getD x60.toNat []).drop 0).tail).tail).headD V.none), .v (.sl t_Term) ((((((x58.list.getD x60.toNat []).drop 0).tail).tail).tail).headD V.none)]] [] (fun r H' => r = (.agg [.v .str ((r2.cells.headD .undef).V), .v .bool ((r2.cells.tail.headD .undef).V), .v (.sl t_Term) ((r2.cells.tail.tail.headD .undef).V)]) ∧ H' = []) ∧ cl f_r01_Equal [.agg [.v .str ((r2.cells.headD .undef).V), .v .bool ((r2.cells.tail.headD .undef).V), .v (.sl t_Term) ((r2.cells.tail.tail.headD .undef).V)], .agg [.v .str ((((x58.list.getD x60.toNat []).drop 0).tail).headD V.none), .v .bool (((((x58.list.getD x60.toNat []).drop 0).tail).tail).headD V.none), .v (.sl t_Term) ((((((x58.list.getD x60.toNat []).drop 0).tail).tail).tail).headD V.none)]] [] fun r3 H4 => r3 = (.v .bool (r3.V)) ∧ H4 = [] ∧ iff (!r3.V.bool) (True ∧ Q (.v .bool (V.b false)) []) (lp_l03_UnifyMostGeneral_0 Q m0 x2 x7 x8 x58 x59 (IntKind.i64.wrap (x60 + (1 : Int))) y3_0 y3_1 y3_2 y4_0 y4_1 y4_2))))) (jp_l03_UnifyMostGeneral_2 Q x2 x7 x8 y3_0 y3_1 y3_2 y4_0 y4_1 y4_2)
theorem lp_l03_UnifyMostGeneral_0_s (Q : QD) (m0 : Nat) (x2 : LL) (x7 x8 x58 : V) (x59 x60 : Int) (y3_0 : ByteArray) (y3_1 : Bool) (y3_2 : LL) (y4_0 : ByteArray) (y4_1 : Bool) (y4_2 : LL) : lp_l03_UnifyMostGeneral_0 Q (m0 + 1) x2 x7 x8 x58 x59 x60 y3_0 y3_1 y3_2 y4_0 y4_1 y4_2 = st_l03_UnifyMostGeneral_0 Q m0 x2 x7 x8 x58 x59 x60 y3_0 y3_1 y3_2 y4_0 y4_1 y4_2 := by kernel_rfl
theorem range_l03_UnifyMostGeneral_0 (Q : QD) (x2 : LL) (x7 x8 x58 : V) (y3_0 : ByteArray) (y3_1 : Bool) (y3_2 : LL) (y4_0 : ByteArray) (y4_1 : Bool) (y4_2 : LL) (n : Nat) (hb : n ≤ big) (J : Nat → Prop)
    (step : ∀ (k : Nat), k < n → J k → ∀ K : Prop, (J (k + 1) → K) → (0 ≤ (k : Int) ∧ (k : Int) < x58.list.length ∧ (∃ r1 : D, cl f_r01_Fits [.v (.sl t_Bind) (x7), .agg [.v .str ((((x58.list.getD k []).drop 0).tail).headD V.none), .v .bool (((((x58.list.getD k []).drop 0).tail).tail).headD V.none), .v (.sl t_Term) ((((((x58.list.getD k []).drop 0).tail).tail).tail).headD V.none)]] [] (fun r H' => r = (.v .bool (r1.V)) ∧ H' = []) ∧ iff (!r1.V.bool) (True ∧ Q (.v .bool (V.b false)) []) ((∃ r2 : D, cl f_r01_Apply [.v (.sl t_Bind) (x7), .agg [.v .str ((((x58.list.getD k []).drop 0).tail).headD V.none), .v .bool (((((x58.list.getD k []).drop 0).tail).tail).headD V.none), .v (.sl t_Term) ((((((x58.list.getD k []).drop 0).tail).tail).tail).headD V.none)]] [] (fun r H' => r = (.agg [.v .str ((r2.cells.headD .undef).V), .v .bool ((r2.cells.tail.headD .undef).V), .v (.sl t_Term) ((r2.cells.tail.tail.headD .undef).V)]) ∧ H' = []) ∧ cl f_r01_Equal [.agg [.v .str ((r2.cells.headD .undef).V), .v .bool ((r2.cells.tail.headD .undef).V), .v (.sl t_Term) ((r2.cells.tail.tail.headD .undef).V)], .agg [.v .str ((((x58.list.getD k []).drop 0).tail).headD V.none), .v .bool (((((x58.list.getD k []).drop 0).tail).tail).headD V.none), .v (.sl t_Term) ((((((x58.list.getD k []).drop 0).tail).tail).tail).headD V.none)]] [] fun r3 H4 => r3 = (.v .bool (r3.V)) ∧ H4 = [] ∧ iff (!r3.V.bool) (True ∧ Q (.v .bool (V.b false)) []) (K))))))
    (last : J n → (jp_l03_UnifyMostGeneral_2 Q x2 x7 x8 y3_0 y3_1 y3_2 y4_0 y4_1 y4_2))
    (k : Nat) (le0 : k ≤ n) (hj : J k) : ∃ m0, lp_l03_UnifyMostGeneral_0 Q m0 x2 x7 x8 x58 (n : Int) ((k : Int)) y3_0 y3_1 y3_2 y4_0 y4_1 y4_2 := by
  exact rangeG0 n hb J (fun m0 i => lp_l03_UnifyMostGeneral_0 Q m0 x2 x7 x8 x58 (n : Int) i y3_0 y3_1 y3_2 y4_0 y4_1 y4_2) (fun m0 i => lp_l03_UnifyMostGeneral_0_s Q m0 x2 x7 x8 x58 (n : Int) i y3_0 y3_1 y3_2 y4_0 y4_1 y4_2) (fun k hl_ hj_ m_ ih_ => step k hl_ hj_ _ ih_) last k le0 hj
def je_l03_UnifyMostGeneral_1 (Q : QD) (x2 : LL) (x7 x8 : V) (y3_0 : ByteArray) (y3_1 : Bool) (y3_2 : LL) (y4_0 : ByteArray) (y4_1 : Bool) (y4_2 : LL) : Prop :=
  (x7.list.length ≤ big → ∃ m0, lp_l03_UnifyMostGeneral_0 Q m0 x2 x7 x8 x7 ((x7.list.length : Int)) 0 y3_0 y3_1 y3_2 y4_0 y4_1 y4_2)
theorem jp_l03_UnifyMostGeneral_1_s (Q : QD) (x2 : LL) (x7 x8 : V) (y3_0 : ByteArray) (y3_1 : Bool) (y3_2 : LL) (y4_0 : ByteArray) (y4_1 : Bool) (y4_2 : LL) : jp_l03_UnifyMostGeneral_1 Q x2 x7 x8 y3_0 y3_1 y3_2 y4_0 y4_1 y4_2 = je_l03_UnifyMostGeneral_1 Q x2 x7 x8 y3_0 y3_1 y3_2 y4_0 y4_1 y4_2 := by kernel_rfl
def je_l03_UnifyMostGeneral_0 (Q : QD) (x2 : LL) (x7 x8 x9 : V) (y3_0 : ByteArray) (y3_1 : Bool) (y3_2 : LL) (y4_0 : ByteArray) (y4_1 : Bool) (y4_2 : LL) : Prop :=
  iff (x9.int != (0 : Int)) (True ∧ Q (.v .bool (V.b false)) []) (iff x8.bool ((∃ r1 : D, cl f_r01_CheckSubst [.v (.sl t_Bind) (x7)] [] (fun r H' => r = (.v (.int .i64) (r1.V)) ∧ H' = []) ∧ iff (r1.V.int != (0 : Int)) (True ∧ Q (.v .bool (V.b false)) []) ((∃ r2 : D, cl f_r01_Fits [.v (.sl t_Bind) (x7), .agg [.v .str (V.s y3_0), .v .bool (V.b y3_1), .v (.sl t_Term) (V.l y3_2)]] [] (fun r H' => r = (.v .bool (r2.V)) ∧ H' = []) ∧ iff r2.V.bool ((∃ r3 : D, cl f_r01_Fits [.v (.sl t_Bind) (x7), .agg [.v .str (V.s y4_0), .v .bool (V.b y4_1), .v (.sl t_Term) (V.l y4_2)]] [] (fun r H' => r = (.v .bool (r3.V)) ∧ H' = []) ∧ iff r3.V.bool ((∃ r4 : D, cl f_r01_Apply [.v (.sl t_Bind) (x7), .agg [.v .str (V.s y3_0), .v .bool (V.b y3_1), .v (.sl t_Term) (V.l y3_2)]] [] (fun r H' => r = (.agg [.v .str ((r4.cells.headD .undef).V), .v .bool ((r4.cells.tail.headD .undef).V), .v (.sl t_Term) ((r4.cells.tail.tail.headD .undef).V)]) ∧ H' = []) ∧ cl f_r01_Apply [.v (.sl t_Bind) (x7), .agg [.v .str (V.s y4_0), .v .bool (V.b y4_1), .v (.sl t_Term) (V.l y4_2)]] [] fun r5 H6 => r5 = (.agg [.v .str ((r5.cells.headD .undef).V), .v .bool ((r5.cells.tail.headD .undef).V), .v (.sl t_Term) ((r5.cells.tail.tail.headD .undef).V)]) ∧ H6 = [] ∧ cl f_r01_Equal [.agg [.v .str ((r4.cells.headD .undef).V), .v .bool ((r4.cells.tail.headD .undef).V), .v (.sl t_Term) ((r4.cells.tail.tail.headD .undef).V)], .agg [.v .str ((r5.cells.headD .undef).V), .v .bool ((r5.cells.tail.headD .undef).V), .v (.sl t_Term) ((r5.cells.tail.tail.headD .undef).V)]] [] fun r7 H8 => r7 = (.v .bool (r7.V)) ∧ H8 = [] ∧ iff (!r7.V.bool) (True ∧ Q (.v .bool (V.b false)) []) (jp_l03_UnifyMostGeneral_1 Q x2 x7 x8 y3_0 y3_1 y3_2 y4_0 y4_1 y4_2))) (jp_l03_UnifyMostGeneral_1 Q x2 x7 x8 y3_0 y3_1 y3_2 y4_0 y4_1 y4_2))) (jp_l03_UnifyMostGeneral_1 Q x2 x7 x8 y3_0 y3_1 y3_2 y4_0 y4_1 y4_2))))) (jp_l03_UnifyMostGeneral_2 Q x2 x7 x8 y3_0 y3_1 y3_2 y4_0 y4_1 y4_2))
theorem jp_l03_UnifyMostGeneral_0_s (Q : QD) (x2 : LL) (x7 x8 x9 : V) (y3_0 : ByteArray) (y3_1 : Bool) (y3_2 : LL) (y4_0 : ByteArray) (y4_1 : Bool) (y4_2 : LL) : jp_l03_UnifyMostGeneral_0 Q x2 x7 x8 x9 y3_0 y3_1 y3_2 y4_0 y4_1 y4_2 = je_l03_UnifyMostGeneral_0 Q x2 x7 x8 x9 y3_0 y3_1 y3_2 y4_0 y4_1 y4_2 := by kernel_rfl
def vc_l03_UnifyMostGeneral (a0_0 : ByteArray) (a0_1 : Bool) (a0_2 : LL) (a1_0 : ByteArray) (a1_1 : Bool) (a1_2 a2 : LL) (Q : QD) : Prop :=
  cl f_unify_Unify [.agg [.v .str (V.s a0_0), .v .bool (V.b a0_1), .v (.sl t_Term) (V.l a0_2)], .agg [.v .str (V.s a1_0), .v .bool (V.b a1_1), .v (.sl t_Term) (V.l a1_2)]] [] fun r1 H2 => r1 = (.tup [.v (.sl t_Bind) ((r1.parts.headD .undef).V), .v .bool ((r1.parts.tail.headD .undef).V), .v (.int .i64) ((r1.parts.tail.tail.headD .undef).V)]) ∧ H2 = [] ∧ cl f_r01_CheckAll [.v (.sl t_Term) (V.l ([[V.s a0_0, V.b a0_1, V.l a0_2], [V.s a1_0, V.b a1_1, V.l a1_2]]))] [] fun r3 H4 => r3 = (.v (.int .i64) (r3.V)) ∧ H4 = [] ∧ iff (r3.V.int != (0 : Int)) (cl f_l03_alive [] [] fun r5 H6 => r5 = (.v .bool (r5.V)) ∧ H6 = [] ∧ True ∧ Q (.v .bool (r5.V)) []) (iff ((((r1.parts.tail.tail.headD .undef).V).int) == (3 : Int)) (cl f_l03_alive [] [] fun r7 H8 => r7 = (.v .bool (r7.V)) ∧ H8 = [] ∧ True ∧ Q (.v .bool (r7.V)) []) (jp_l03_UnifyMostGeneral_0 Q a2 ((r1.parts.headD .undef).V) ((r1.parts.tail.headD .undef).V) ((r1.parts.tail.tail.headD .undef).V) a0_0 a0_1 a0_2 a1_0 a1_1 a1_2))
theorem C_l03_UnifyMostGeneral (a0_0 : ByteArray) (a0_1 : Bool) (a0_2 : LL) (a1_0 : ByteArray) (a1_1 : Bool) (a1_2 a2 : LL) (Q : QD) (h : vc_l03_UnifyMostGeneral a0_0 a0_1 a0_2 a1_0 a1_1 a1_2 a2 Q) : cl f_l03_UnifyMostGeneral [.agg [.v .str (V.s a0_0), .v .bool (V.b a0_1), .v (.sl t_Term) (V.l a0_2)], .agg [.v .str (V.s a1_0), .v .bool (V.b a1_1), .v (.sl t_Term) (V.l a1_2)], .v (.sl t_Bind) (V.l a2)] [] Q :=
  acalls2 (E := env_l03_UnifyMostGeneral) (envOk _ _ _ _ _) 0 Try.func6 (by kernel_rfl) h
def env_l03_UnifySymmetric : Env := envA [(3000007, ua 0 2 (ua 3 2 (ua 9 21 (ua 39 8 ([.dead 3])))))] [(9, 20, [], [])] [] [] [7]
@[irreducible] def jp_l03_UnifySymmetric_0 (Q : QD) (x5 x6 x7 x8 : V) (y2_0 : ByteArray) (y2_1 : Bool) (y2_2 : LL) : Prop :=
  joinM (evCode env_l03_UnifySymmetric (fnAt [1, 1, 1, 1, 1] Try.f7)) ⟨un 2 ((.ptr (.loc 2) 0) :: un 2 ((.v (.sl t_Bind) (x5)) :: (.v .bool (x6)) :: (.v (.int .i64) (x7)) :: (.v (.sl t_Bind) (x8)) :: un 21 (sk 9 (un 8 (sk 33 ([])))))), dd 2 ((.cells [.v .str (V.s y2_0), .v .bool (V.b y2_1), .v (.sl t_Term) (V.l y2_2)]) :: dd 77 ([]))⟩ [] (endK env_l03_UnifySymmetric Try.f7 Q)
def je_l03_UnifySymmetric_0 (Q : QD) (x5 x6 x7 x8 : V) (y2_0 : ByteArray) (y2_1 : Bool) (y2_2 : LL) : Prop :=
  iff (x7.int != (0 : Int)) (iff (x7.int == (3 : Int)) (cl f_l03_alive [] [] fun r1 H2 => r1 = (.v .bool (r1.V)) ∧ H2 = [] ∧ True ∧ Q (.v .bool (r1.V)) []) (True ∧ Q (.v .bool (V.b false)) [])) (iff (!x6.bool) (cl f_l03_alive [] [] fun r3 H4 => r3 = (.v .bool (r3.V)) ∧ H4 = [] ∧ True ∧ Q (.v .bool (r3.V)) []) ((∃ r5 : D, cl f_r01_Fits [.v (.sl t_Bind) (x5), .agg [.v .str (V.s y2_0), .v .bool (V.b y2_1), .v (.sl t_Term) (V.l y2_2)]] [] (fun r H' => r = (.v .bool (r5.V)) ∧ H' = []) ∧ iff (!r5.V.bool) (cl f_l03_alive [] [] fun r6 H7 => r6 = (.v .bool (r6.V)) ∧ H7 = [] ∧ True ∧ Q (.v .bool (r6.V)) []) ((∃ r8 : D, cl f_r01_Fits [.v (.sl t_Bind) (x8), .agg [.v .str (V.s y2_0), .v .bool (V.b y2_1), .v (.sl t_Term) (V.l y2_2)]] [] (fun r H' => r = (.v .bool (r8.V)) ∧ H' = []) ∧ iff (!r8.V.bool) (cl f_l03_alive [] [] fun r9 H10 => r9 = (.v .bool (r9.V)) ∧ H10 = [] ∧ True ∧ Q (.v .bool (r9.V)) []) ((∃ r11 : D, cl f_r01_Apply [.v (.sl t_Bind) (x5), .agg [.v .str (V.s y2_0), .v .bool (V.b y2_1), .v (.sl t_Term) (V.l y2_2)]] [] (fun r H' => r = (.agg [.v .str ((r11.cells.headD .undef).V), .v .bool ((r11.cells.tail.headD .undef).V), .v (.sl t_Term) ((r11.cells.tail.tail.headD .undef).V)]) ∧ H' = []) ∧ cl f_r01_Apply [.v (.sl t_Bind) (x8), .agg [.v .str (V.s y2_0), .v .bool (V.b y2_1), .v (.sl t_Term) (V.l y2_2)]] [] fun r12 H13 => r12 = (.agg [.v .str ((r12.cells.headD .undef).V), .v .bool ((r12.cells.tail.headD .undef).V), .v (.sl t_Term) ((r12.cells.tail.tail.headD .undef).V)]) ∧ H13 = [] ∧ cl f_r03_Variant [.agg [.v .str ((r11.cells.headD .undef).V), .v .bool ((r11.cells.tail.headD .undef).V), .v (.sl t_Term) ((r11.cells.tail.tail.headD .undef).V)], .agg [.v .str ((r12.cells.headD .undef).V), .v .bool ((r12.cells.tail.headD .undef).V), .v (.sl t_Term) ((r12.cells.tail.tail.headD .undef).V)]] [] fun r14 H15 => r14 = (.v .bool (r14.V)) ∧ H15 = [] ∧ iff r14.V.bool (cl f_l03_alive [] [] fun r16 H17 => r16 = (.v .bool (r16.V)) ∧ H17 = [] ∧ True ∧ Q (.v .bool (r16.V)) []) (True ∧ Q (.v .bool (V.b false)) []))))))))
theorem jp_l03_UnifySymmetric_0_s (Q : QD) (x5 x6 x7 x8 : V) (y2_0 : ByteArray) (y2_1 : Bool) (y2_2 : LL) : jp_l03_UnifySymmetric_0 Q x5 x6 x7 x8 y2_0 y2_1 y2_2 = je_l03_UnifySymmetric_0 Q x5 x6 x7 x8 y2_0 y2_1 y2_2 := by kernel_rfl
def vc_l03_UnifySymmetric (a0_0 : ByteArray) (a0_1 : Bool) (a0_2 : LL) (a1_0 : ByteArray) (a1_1 : Bool) (a1_2 : LL) (Q : QD) : Prop :=
  cl f_unify_Unify [.agg [.v .str (V.s a0_0), .v .bool (V.b a0_1), .v (.sl t_Term) (V.l a0_2)], .agg [.v .str (V.s a1_0), .v .bool (V.b a1_1), .v (.sl t_Term) (V.l a1_2)]] [] fun r1 H2 => r1 = (.tup [.v (.sl t_Bind) ((r1.parts.headD .undef).V), .v .bool ((r1.parts.tail.headD .undef).V), .v (.int .i64) ((r1.parts.tail.tail.headD .undef).V)]) ∧ H2 = [] ∧ cl f_unify_Unify [.agg [.v .str (V.s a1_0), .v .bool (V.b a1_1), .v (.sl t_Term) (V.l a1_2)], .agg [.v .str (V.s a0_0), .v .bool (V.b a0_1), .v (.sl t_Term) (V.l a0_2)]] [] fun r3 H4 => r3 = (.tup [.v (.sl t_Bind) ((r3.parts.headD .undef).V), .v .bool ((r3.parts.tail.headD .undef).V), .v (.int .i64) ((r3.parts.tail.tail.headD .undef).V)]) ∧ H4 = [] ∧ cl f_r01_CheckAll [.v (.sl t_Term) (V.l ([[V.s a0_0, V.b a0_1, V.l a0_2], [V.s a1_0, V.b a1_1, V.l a1_2]]))] [] fun r5 H6 => r5 = (.v (.int .i64) (r5.V)) ∧ H6 = [] ∧ iff (r5.V.int != (0 : Int)) (iff ((((r1.parts.tail.tail.headD .undef).V).int) != (0 : Int)) (iff ((((r3.parts.tail.tail.headD .undef).V).int) != (0 : Int)) (cl f_l03_alive [] [] fun r7 H8 => r7 = (.v .bool (r7.V)) ∧ H8 = [] ∧ True ∧ Q (.v .bool (r7.V)) []) (True ∧ Q (.v .bool (V.b false)) [])) (True ∧ Q (.v .bool (V.b false)) [])) (iff ((((r1.parts.tail.tail.headD .undef).V).int) != (((r3.parts.tail.tail.headD .undef).V).int)) (True ∧ Q (.v .bool (V.b false)) []) (iff (!((((r1.parts.tail.headD .undef).V).bool) == (((r3.parts.tail.headD .undef).V).bool))) (True ∧ Q (.v .bool (V.b false)) []) (jp_l03_UnifySymmetric_0 Q ((r1.parts.headD .undef).V) ((r1.parts.tail.headD .undef).V) ((r1.parts.tail.tail.headD .undef).V) ((r3.parts.headD .undef).V) a0_0 a0_1 a0_2)))
theorem C_l03_UnifySymmetric (a0_0 : ByteArray) (a0_1 : Bool) (a0_2 : LL) (a1_0 : ByteArray) (a1_1 : Bool) (a1_2 : LL) (Q : QD) (h : vc_l03_UnifySymmetric a0_0 a0_1 a0_2 a1_0 a1_1 a1_2 Q) : cl f_l03_UnifySymmetric [.agg [.v .str (V.s a0_0), .v .bool (V.b a0_1), .v (.sl t_Term) (V.l a0_2)], .agg [.v .str (V.s a1_0), .v .bool (V.b a1_1), .v (.sl t_Term) (V.l a1_2)]] [] Q :=
  acalls2 (E := env_l03_UnifySymmetric) (envOk _ _ _ _ _) 0 Try.func7 (by kernel_rfl) h
def env_unify_Match : Env := envA [(9, ua 0 10 (ua 12 7 (ua 20 8 (ua 31 13 (da 2 2 ((.dead 12) :: (.dead 39) :: da 41 2 ([.ownT 10 45 t_Bind])))))))] [(11, 6, [0], [])] [] [] []
def kl_unify_Match_0 (Q : QD) : Post := blockK 0 (seqJ env_unify_Match (fnAt [1, 1, 1, 1, 1, 1] Try.f8) (endK env_unify_Match Try.f8 Q))
@[irreducible] def lp_unify_Match_0 (Q : QD) (m0 : Nat) (x10n : Nat) (x28 : V) (x29 x30 : Int) (y45 : LL) : Prop :=
  iter (adj (env_unify_Match.adj 9)) (evCode env_unify_Match (fnAt [1, 1, 1, 1, 1, 0, 1, 0, 0] Try.f8)) (kl_unify_Match_0 Q) m0 ⟨un 10 ((.osl (.loc 45) x10n) :: .skip :: un 7 (.skip :: un 8 ((.v (.sl t_Bind) (x28)) :: (.v (.int .i64) (V.i x29)) :: (.v (.int .i64) (V.i x30)) :: un 13 ([.skip])))), dd 45 ([.row t_Bind y45])⟩ []
def st_unify_Match_0 (Q : QD) (m0 : Nat) (x10n : Nat) (x28 : V) (x29 x30 : Int) (y45 : LL) : Prop :=
  iff (decide (x30 < x29)) (0 ≤ x30 ∧ x30 < x28.list.length ∧ (∃ r1 : D, cl f_term_Own [.agg [.v .str ((((x28.list.getD x30.toNat []).drop 0).tail).headD V.none), .v .bool (((((x28.list.getD x30.toNat []).drop 0).tail).tail).headD V.none), .v (.sl t_Term) ((((((x28.list.getD x30.toNat []).drop 0).tail).tail).tail).headD V.none)]] [] (fun r H' => r = (.agg [.v .str ((r1.cells.headD .undef).V), .v .bool ((r1.cells.tail.headD .undef).V), .v (.sl t_Term) ((r1.cells.tail.tail.headD .undef).V)]) ∧ H' = []) ∧ y45.length = x10n ∧ x10n + ([[((x28.list.getD x30.toNat []).drop 0).headD V.none, (r1.cells.headD .undef).V, (r1.cells.tail.headD .undef).V, (r1.cells.tail.tail.headD .undef).V]]).length ≤ lim ∧ lp_unify_Match_0 Q m0 (x10n + ([[((x28.list.getD x30.toNat []).drop 0).headD V.none, (r1.cells.headD .undef).V, (r1.cells.tail.headD .undef).V, (r1.cells.tail.tail.headD .undef).V]]).length) x28 x29 (IntKind.i64.wrap (x30 + (1 : Int))) (y45 ++ ([[((x28.list.getD x30.toNat []).drop 0).headD V.none, (r1.cells.headD .undef).V, (r1.cells.tail.headD .undef).V, (r1.cells.tail.tail.headD .undef).V]])))) (((x10n = y45.length) ∧ True ∧ True ∧ True) ∧ Q (.tup [.v (.sl t_Bind) (V.l y45), .v .bool (V.b true), .v (.int .i64) (V.i 0)]) [])
theorem lp_unify_Match_0_s (Q : QD) (m0 : Nat) (x10n : Nat) (x28 : V) (x29 x30 : Int) (y45 : LL) : lp_unify_Match_0 Q (m0 + 1) x10n x28 x29 x30 y45 = st_unify_Match_0 Q m0 x10n x28 x29 x30 y45 := by kernel_rfl
theorem range_unify_Match_0 (Q : QD) (x28 : V) (n : Nat) (hb : n ≤ big) (J : Nat → Nat → LL → Prop)
    (step : ∀ (k : Nat) (x10n : Nat) (y45 : LL), k < n → J k x10n y45 → ∀ K : Nat → LL → Prop, (∀ (x10n' : Nat) (y45' : LL), J (k + 1) x10n' y45' → K x10n' y45') → (0 ≤ (k : Int) ∧ (k : Int) < x28.list.length ∧ (∃ r1 : D, cl f_term_Own [.agg [.v .str ((((x28.list.getD k []).drop 0).tail).headD V.none), .v .bool (((((x28.list.getD k []).drop 0).tail).tail).headD V.none), .v (.sl t_Term) ((((((x28.list.getD k []).drop 0).tail).tail).tail).headD V.none)]] [] (fun r H' => r = (.agg [.v .str ((r1.cells.headD .undef).V), .v .bool ((r1.cells.tail.headD .undef).V), .v (.sl t_Term) ((r1.cells.tail.tail.headD .undef).V)]) ∧ H' = []) ∧ y45.length = x10n ∧ x10n + ([[((x28.list.getD k []).drop 0).headD V.none, (r1.cells.headD .undef).V, (r1.cells.tail.headD .undef).V, (r1.cells.tail.tail.headD .undef).V]]).length ≤ lim ∧ K (x10n + ([[((x28.list.getD k []).drop 0).headD V.none, (r1.cells.headD .undef).V, (r1.cells.tail.headD .undef).V, (r1.cells.tail.tail.headD .undef).V]]).length) (y45 ++ ([[((x28.list.getD k []).drop 0).headD V.none, (r1.cells.headD .undef).V, (r1.cells.tail.headD .undef).V, (r1.cells.tail.tail.headD .undef).V]])))))
    (last : ∀ (x10n : Nat) (y45 : LL), J n x10n y45 → (((x10n = y45.length) ∧ True ∧ True ∧ True) ∧ Q (.tup [.v (.sl t_Bind) (V.l y45), .v .bool (V.b true), .v (.int .i64) (V.i 0)]) []))
    (k : Nat) (x10n : Nat) (y45 : LL) (le0 : k ≤ n) (hj : J k x10n y45) : ∃ m0, lp_unify_Match_0 Q m0 x10n x28 (n : Int) ((k : Int)) y45 := by
  exact rangeG2 n hb J (fun m0 i x10n y45 => lp_unify_Match_0 Q m0 x10n x28 (n : Int) i y45) (fun m0 i x10n y45 => lp_unify_Match_0_s Q m0 x10n x28 (n : Int) i y45) (fun k x10n y45 hl_ hj_ m_ ih_ => step k x10n y45 hl_ hj_ _ ih_) last k x10n y45 le0 hj
def vc_unify_Match (a0_0 : ByteArray) (a0_1 : Bool) (a0_2 : LL) (a1_0 : ByteArray) (a1_1 : Bool) (a1_2 : LL) (Q : QD) : Prop :=
  cl f_term_All [.v (.sl t_Term) (V.l ([[V.s a0_0, V.b a0_1, V.l a0_2], [V.s a1_0, V.b a1_1, V.l a1_2]]))] [] fun r1 H2 => r1 = (.v (.int .i64) (r1.V)) ∧ H2 = [] ∧ iff (r1.V.int != (0 : Int)) ((True ∧ True ∧ True ∧ True) ∧ Q (.tup [.nil, .v .bool (V.b false), .v (.int .i64) (r1.V)]) []) (cl f_unify_Find [.agg [.v .str (V.s a0_0), .v .bool (V.b a0_1), .v (.sl t_Term) (V.l a0_2)], .agg [.v .str (V.s a1_0), .v .bool (V.b a1_1), .v (.sl t_Term) (V.l a1_2)]] [] fun r3 H4 => r3 = (.tup [.v (.sl t_Bind) ((r3.parts.headD .undef).V), .v .bool ((r3.parts.tail.headD .undef).V)]) ∧ H4 = [] ∧ iff (!(((r3.parts.tail.headD .undef).V).bool)) ((True ∧ True ∧ True ∧ True) ∧ Q (.tup [.nil, .v .bool (V.b false), .v (.int .i64) (V.i 0)]) []) (((((r3.parts.headD .undef).V).list).length ≤ big → ∃ m0, lp_unify_Match_0 Q m0 0 ((r3.parts.headD .undef).V) (((((r3.parts.headD .undef).V).list).length : Int)) 0 (([] : List (List V))))))
theorem C_unify_Match (a0_0 : ByteArray) (a0_1 : Bool) (a0_2 : LL) (a1_0 : ByteArray) (a1_1 : Bool) (a1_2 : LL) (Q : QD) (h : vc_unify_Match a0_0 a0_1 a0_2 a1_0 a1_1 a1_2 Q) : cl f_unify_Match [.agg [.v .str (V.s a0_0), .v .bool (V.b a0_1), .v (.sl t_Term) (V.l a0_2)], .agg [.v .str (V.s a1_0), .v .bool (V.b a1_1), .v (.sl t_Term) (V.l a1_2)]] [] Q :=
  acalls2 (E := env_unify_Match) (envOk _ _ _ _ _) 1 Try.func8 (by kernel_rfl) h
def env_r01_CheckAll : Env := envA [(2, (.undef 0) :: (.undef 2) :: ua 4 2 (ua 9 9 ([.dead 4, .dead 13])))] [] [] [] []
def kl_r01_CheckAll_0 (Q : QD) : Post := blockK 0 (seqJ env_r01_CheckAll (fnAt [1, 1] Try.f9) (endK env_r01_CheckAll Try.f9 Q))
@[irreducible] def lp_r01_CheckAll_0 (Q : QD) (m0 : Nat) (x6 : LL) (x7 x8 : Int) : Prop :=
  iter (adj (env_r01_CheckAll.adj 2)) (evCode env_r01_CheckAll (fnAt [1, 0, 1, 0, 0] Try.f9)) (kl_r01_CheckAll_0 Q) m0 ⟨.undef :: .skip :: .undef :: .skip :: un 2 ((.v (.sl t_Term) (V.l x6)) :: (.v (.int .i64) (V.i x7)) :: (.v (.int .i64) (V.i x8)) :: un 9 ([])), dd 18 ([])⟩ []
def st_r01_CheckAll_0 (Q : QD) (m0 : Nat) (x6 : LL) (x7 x8 : Int) : Prop :=
  iff (decide (x8 < x7)) (0 ≤ x8 ∧ x8 < x6.length ∧ cl f_r01_Check [.agg [.v .str (((x6.getD x8.toNat []).drop 0).headD V.none), .v .bool ((((x6.getD x8.toNat []).drop 0).tail).headD V.none), .v (.sl t_Term) (((((x6.getD x8.toNat []).drop 0).tail).tail).headD V.none)]] [] fun r1 H2 => r1 = (.v (.int .i64) (r1.V)) ∧ H2 = [] ∧ iff (r1.V.int != (0 : Int)) (True ∧ Q (.v (.int .i64) (r1.V)) []) (lp_r01_CheckAll_0 Q m0 x6 x7 (IntKind.i64.wrap (x8 + (1 : Int))))) (True ∧ Q (.v (.int .i64) (V.i 0)) [])
theorem lp_r01_CheckAll_0_s (Q : QD) (m0 : Nat) (x6 : LL) (x7 x8 : Int) : lp_r01_CheckAll_0 Q (m0 + 1) x6 x7 x8 = st_r01_CheckAll_0 Q m0 x6 x7 x8 := by kernel_rfl
theorem range_r01_CheckAll_0 (Q : QD) (x6 : LL) (n : Nat) (hb : n ≤ big) (J : Nat → Prop)
    (step : ∀ (k : Nat), k < n → J k → ∀ K : Prop, (J (k + 1) → K) → (0 ≤ (k : Int) ∧ (k : Int) < x6.length ∧ cl f_r01_Check [.agg [.v .str (((x6.getD k []).drop 0).headD V.none), .v .bool ((((x6.getD k []).drop 0).tail).headD V.none), .v (.sl t_Term) (((((x6.getD k []).drop 0).tail).tail).headD V.none)]] [] fun r1 H2 => r1 = (.v (.int .i64) (r1.V)) ∧ H2 = [] ∧ iff (r1.V.int != (0 : Int)) (True ∧ Q (.v (.int .i64) (r1.V)) []) (K)))
    (last : J n → (True ∧ Q (.v (.int .i64) (V.i 0)) []))
    (k : Nat) (le0 : k ≤ n) (hj : J k) : ∃ m0, lp_r01_CheckAll_0 Q m0 x6 (n : Int) ((k : Int)) := by
  exact rangeG0 n hb J (fun m0 i => lp_r01_CheckAll_0 Q m0 x6 (n : Int) i) (fun m0 i => lp_r01_CheckAll_0_s Q m0 x6 (n : Int) i) (fun k hl_ hj_ m_ ih_ => step k hl_ hj_ _ ih_) last k le0 hj
def vc_r01_CheckAll (a0 : LL) (Q : QD) : Prop :=
  (a0.length ≤ big → ∃ m0, lp_r01_CheckAll_0 Q m0 a0 ((a0.length : Int)) 0)
theorem C_r01_CheckAll (a0 : LL) (Q : QD) (h : vc_r01_CheckAll a0 Q) : cl f_r01_CheckAll [.v (.sl t_Term) (V.l a0)] [] Q :=
  acalls2 (E := env_r01_CheckAll) (envOk _ _ _ _ _) 0 Try.func9 (by kernel_rfl) h
def env_l03_is : Env := envA [(3000002, (.undef 4) :: ua 12 6 ([]))] [] [] [] [2]
@[irreducible] def jp_l03_is_0 (Q : QD) (x0 : LL) (x1 : Bool) (x2 : Int) (x3 : LL) (x5 : Int) (x18 : Bool) : Prop :=
  joinM (evCode env_l03_is (fnAt [1, 0, 1] Try.f10)) ⟨(.v (.sl t_Bind) (V.l x0)) :: (.v .bool (V.b x1)) :: (.v (.int .i64) (V.i x2)) :: (.v (.sl t_Bind) (V.l x3)) :: .undef :: (.v (.int .i64) (V.i x5)) :: sk 6 (un 6 ((.v .bool (V.b x18)) :: sk 22 ([]))), dd 41 ([])⟩ [] (seqJ env_l03_is (fnAt [1, 1] Try.f10) (endK env_l03_is Try.f10 Q))
def je_l03_is_0 (Q : QD) (x0 : LL) (x1 : Bool) (x2 : Int) (x3 : LL) (x5 : Int) (x18 : Bool) : Prop :=
  iff x18 (iff (!x1) (iff (x2 == x5) ((x0.length ≤ big → True ∧ Q (.v .bool (V.b (((x0.length : Int)) == (0 : Int)))) [])) (True ∧ Q (.v .bool (V.b false)) [])) (True ∧ Q (.v .bool (V.b false)) [])) (iff x1 (iff (x2 == (0 : Int)) (cl f_r01_SameSubst [.v (.sl t_Bind) (V.l x0), .v (.sl t_Bind) (V.l x3)] [] fun r1 H2 => r1 = (.v .bool (r1.V)) ∧ H2 = [] ∧ True ∧ Q (.v .bool (r1.V)) []) (True ∧ Q (.v .bool (V.b false)) [])) (True ∧ Q (.v .bool (V.b false)) []))
theorem jp_l03_is_0_s (Q : QD) (x0 : LL) (x1 : Bool) (x2 : Int) (x3 : LL) (x5 : Int) (x18 : Bool) : jp_l03_is_0 Q x0 x1 x2 x3 x5 x18 = je_l03_is_0 Q x0 x1 x2 x3 x5 x18 := by kernel_rfl
def vc_l03_is (a0 : LL) (a1 : Bool) (a2 : Int) (a3 : LL) (a4 : Bool) (a5 : Int) (Q : QD) : Prop :=
  iff (a5 != (0 : Int)) (jp_l03_is_0 Q a0 a1 a2 a3 a5 true) (jp_l03_is_0 Q a0 a1 a2 a3 a5 (!a4))
theorem C_l03_is (a0 : LL) (a1 : Bool) (a2 : Int) (a3 : LL) (a4 : Bool) (a5 : Int) (Q : QD) (h : vc_l03_is a0 a1 a2 a3 a4 a5 Q) : cl f_l03_is [.v (.sl t_Bind) (V.l a0), .v .bool (V.b a1), .v (.int .i64) (V.i a2), .v (.sl t_Bind) (V.l a3), .v .bool (V.b a4), .v (.int .i64) (V.i a5)] [] Q :=
  acalls2 (E := env_l03_is) (envOk _ _ _ _ _) 0 Try.func10 (by kernel_rfl) h
def env_l03_alive : Env := envA [] [] [] [] []
def vc_l03_alive (Q : QD) : Prop :=
  cl f_l03_variable [.v .str (V.s (ByteArray.mk #[120]))] [] fun r1 H2 => r1 = (.agg [.v .str ((r1.cells.headD .undef).V), .v .bool ((r1.cells.tail.headD .undef).V), .v (.sl t_Term) ((r1.cells.tail.tail.headD .undef).V)]) ∧ H2 = [] ∧ cl f_l03_variable [.v .str (V.s (ByteArray.mk #[121]))] [] fun r3 H4 => r3 = (.agg [.v .str ((r3.cells.headD .undef).V), .v .bool ((r3.cells.tail.headD .undef).V), .v (.sl t_Term) ((r3.cells.tail.tail.headD .undef).V)]) ∧ H4 = [] ∧ cl f_l03_symbol [.v .str (V.s (ByteArray.mk #[103])), .v (.sl t_Term) (V.l ([[(r3.cells.headD .undef).V, (r3.cells.tail.headD .undef).V, (r3.cells.tail.tail.headD .undef).V]]))] [] fun r5 H6 => r5 = (.agg [.v .str ((r5.cells.headD .undef).V), .v .bool ((r5.cells.tail.headD .undef).V), .v (.sl t_Term) ((r5.cells.tail.tail.headD .undef).V)]) ∧ H6 = [] ∧ cl f_l03_symbol [.v .str (V.s (ByteArray.mk #[102])), .v (.sl t_Term) (V.l ([[(r1.cells.headD .undef).V, (r1.cells.tail.headD .undef).V, (r1.cells.tail.tail.headD .undef).V], [(r5.cells.headD .undef).V, (r5.cells.tail.headD .undef).V, (r5.cells.tail.tail.headD .undef).V]]))] [] fun r7 H8 => r7 = (.agg [.v .str ((r7.cells.headD .undef).V), .v .bool ((r7.cells.tail.headD .undef).V), .v (.sl t_Term) ((r7.cells.tail.tail.headD .undef).V)]) ∧ H8 = [] ∧ cl f_l03_variable [.v .str (V.s (ByteArray.mk #[122]))] [] fun r9 H10 => r9 = (.agg [.v .str ((r9.cells.headD .undef).V), .v .bool ((r9.cells.tail.headD .undef).V), .v (.sl t_Term) ((r9.cells.tail.tail.headD .undef).V)]) ∧ H10 = [] ∧ cl f_l03_symbol [.v .str (V.s (ByteArray.mk #[103])), .v (.sl t_Term) (V.l ([[(r9.cells.headD .undef).V, (r9.cells.tail.headD .undef).V, (r9.cells.tail.tail.headD .undef).V]]))] [] fun r11 H12 => r11 = (.agg [.v .str ((r11.cells.headD .undef).V), .v .bool ((r11.cells.tail.headD .undef).V), .v (.sl t_Term) ((r11.cells.tail.tail.headD .undef).V)]) ∧ H12 = [] ∧ cl f_l03_variable [.v .str (V.s (ByteArray.mk #[120]))] [] fun r13 H14 => r13 = (.agg [.v .str ((r13.cells.headD .undef).V), .v .bool ((r13.cells.tail.headD .undef).V), .v (.sl t_Term) ((r13.cells.tail.tail.headD .undef).V)]) ∧ H14 = [] ∧ cl f_l03_symbol [.v .str (V.s (ByteArray.mk #[102])), .v (.sl t_Term) (V.l ([[(r11.cells.headD .undef).V, (r11.cells.tail.headD .undef).V, (r11.cells.tail.tail.headD .undef).V], [(r13.cells.headD .undef).V, (r13.cells.tail.headD .undef).V, (r13.cells.tail.tail.headD .undef).V]]))] [] fun r15 H16 => r15 = (.agg [.v .str ((r15.cells.headD .undef).V), .v .bool ((r15.cells.tail.headD .undef).V), .v (.sl t_Term) ((r15.cells.tail.tail.headD .undef).V)]) ∧ H16 = [] ∧ cl f_unify_Unify [.agg [.v .str ((r7.cells.headD .undef).V), .v .bool ((r7.cells.tail.headD .undef).V), .v (.sl t_Term) ((r7.cells.tail.tail.headD .undef).V)], .agg [.v .str ((r15.cells.headD .undef).V), .v .bool ((r15.cells.tail.headD .undef).V), .v (.sl t_Term) ((r15.cells.tail.tail.headD .undef).V)]] [] fun r17 H18 => r17 = (.tup [.v (.sl t_Bind) ((r17.parts.headD .undef).V), .v .bool ((r17.parts.tail.headD .undef).V), .v (.int .i64) ((r17.parts.tail.tail.headD .undef).V)]) ∧ H18 = [] ∧ cl f_l03_variable [.v .str (V.s (ByteArray.mk #[122]))] [] fun r19 H20 => r19 = (.agg [.v .str ((r19.cells.headD .undef).V), .v .bool ((r19.cells.tail.headD .undef).V), .v (.sl t_Term) ((r19.cells.tail.tail.headD .undef).V)]) ∧ H20 = [] ∧ cl f_l03_symbol [.v .str (V.s (ByteArray.mk #[103])), .v (.sl t_Term) (V.l ([[(r19.cells.headD .undef).V, (r19.cells.tail.headD .undef).V, (r19.cells.tail.tail.headD .undef).V]]))] [] fun r21 H22 => r21 = (.agg [.v .str ((r21.cells.headD .undef).V), .v .bool ((r21.cells.tail.headD .undef).V), .v (.sl t_Term) ((r21.cells.tail.tail.headD .undef).V)]) ∧ H22 = [] ∧ cl f_l03_variable [.v .str (V.s (ByteArray.mk #[122]))] [] fun r23 H24 => r23 = (.agg [.v .str ((r23.cells.headD .undef).V), .v .bool ((r23.cells.tail.headD .undef).V), .v (.sl t_Term) ((r23.cells.tail.tail.headD .undef).V)]) ∧ H24 = [] ∧ cl f_l03_variable [.v .str (V.s (ByteArray.mk #[120]))] [] fun r25 H26 => r25 = (.agg [.v .str ((r25.cells.headD .undef).V), .v .bool ((r25.cells.tail.headD .undef).V), .v (.sl t_Term) ((r25.cells.tail.tail.headD .undef).V)]) ∧ H26 = [] ∧ cl f_l03_variable [.v .str (V.s (ByteArray.mk #[120]))] [] fun r27 H28 => r27 = (.agg [.v .str ((r27.cells.headD .undef).V), .v .bool ((r27.cells.tail.headD .undef).V), .v (.sl t_Term) ((r27.cells.tail.tail.headD .undef).V)]) ∧ H28 = [] ∧ cl f_l03_symbol [.v .str (V.s (ByteArray.mk #[102])), .v (.sl t_Term) (V.l ([[(r25.cells.headD .undef).V, (r25.cells.tail.headD .undef).V, (r25.cells.tail.tail.headD .undef).V], [(r27.cells.headD .undef).V, (r27.cells.tail.headD .undef).V, (r27.cells.tail.tail.headD .undef).V]]))] [] fun r29 H30 => r29 = (.agg [.v .str ((r29.cells.headD .undef).V), .v .bool ((r29.cells.tail.headD .undef).V), .v (.sl t_Term) ((r29.cells.tail.tail.headD .undef).V)]) ∧ H30 = [] ∧ cl f_l03_symbol [.v .str (V.s (ByteArray.mk #[97])), .v (.sl t_Term) (V.l ([]))] [] fun r31 H32 => r31 = (.agg [.v .str ((r31.cells.headD .undef).V), .v .bool ((r31.cells.tail.headD .undef).V), .v (.sl t_Term) ((r31.cells.tail.tail.headD .undef).V)]) ∧ H32 = [] ∧ cl f_l03_symbol [.v .str (V.s (ByteArray.mk #[98])), .v (.sl t_Term) (V.l ([]))] [] fun r33 H34 => r33 = (.agg [.v .str ((r33.cells.headD .undef).V), .v .bool ((r33.cells.tail.headD .undef).V), .v (.sl t_Term) ((r33.cells.tail.tail.headD .undef).V)]) ∧ H34 = [] ∧ cl f_l03_symbol [.v .str (V.s (ByteArray.mk #[102])), .v (.sl t_Term) (V.l ([[(r31.cells.headD .undef).V, (r31.cells.tail.headD .undef).V, (r31.cells.tail.tail.headD .undef).V], [(r33.cells.headD .undef).V, (r33.cells.tail.headD .undef).V, (r33.cells.tail.tail.headD .undef).V]]))] [] fun r35 H36 => r35 = (.agg [.v .str ((r35.cells.headD .undef).V), .v .bool ((r35.cells.tail.headD .undef).V), .v (.sl t_Term) ((r35.cells.tail.tail.headD .undef).V)]) ∧ H36 = [] ∧ cl f_unify_Match [.agg [.v .str ((r29.cells.headD .undef).V), .v .bool ((r29.cells.tail.headD .undef).V), .v (.sl t_Term) ((r29.cells.tail.tail.headD .undef).V)], .agg [.v .str ((r35.cells.headD .undef).V), .v .bool ((r35.cells.tail.headD .undef).V), .v (.sl t_Term) ((r35.cells.tail.tail.headD .undef).V)]] [] fun r37 H38 => r37 = (.tup [.v (.sl t_Bind) ((r37.parts.headD .undef).V), .v .bool ((r37.parts.tail.headD .undef).V), .v (.int .i64) ((r37.parts.tail.tail.headD .undef).V)]) ∧ H38 = [] ∧ iff ((((r17.parts.tail.tail.headD .undef).V).int) == (0 : Int)) (iff (((r17.parts.tail.headD .undef).V).bool) (cl f_r01_SameSubst [.v (.sl t_Bind) ((r17.parts.headD .undef).V), .v (.sl t_Bind) (V.l ([[V.s (ByteArray.mk #[120]), (r21.cells.headD .undef).V, (r21.cells.tail.headD .undef).V, (r21.cells.tail.tail.headD .undef).V], [V.s (ByteArray.mk #[121]), (r23.cells.headD .undef).V, (r23.cells.tail.headD .undef).V, (r23.cells.tail.tail.headD .undef).V]]))] [] fun r39 H40 => r39 = (.v .bool (r39.V)) ∧ H40 = [] ∧ iff r39.V.bool (iff ((((r37.parts.tail.tail.headD .undef).V).int) == (0 : Int)) (True ∧ Q (.v .bool (V.b (!(((r37.parts.tail.headD .undef).V).bool)))) []) (True ∧ Q (.v .bool (V.b false)) [])) (True ∧ Q (.v .bool (V.b false)) [])) (True ∧ Q (.v .bool (V.b false)) [])) (True ∧ Q (.v .bool (V.b false)) [])
theorem C_l03_alive (Q : QD) (h : vc_l03_alive Q) : cl f_l03_alive [] [] Q :=
  acalls2 (E := env_l03_alive) (envOk _ _ _ _ _) 0 Try.func11 (by kernel_rfl) h
def env_r03_Match : Env := envA [] [] [] [] []
def vc_r03_Match (a0_0 : ByteArray) (a0_1 : Bool) (a0_2 : LL) (a1_0 : ByteArray) (a1_1 : Bool) (a1_2 : LL) (Q : QD) : Prop :=
  cl f_r03_match [.v (.sl t_Bind) (V.l ([])), .agg [.v .str (V.s a0_0), .v .bool (V.b a0_1), .v (.sl t_Term) (V.l a0_2)], .agg [.v .str (V.s a1_0), .v .bool (V.b a1_1), .v (.sl t_Term) (V.l a1_2)]] [] fun r1 H2 => r1 = (.tup [.v (.sl t_Bind) ((r1.parts.headD .undef).V), .v .bool ((r1.parts.tail.headD .undef).V)]) ∧ H2 = [] ∧ (True ∧ True ∧ True) ∧ Q (.tup [.v (.sl t_Bind) ((r1.parts.headD .undef).V), .v .bool ((r1.parts.tail.headD .undef).V)]) []
theorem C_r03_Match (a0_0 : ByteArray) (a0_1 : Bool) (a0_2 : LL) (a1_0 : ByteArray) (a1_1 : Bool) (a1_2 : LL) (Q : QD) (h : vc_r03_Match a0_0 a0_1 a0_2 a1_0 a1_1 a1_2 Q) : cl f_r03_Match [.agg [.v .str (V.s a0_0), .v .bool (V.b a0_1), .v (.sl t_Term) (V.l a0_2)], .agg [.v .str (V.s a1_0), .v .bool (V.b a1_1), .v (.sl t_Term) (V.l a1_2)]] [] Q :=
  acalls2 (E := env_r03_Match) (envOk _ _ _ _ _) 0 Try.func12 (by kernel_rfl) h
def env_unify_Unify : Env := envA [] [] [] [] []
def vc_unify_Unify (a0_0 : ByteArray) (a0_1 : Bool) (a0_2 : LL) (a1_0 : ByteArray) (a1_1 : Bool) (a1_2 : LL) (Q : QD) : Prop :=
  cl f_unify_UnifyAll [.v (.sl t_Rule) (V.l ([[V.s a0_0, V.b a0_1, V.l a0_2, V.s a1_0, V.b a1_1, V.l a1_2]]))] [] fun r1 H2 => r1 = (.tup [.v (.sl t_Bind) ((r1.parts.headD .undef).V), .v .bool ((r1.parts.tail.headD .undef).V), .v (.int .i64) ((r1.parts.tail.tail.headD .undef).V)]) ∧ H2 = [] ∧ (True ∧ True ∧ True ∧ True) ∧ Q (.tup [.v (.sl t_Bind) ((r1.parts.headD .undef).V), .v .bool ((r1.parts.tail.headD .undef).V), .v (.int .i64) ((r1.parts.tail.tail.headD .undef).V)]) []
theorem C_unify_Unify (a0_0 : ByteArray) (a0_1 : Bool) (a0_2 : LL) (a1_0 : ByteArray) (a1_1 : Bool) (a1_2 : LL) (Q : QD) (h : vc_unify_Unify a0_0 a0_1 a0_2 a1_0 a1_1 a1_2 Q) : cl f_unify_Unify [.agg [.v .str (V.s a0_0), .v .bool (V.b a0_1), .v (.sl t_Term) (V.l a0_2)], .agg [.v .str (V.s a1_0), .v .bool (V.b a1_1), .v (.sl t_Term) (V.l a1_2)]] [] Q :=
  acalls2 (E := env_unify_Unify) (envOk _ _ _ _ _) 0 Try.func13 (by kernel_rfl) h
def env_unify_UnifyAll : Env := envA [] [] [] [] []
def vc_unify_UnifyAll (a0 : LL) (Q : QD) : Prop :=
  cl f_term_CheckRules [.v (.sl t_Rule) (V.l a0)] [] fun r1 H2 => r1 = (.v (.int .i64) (r1.V)) ∧ H2 = [] ∧ iff (r1.V.int != (0 : Int)) ((True ∧ True ∧ True ∧ True) ∧ Q (.tup [.nil, .v .bool (V.b false), .v (.int .i64) (r1.V)]) []) (cl f_unify_Solve [.v (.sl t_Rule) (V.l a0)] [] fun r3 H4 => r3 = (.tup [.v (.sl t_Bind) ((r3.parts.headD .undef).V), .v .bool ((r3.parts.tail.headD .undef).V), .v (.int .i64) ((r3.parts.tail.tail.headD .undef).V)]) ∧ H4 = [] ∧ (True ∧ True ∧ True ∧ True) ∧ Q (.tup [.v (.sl t_Bind) ((r3.parts.headD .undef).V), .v .bool ((r3.parts.tail.headD .undef).V), .v (.int .i64) ((r3.parts.tail.tail.headD .undef).V)]) [])
theorem C_unify_UnifyAll (a0 : LL) (Q : QD) (h : vc_unify_UnifyAll a0 Q) : cl f_unify_UnifyAll [.v (.sl t_Rule) (V.l a0)] [] Q :=
  acalls2 (E := env_unify_UnifyAll) (envOk _ _ _ _ _) 0 Try.func14 (by kernel_rfl) h
def env_r01_Rules : Env := envA [(4, (.undef 0) :: (.undef 2) :: ua 4 5 (ua 12 13 ((.dead 4) :: da 19 2 ([]))))] [] [] [] []
def kl_r01_Rules_0 (Q : QD) : Post := blockK 0 (seqJ env_r01_Rules (fnAt [1, 1, 1] Try.f16) (endK env_r01_Rules Try.f16 Q))
@[irreducible] def lp_r01_Rules_0 (Q : QD) (m0 : Nat) (x9 : LL) (x10 x11 : Int) : Prop :=
  iter (adj (env_r01_Rules.adj 4)) (evCode env_r01_Rules (fnAt [1, 1, 0, 1, 0, 0] Try.f16)) (kl_r01_Rules_0 Q) m0 ⟨.undef :: .skip :: .undef :: .skip :: un 5 ((.v (.sl t_Rule) (V.l x9)) :: (.v (.int .i64) (V.i x10)) :: (.v (.int .i64) (V.i x11)) :: un 13 ([])), dd 25 ([])⟩ []
def st_r01_Rules_0 (Q : QD) (m0 : Nat) (x9 : LL) (x10 x11 : Int) : Prop :=
  iff (decide (x11 < x10)) (0 ≤ x11 ∧ x11 < x9.length ∧ cl f_r01_CheckAll [.v (.sl t_Term) (V.l ([[((x9.getD x11.toNat []).drop 0).headD V.none, (((x9.getD x11.toNat []).drop 0).tail).headD V.none, ((((x9.getD x11.toNat []).drop 0).tail).tail).headD V.none], [(((((x9.getD x11.toNat []).drop 0).tail).tail).tail).headD V.none, ((((((x9.getD x11.toNat []).drop 0).tail).tail).tail).tail).headD V.none, (((((((x9.getD x11.toNat []).drop 0).tail).tail).tail).tail).tail).headD V.none]]))] [] fun r1 H2 => r1 = (.v (.int .i64) (r1.V)) ∧ H2 = [] ∧ iff (r1.V.int != (0 : Int)) (True ∧ Q (.v (.int .i64) (r1.V)) []) (lp_r01_Rules_0 Q m0 x9 x10 (IntKind.i64.wrap (x11 + (1 : Int))))) (True ∧ Q (.v (.int .i64) (V.i 0)) [])
theorem lp_r01_Rules_0_s (Q : QD) (m0 : Nat) (x9 : LL) (x10 x11 : Int) : lp_r01_Rules_0 Q (m0 + 1) x9 x10 x11 = st_r01_Rules_0 Q m0 x9 x10 x11 := by kernel_rfl
theorem range_r01_Rules_0 (Q : QD) (x9 : LL) (n : Nat) (hb : n ≤ big) (J : Nat → Prop)
    (step : ∀ (k : Nat), k < n → J k → ∀ K : Prop, (J (k + 1) → K) → (0 ≤ (k : Int) ∧ (k : Int) < x9.length ∧ cl f_r01_CheckAll [.v (.sl t_Term) (V.l ([[((x9.getD k []).drop 0).headD V.none, (((x9.getD k []).drop 0).tail).headD V.none, ((((x9.getD k []).drop 0).tail).tail).headD V.none], [(((((x9.getD k []).drop 0).tail).tail).tail).headD V.none, ((((((x9.getD k []).drop 0).tail).tail).tail).tail).headD V.none, (((((((x9.getD k []).drop 0).tail).tail).tail).tail).tail).headD V.none]]))] [] fun r1 H2 => r1 = (.v (.int .i64) (r1.V)) ∧ H2 = [] ∧ iff (r1.V.int != (0 : Int)) (True ∧ Q (.v (.int .i64) (r1.V)) []) (K)))
    (last : J n → (True ∧ Q (.v (.int .i64) (V.i 0)) []))
    (k : Nat) (le0 : k ≤ n) (hj : J k) : ∃ m0, lp_r01_Rules_0 Q m0 x9 (n : Int) ((k : Int)) := by
  exact rangeG0 n hb J (fun m0 i => lp_r01_Rules_0 Q m0 x9 (n : Int) i) (fun m0 i => lp_r01_Rules_0_s Q m0 x9 (n : Int) i) (fun k hl_ hj_ m_ ih_ => step k hl_ hj_ _ ih_) last k le0 hj
def vc_r01_Rules (a0 : LL) (Q : QD) : Prop :=
  (a0.length ≤ big → iff (decide (((a0.length : Int)) > (64 : Int))) (True ∧ Q (.v (.int .i64) (V.i 3)) []) ((a0.length ≤ big → ∃ m0, lp_r01_Rules_0 Q m0 a0 ((a0.length : Int)) 0)))
theorem C_r01_Rules (a0 : LL) (Q : QD) (h : vc_r01_Rules a0 Q) : cl f_r01_Rules [.v (.sl t_Rule) (V.l a0)] [] Q :=
  acalls2 (E := env_r01_Rules) (envOk _ _ _ _ _) 0 Try.func16 (by kernel_rfl) h
def env_r03_UnifyAll : Env := envA [(4000012, [.ownC 12 1 56 t_a2_string, .plainC 12 0 t_Bind]), (3, (.undef 0) :: ua 2 3 ((.undef 7) :: ua 11 2 (ua 16 11 ([.dead 7, .dead 24])))), (12, (.undef 0) :: ua 2 3 ((.undef 7) :: ua 10 25 (ua 38 17 ((.dead 10) :: (.dead 50) :: da 52 2 ([.ownT 8 57 t_Bind])))))] [(14, 10, [0], [])] [] [] []
def kl_r03_UnifyAll_0 (Q : QD) : Post := blockK 0 (seqJ env_r03_UnifyAll (fnAt [1, 1, 1] Try.f15) (endK env_r03_UnifyAll Try.f15 Q))
def kl_r03_UnifyAll_1 (Q : QD) : Post := blockK 2 (seqJ env_r03_UnifyAll (fnAt [1, 1, 1, 1, 1, 1] Try.f15) (endK env_r03_UnifyAll Try.f15 Q))
@[irreducible] def lp_r03_UnifyAll_1 (Q : QD) (m1 : Nat) (x8n : Nat) (x35 : V) (x36 x37 : Int) (y12_0 : V) (y12_1n : Nat) (y56 y57 : LL) : Prop :=
  iter (adj (env_r03_UnifyAll.adj 12)) (evCode env_r03_UnifyAll (fnAt [1, 1, 1, 1, 1, 0, 1, 0, 0] Try.f15)) (kl_r03_UnifyAll_1 Q) m1 ⟨.undef :: .skip :: un 3 ((.ptr (.loc 12) 0) :: .skip :: .undef :: (.osl (.loc 57) x8n) :: .skip :: un 25 ((.v (.sl t_Bind) (x35)) :: (.v (.int .i64) (V.i x36)) :: (.v (.int .i64) (V.i x37)) :: un 17 ([.skip]))), dd 12 ((.cells [.v (.sl t_Bind) (y12_0), .osl (.loc 56) y12_1n]) :: dd 43 ([.row t_a2_string y56, .row t_Bind y57]))⟩ []
@[irreducible] def lp_r03_UnifyAll_0 (Q : QD) (m0 : Nat) (x13 : LL) (x14 x15 : Int) (y12_0 : V) (y12_1n : Nat) (y56 : LL) : Prop :=
  iter (adj (env_r03_UnifyAll.adj 3)) (evCode env_r03_UnifyAll (fnAt [1, 1, 0, 1, 0, 0] Try.f15)) (kl_r03_UnifyAll_0 Q) m0 ⟨.undef :: .skip :: un 3 ((.ptr (.loc 12) 0) :: .skip :: .undef :: sk 3 (un 2 ((.v (.sl t_Rule) (V.l x13)) :: (.v (.int .i64) (V.i x14)) :: (.v (.int .i64) (V.i x15)) :: un 11 (sk 29 ([]))))), dd 12 ((.cells [.v (.sl t_Bind) (y12_0), .osl (.loc 56) y12_1n]) :: dd 43 ([.row t_a2_string y56, .dead]))⟩ []
def st_r03_UnifyAll_1 (Q : QD) (m1 : Nat) (x8n : Nat) (x35 : V) (x36 x37 : Int) (y12_0 : V) (y12_1n : Nat) (y56 y57 : LL) : Prop :=
  iff (decide (x37 < x36)) (0 ≤ x37 ∧ x37 < x35.list.length ∧ (∃ r1 : D, cl f_r03_resolve [.v (.sl t_Bind) (y12_0), .agg [.v .str ((((x35.list.getD x37.toNat []).drop 0).tail).headD V.none), .v .bool (((((x35.list.getD x37.toNat []).drop 0).tail).tail).headD V.none), .v (.sl t_Term) ((((((x35.list.getD x37.toNat []).drop 0).tail).tail).tail).headD V.none)]] [] (fun r H' => r = (.agg [.v .str ((r1.cells.headD .undef).V), .v .bool ((r1.cells.tail.headD .undef).V), .v (.sl t_Term) ((r1.cells.tail.tail.headD .undef).V)]) ∧ H' = []) ∧ y57.length = x8n ∧ x8n + ([[((x35.list.getD x37.toNat []).drop 0).headD V.none, (r1.cells.headD .undef).V, (r1.cells.tail.headD .undef).V, (r1.cells.tail.tail.headD .undef).V]]).length ≤ lim ∧ lp_r03_UnifyAll_1 Q m1 (x8n + ([[((x35.list.getD x37.toNat []).drop 0).headD V.none, (r1.cells.headD .undef).V, (r1.cells.tail.headD .undef).V, (r1.cells.tail.tail.headD .undef).V]]).length) x35 x36 (IntKind.i64.wrap (x37 + (1 : Int))) y12_0 y12_1n y56 (y57 ++ ([[((x35.list.getD x37.toNat []).drop 0).headD V.none, (r1.cells.headD .undef).V, (r1.cells.tail.headD .undef).V, (r1.cells.tail.tail.headD .undef).V]])))) (((x8n = y57.length) ∧ True ∧ True ∧ True) ∧ Q (.tup [.v (.sl t_Bind) (V.l y57), .v .bool (V.b true), .v (.int .i64) (V.i 0)]) [])
theorem lp_r03_UnifyAll_1_s (Q : QD) (m1 : Nat) (x8n : Nat) (x35 : V) (x36 x37 : Int) (y12_0 : V) (y12_1n : Nat) (y56 y57 : LL) : lp_r03_UnifyAll_1 Q (m1 + 1) x8n x35 x36 x37 y12_0 y12_1n y56 y57 = st_r03_UnifyAll_1 Q m1 x8n x35 x36 x37 y12_0 y12_1n y56 y57 := by kernel_rfl
theorem range_r03_UnifyAll_1 (Q : QD) (x35 y12_0 : V) (y12_1n : Nat) (y56 : LL) (n : Nat) (hb : n ≤ big) (J : Nat → Nat → LL → Prop)
    (step : ∀ (k : Nat) (x8n : Nat) (y57 : LL), k < n → J k x8n y57 → ∀ K : Nat → LL → Prop, (∀ (x8n' : Nat) (y57' : LL), J (k + 1) x8n' y57' → K x8n' y57') → (0 ≤ (k : Int) ∧ (k : Int) < x35.list.length ∧ (∃ r1 : D, cl f_r03_resolve [.v (.sl t_Bind) (y12_0), .agg [.v .str ((((x35.list.getD k []).drop 0).tail).headD V.none), .v .bool (((((x35.list.getD k []).drop 0).tail).tail).headD V.none), .v (.sl t_Term) ((((((x35.list.getD k []).drop 0).tail).tail).tail).headD V.none)]] [] (fun r H' => r = (.agg [.v .str ((r1.cells.headD .undef).V), .v .bool ((r1.cells.tail.headD .undef).V), .v (.sl t_Term) ((r1.cells.tail.tail.headD .undef).V)]) ∧ H' = []) ∧ y57.length = x8n ∧ x8n + ([[((x35.list.getD k []).drop 0).headD V.none, (r1.cells.headD .undef).V, (r1.cells.tail.headD .undef).V, (r1.cells.tail.tail.headD .undef).V]]).length ≤ lim ∧ K (x8n + ([[((x35.list.getD k []).drop 0).headD V.none, (r1.cells.headD .undef).V, (r1.cells.tail.headD .undef).V, (r1.cells.tail.tail.headD .undef).V]]).length) (y57 ++ ([[((x35.list.getD k []).drop 0).headD V.none, (r1.cells.headD .undef).V, (r1.cells.tail.headD .undef).V, (r1.cells.tail.tail.headD .undef).V]])))))
    (last : ∀ (x8n : Nat) (y57 : LL), J n x8n y57 → (((x8n = y57.length) ∧ True ∧ True ∧ True) ∧ Q (.tup [.v (.sl t_Bind) (V.l y57), .v .bool (V.b true), .v (.int .i64) (V.i 0)]) []))
    (k : Nat) (x8n : Nat) (y57 : LL) (le0 : k ≤ n) (hj : J k x8n y57) : ∃ m1, lp_r03_UnifyAll_1 Q m1 x8n x35 (n : Int) ((k : Int)) y12_0 y12_1n y56 y57 := by
  exact rangeG2 n hb J (fun m1 i x8n y57 => lp_r03_UnifyAll_1 Q m1 x8n x35 (n : Int) i y12_0 y12_1n y56 y57) (fun m1 i x8n y57 => lp_r03_UnifyAll_1_s Q m1 x8n x35 (n : Int) i y12_0 y12_1n y56 y57) (fun k x8n y57 hl_ hj_ m_ ih_ => step k x8n y57 hl_ hj_ _ ih_) last k x8n y57 le0 hj
def st_r03_UnifyAll_0 (Q : QD) (m0 : Nat) (x13 : LL) (x14 x15 : Int) (y12_0 : V) (y12_1n : Nat) (y56 : LL) : Prop :=
  iff (decide (x15 < x14)) (0 ≤ x15 ∧ x15 < x13.length ∧ cl f_r03_solver_solve [.ptr (.own 0) 0, .agg [.v .str (((x13.getD x15.toNat []).drop 0).headD V.none), .v .bool ((((x13.getD x15.toNat []).drop 0).tail).headD V.none), .v (.sl t_Term) (((((x13.getD x15.toNat []).drop 0).tail).tail).headD V.none)], .agg [.v .str ((((((x13.getD x15.toNat []).drop 0).tail).tail).tail).headD V.none), .v .bool (((((((x13.getD x15.toNat []).drop 0).tail).tail).tail).tail).headD V.none), .v (.sl t_Term) ((((((((x13.getD x15.toNat []).drop 0).tail).tail).tail).tail).tail).headD V.none)]] [.cells [.v (.sl t_Bind) (y12_0), .osl (.own 1) y12_1n], .row t_a2_string y56] fun r1 H2 => r1 = (.v .bool (r1.V)) ∧ H2 = [.cells [.v (.sl t_Bind) ((((H2.headD .dead).cs).headD .undef).V), .osl (.own 1) (((((H2.headD .dead).cs).tail).headD .undef).len)], .row t_a2_string ((H2.tail.headD .dead).xs)] ∧ iff (!r1.V.bool) ((True ∧ True ∧ True ∧ True) ∧ Q (.tup [.nil, .v .bool (V.b false), .v (.int .i64) (V.i 0)]) []) (lp_r03_UnifyAll_0 Q m0 x13 x14 (IntKind.i64.wrap (x15 + (1 : Int))) ((((H2.headD .dead).cs).headD .undef).V) (((((H2.headD .dead).cs).tail).headD .undef).len) ((H2.tail.headD .dead).xs))) (cl f_r03_large [.v (.sl t_Bind) (y12_0)] [] fun r3 H4 => r3 = (.v .bool (r3.V)) ∧ H4 = [] ∧ iff r3.V.bool ((True ∧ True ∧ True ∧ True) ∧ Q (.tup [.nil, .v .bool (V.b false), .v (.int .i64) (V.i 3)]) []) ((y12_0.list.length ≤ big → ∃ m1, lp_r03_UnifyAll_1 Q m1 0 y12_0 ((y12_0.list.length : Int)) 0 y12_0 y12_1n y56 (([] : List (List V))))))
theorem lp_r03_UnifyAll_0_s (Q : QD) (m0 : Nat) (x13 : LL) (x14 x15 : Int) (y12_0 : V) (y12_1n : Nat) (y56 : LL) : lp_r03_UnifyAll_0 Q (m0 + 1) x13 x14 x15 y12_0 y12_1n y56 = st_r03_UnifyAll_0 Q m0 x13 x14 x15 y12_0 y12_1n y56 := by kernel_rfl
theorem range_r03_UnifyAll_0 (Q : QD) (x13 : LL) (n : Nat) (hb : n ≤ big) (J : Nat → V → Nat → LL → Prop)
    (step : ∀ (k : Nat) (y12_0 : V) (y12_1n : Nat) (y56 : LL), k < n → J k y12_0 y12_1n y56 → ∀ K : V → Nat → LL → Prop, (∀ (y12_0' : V) (y12_1n' : Nat) (y56' : LL), J (k + 1) y12_0' y12_1n' y56' → K y12_0' y12_1n' y56') → (0 ≤ (k : Int) ∧ (k : Int) < x13.length ∧ cl f_r03_solver_solve [.ptr (.own 0) 0, .agg [.v .str (((x13.getD k []).drop 0).headD V.none), .v .bool ((((x13.getD k []).drop 0).tail).headD V.none), .v (.sl t_Term) (((((x13.getD k []).drop 0).tail).tail).headD V.none)], .agg [.v .str ((((((x13.getD k []).drop 0).tail).tail).tail).headD V.none), .v .bool (((((((x13.getD k []).drop 0).tail).tail).tail).tail).headD V.none), .v (.sl t_Term) ((((((((x13.getD k []).drop 0).tail).tail).tail).tail).tail).headD V.none)]] [.cells [.v (.sl t_Bind) (y12_0), .osl (.own 1) y12_1n], .row t_a2_string y56] fun r1 H2 => r1 = (.v .bool (r1.V)) ∧ H2 = [.cells [.v (.sl t_Bind) ((((H2.headD .dead).cs).headD .undef).V), .osl (.own 1) (((((H2.headD .dead).cs).tail).headD .undef).len)], .row t_a2_string ((H2.tail.headD .dead).xs)] ∧ iff (!r1.V.bool) ((True ∧ True ∧ True ∧ True) ∧ Q (.tup [.nil, .v .bool (V.b false), .v (.int .i64) (V.i 0)]) []) (K ((((H2.headD .dead).cs).headD .undef).V) (((((H2.headD .dead).cs).tail).headD .undef).len) ((H2.tail.headD .dead).xs))))
    (last : ∀ (y12_0 : V) (y12_1n : Nat) (y56 : LL), J n y12_0 y12_1n y56 → (cl f_r03_large [.v (.sl t_Bind) (y12_0)] [] fun r3 H4 => r3 = (.v .bool (r3.V)) ∧ H4 = [] ∧ iff r3.V.bool ((True ∧ True ∧ True ∧ True) ∧ Q (.tup [.nil, .v .bool (V.b false), .v (.int .i64) (V.i 3)]) []) ((y12_0.list.length ≤ big → ∃ m1, lp_r03_UnifyAll_1 Q m1 0 y12_0 ((y12_0.list.length : Int)) 0 y12_0 y12_1n y56 (([] : List (List V)))))))
    (k : Nat) (y12_0 : V) (y12_1n : Nat) (y56 : LL) (le0 : k ≤ n) (hj : J k y12_0 y12_1n y56) : ∃ m0, lp_r03_UnifyAll_0 Q m0 x13 (n : Int) ((k : Int)) y12_0 y12_1n y56 := by
  exact rangeG3 n hb J (fun m0 i y12_0 y12_1n y56 => lp_r03_UnifyAll_0 Q m0 x13 (n : Int) i y12_0 y12_1n y56) (fun m0 i y12_0 y12_1n y56 => lp_r03_UnifyAll_0_s Q m0 x13 (n : Int) i y12_0 y12_1n y56) (fun k y12_0 y12_1n y56 hl_ hj_ m_ ih_ => step k y12_0 y12_1n y56 hl_ hj_ _ ih_) last k y12_0 y12_1n y56 le0 hj
def vc_r03_UnifyAll (a0 : LL) (Q : QD) : Prop :=
  (a0.length ≤ big → ∃ m0, lp_r03_UnifyAll_0 Q m0 a0 ((a0.length : Int)) 0 (V.l ([])) 0 (([] : List (List V))))
theorem C_r03_UnifyAll (a0 : LL) (Q : QD) (h : vc_r03_UnifyAll a0 Q) : cl f_r03_UnifyAll [.v (.sl t_Rule) (V.l a0)] [] Q :=
  acalls2 (E := env_r03_UnifyAll) (envOk _ _ _ _ _) 2 Try.func15 (by kernel_rfl) h
def env_r01_Apply : Env := envA [(5, (.undef 1) :: (.undef 3) :: ua 7 3 (ua 14 4 (ua 21 12 ((.dead 3) :: (.dead 7) :: da 28 3 ([.ownC 5 2 34 t_Term])))))] [(7, 6, [], [])] [] [] []
def kl_r01_Apply_0 (Q : QD) : Post := blockK 0 (seqJ env_r01_Apply (fnAt [1, 1, 1, 1] Try.f18) (endK env_r01_Apply Try.f18 Q))
@[irreducible] def lp_r01_Apply_0 (Q : QD) (m0 : Nat) (x0 x18 : LL) (x19 x20 : Int) (y4_0 : ByteArray) (y4_1 : Bool) (y5_0 : ByteArray) (y5_1 : Bool) (y5_2n : Nat) (y34 : LL) : Prop :=
  iter (adj (env_r01_Apply.adj 5)) (evCode env_r01_Apply (fnAt [1, 1, 1, 0, 1, 0, 0] Try.f18)) (kl_r01_Apply_0 Q) m0 ⟨(.v (.sl t_Bind) (V.l x0)) :: .undef :: .skip :: .undef :: (.ptr (.loc 4) 0) :: (.ptr (.loc 5) 0) :: .skip :: un 3 (sk 4 (un 4 ((.v (.sl t_Term) (V.l x18)) :: (.v (.int .i64) (V.i x19)) :: (.v (.int .i64) (V.i x20)) :: un 12 ([.skip])))), dd 4 ((.cells [.v .str (V.s y4_0), .v .bool (V.b y4_1), .nil]) :: (.cells [.v .str (V.s y5_0), .v .bool (V.b y5_1), .osl (.loc 34) y5_2n]) :: dd 28 ([.row t_Term y34]))⟩ []
def st_r01_Apply_0 (Q : QD) (m0 : Nat) (x0 x18 : LL) (x19 x20 : Int) (y4_0 : ByteArray) (y4_1 : Bool) (y5_0 : ByteArray) (y5_1 : Bool) (y5_2n : Nat) (y34 : LL) : Prop :=
  iff (decide (x20 < x19)) (0 ≤ x20 ∧ x20 < x18.length ∧ (∃ r1 : D, cl f_r01_Apply [.v (.sl t_Bind) (V.l x0), .agg [.v .str (((x18.getD x20.toNat []).drop 0).headD V.none), .v .bool ((((x18.getD x20.toNat []).drop 0).tail).headD V.none), .v (.sl t_Term) (((((x18.getD x20.toNat []).drop 0).tail).tail).headD V.none)]] [] (fun r H' => r = (.agg [.v .str ((r1.cells.headD .undef).V), .v .bool ((r1.cells.tail.headD .undef).V), .v (.sl t_Term) ((r1.cells.tail.tail.headD .undef).V)]) ∧ H' = []) ∧ y34.length = y5_2n ∧ y5_2n + ([[(r1.cells.headD .undef).V, (r1.cells.tail.headD .undef).V, (r1.cells.tail.tail.headD .undef).V]]).length ≤ lim ∧ lp_r01_Apply_0 Q m0 x0 x18 x19 (IntKind.i64.wrap (x20 + (1 : Int))) y4_0 y4_1 y5_0 y5_1 (y5_2n + ([[(r1.cells.headD .undef).V, (r1.cells.tail.headD .undef).V, (r1.cells.tail.tail.headD .undef).V]]).length) (y34 ++ ([[(r1.cells.headD .undef).V, (r1.cells.tail.headD .undef).V, (r1.cells.tail.tail.headD .undef).V]])))) ((True ∧ True ∧ (y5_2n = y34.length) ∧ True) ∧ Q (.agg [.v .str (V.s y5_0), .v .bool (V.b y5_1), .v (.sl t_Term) (V.l y34)]) [])
theorem lp_r01_Apply_0_s (Q : QD) (m0 : Nat) (x0 x18 : LL) (x19 x20 : Int) (y4_0 : ByteArray) (y4_1 : Bool) (y5_0 : ByteArray) (y5_1 : Bool) (y5_2n : Nat) (y34 : LL) : lp_r01_Apply_0 Q (m0 + 1) x0 x18 x19 x20 y4_0 y4_1 y5_0 y5_1 y5_2n y34 = st_r01_Apply_0 Q m0 x0 x18 x19 x20 y4_0 y4_1 y5_0 y5_1 y5_2n y34 := by kernel_rfl
theorem range_r01_Apply_0 (Q : QD) (x0 x18 : LL) (y4_0 : ByteArray) (y4_1 : Bool) (y5_0 : ByteArray) (y5_1 : Bool) (n : Nat) (hb : n ≤ big) (J : Nat → Nat → LL → Prop)
    (step : ∀ (k : Nat) (y5_2n : Nat) (y34 : LL), k < n → J k y5_2n y34 → ∀ K : Nat → LL → Prop, (∀ (y5_2n' : Nat) (y34' : LL), J (k + 1) y5_2n' y34' → K y5_2n' y34') → (0 ≤ (k : Int) ∧ (k : Int) < x18.length ∧ (∃ r1 : D, cl f_r01_Apply [.v (.sl t_Bind) (V.l x0), .agg [.v .str (((x18.getD k []).drop 0).headD V.none), .v .bool ((((x18.getD k []).drop 0).tail).headD V.none), .v (.sl t_Term) (((((x18.getD k []).drop 0).tail).tail).headD V.none)]] [] (fun r H' => r = (.agg [.v .str ((r1.cells.headD .undef).V), .v .bool ((r1.cells.tail.headD .undef).V), .v (.sl t_Term) ((r1.cells.tail.tail.headD .undef).V)]) ∧ H' = []) ∧ y34.length = y5_2n ∧ y5_2n + ([[(r1.cells.headD .undef).V, (r1.cells.tail.headD .undef).V, (r1.cells.tail.tail.headD .undef).V]]).length ≤ lim ∧ K (y5_2n + ([[(r1.cells.headD .undef).V, (r1.cells.tail.headD .undef).V, (r1.cells.tail.tail.headD .undef).V]]).length) (y34 ++ ([[(r1.cells.headD .undef).V, (r1.cells.tail.headD .undef).V, (r1.cells.tail.tail.headD .undef).V]])))))
    (last : ∀ (y5_2n : Nat) (y34 : LL), J n y5_2n y34 → ((True ∧ True ∧ (y5_2n = y34.length) ∧ True) ∧ Q (.agg [.v .str (V.s y5_0), .v .bool (V.b y5_1), .v (.sl t_Term) (V.l y34)]) []))
    (k : Nat) (y5_2n : Nat) (y34 : LL) (le0 : k ≤ n) (hj : J k y5_2n y34) : ∃ m0, lp_r01_Apply_0 Q m0 x0 x18 (n : Int) ((k : Int)) y4_0 y4_1 y5_0 y5_1 y5_2n y34 := by
  exact rangeG2 n hb J (fun m0 i y5_2n y34 => lp_r01_Apply_0 Q m0 x0 x18 (n : Int) i y4_0 y4_1 y5_0 y5_1 y5_2n y34) (fun m0 i y5_2n y34 => lp_r01_Apply_0_s Q m0 x0 x18 (n : Int) i y4_0 y4_1 y5_0 y5_1 y5_2n y34) (fun k y5_2n y34 hl_ hj_ m_ ih_ => step k y5_2n y34 hl_ hj_ _ ih_) last k y5_2n y34 le0 hj
def vc_r01_Apply (a0 : LL) (a1_0 : ByteArray) (a1_1 : Bool) (a1_2 : LL) (Q : QD) : Prop :=
  iff a1_1 (cl f_r01_Image [.v (.sl t_Bind) (V.l a0), .v .str (V.s a1_0)] [] fun r1 H2 => r1 = (.agg [.v .str ((r1.cells.headD .undef).V), .v .bool ((r1.cells.tail.headD .undef).V), .v (.sl t_Term) ((r1.cells.tail.tail.headD .undef).V)]) ∧ H2 = [] ∧ (True ∧ True ∧ True ∧ True) ∧ Q (.agg [.v .str ((r1.cells.headD .undef).V), .v .bool ((r1.cells.tail.headD .undef).V), .v (.sl t_Term) ((r1.cells.tail.tail.headD .undef).V)]) []) ((a1_2.length ≤ big → ∃ m0, lp_r01_Apply_0 Q m0 a0 a1_2 ((a1_2.length : Int)) 0 (ByteArray.mk #[]) false a1_0 false 0 (([] : List (List V)))))
theorem C_r01_Apply (a0 : LL) (a1_0 : ByteArray) (a1_1 : Bool) (a1_2 : LL) (Q : QD) (h : vc_r01_Apply a0 a1_0 a1_1 a1_2 Q) : cl f_r01_Apply [.v (.sl t_Bind) (V.l a0), .agg [.v .str (V.s a1_0), .v .bool (V.b a1_1), .v (.sl t_Term) (V.l a1_2)]] [] Q :=
  acalls2 (E := env_r01_Apply) (envOk _ _ _ _ _) 1 Try.func18 (by kernel_rfl) h
def env_r01_Equal : Env := envA [] [] [] [] []
def vc_r01_Equal (a0_0 : ByteArray) (a0_1 : Bool) (a0_2 : LL) (a1_0 : ByteArray) (a1_1 : Bool) (a1_2 : LL) (Q : QD) : Prop :=
  cl f_r01_Compare [.agg [.v .str (V.s a0_0), .v .bool (V.b a0_1), .v (.sl t_Term) (V.l a0_2)], .agg [.v .str (V.s a1_0), .v .bool (V.b a1_1), .v (.sl t_Term) (V.l a1_2)]] [] fun r1 H2 => r1 = (.v (.int .i64) (r1.V)) ∧ H2 = [] ∧ True ∧ Q (.v .bool (V.b (r1.V.int == (0 : Int)))) []
theorem C_r01_Equal (a0_0 : ByteArray) (a0_1 : Bool) (a0_2 : LL) (a1_0 : ByteArray) (a1_1 : Bool) (a1_2 : LL) (Q : QD) (h : vc_r01_Equal a0_0 a0_1 a0_2 a1_0 a1_1 a1_2 Q) : cl f_r01_Equal [.agg [.v .str (V.s a0_0), .v .bool (V.b a0_1), .v (.sl t_Term) (V.l a0_2)], .agg [.v .str (V.s a1_0), .v .bool (V.b a1_1), .v (.sl t_Term) (V.l a1_2)]] [] Q :=
  acalls2 (E := env_r01_Equal) (envOk _ _ _ _ _) 0 Try.func17 (by kernel_rfl) h
def env_r01_Check : Env := envA [] [] [] [] []
def vc_r01_Check (a0_0 : ByteArray) (a0_1 : Bool) (a0_2 : LL) (Q : QD) : Prop :=
  cl f_r01_Formed [.agg [.v .str (V.s a0_0), .v .bool (V.b a0_1), .v (.sl t_Term) (V.l a0_2)]] [] fun r1 H2 => r1 = (.v .bool (r1.V)) ∧ H2 = [] ∧ iff (!r1.V.bool) (True ∧ Q (.v (.int .i64) (V.i 4)) []) (cl f_r01_Size [.agg [.v .str (V.s a0_0), .v .bool (V.b a0_1), .v (.sl t_Term) (V.l a0_2)]] [] fun r3 H4 => r3 = (.v (.int .i64) (r3.V)) ∧ H4 = [] ∧ iff (decide (r3.V.int > (4000 : Int))) (True ∧ Q (.v (.int .i64) (V.i 3)) []) (cl f_r01_Depth [.agg [.v .str (V.s a0_0), .v .bool (V.b a0_1), .v (.sl t_Term) (V.l a0_2)]] [] fun r5 H6 => r5 = (.v (.int .i64) (r5.V)) ∧ H6 = [] ∧ iff (decide (r5.V.int > (200 : Int))) (True ∧ Q (.v (.int .i64) (V.i 3)) []) (True ∧ Q (.v (.int .i64) (V.i 0)) [])))
theorem C_r01_Check (a0_0 : ByteArray) (a0_1 : Bool) (a0_2 : LL) (Q : QD) (h : vc_r01_Check a0_0 a0_1 a0_2 Q) : cl f_r01_Check [.agg [.v .str (V.s a0_0), .v .bool (V.b a0_1), .v (.sl t_Term) (V.l a0_2)]] [] Q :=
  acalls2 (E := env_r01_Check) (envOk _ _ _ _ _) 0 Try.func19 (by kernel_rfl) h
def env_r01_CheckSubst : Env := envA [(2, ua 2 3 (ua 11 25 ([.dead 4, .dead 17, .dead 31]))), (8, (.undef 0) :: ua 2 3 (ua 6 30 (ua 39 10 ([.dead 6, .dead 44]))))] [(4, 16, [], [])] [] [] []
def kl_r01_CheckSubst_0 (Q : QD) : Post := blockK 0 (seqJ env_r01_CheckSubst (fnAt [1, 1] Try.f20) (endK env_r01_CheckSubst Try.f20 Q))
def kl_r01_CheckSubst_1 (Q : QD) : Post := blockK 2 (seqJ env_r01_CheckSubst (fnAt [1, 1, 1] Try.f20) (endK env_r01_CheckSubst Try.f20 Q))
@[irreducible] def lp_r01_CheckSubst_1 (Q : QD) (m1 : Nat) (x36 : LL) (x37 x38 : Int) : Prop :=
  iter (adj (env_r01_CheckSubst.adj 8)) (evCode env_r01_CheckSubst (fnAt [1, 1, 0, 1, 0, 0] Try.f20)) (kl_r01_CheckSubst_1 Q) m1 ⟨.undef :: .skip :: un 3 (.skip :: un 30 ((.v (.sl t_Bind) (V.l x36)) :: (.v (.int .i64) (V.i x37)) :: (.v (.int .i64) (V.i x38)) :: un 10 ([]))), dd 49 ([])⟩ []
@[irreducible] def lp_r01_CheckSubst_0 (Q : QD) (m0 : Nat) (x0 x8 : LL) (x9 x10 : Int) : Prop :=
  iter (adj (env_r01_CheckSubst.adj 2)) (evCode env_r01_CheckSubst (fnAt [1, 0, 1, 0, 0] Try.f20)) (kl_r01_CheckSubst_0 Q) m0 ⟨(.v (.sl t_Bind) (V.l x0)) :: .skip :: un 3 (sk 3 ((.v (.sl t_Bind) (V.l x8)) :: (.v (.int .i64) (V.i x9)) :: (.v (.int .i64) (V.i x10)) :: un 25 (sk 13 ([])))), dd 49 ([])⟩ []
def st_r01_CheckSubst_1 (Q : QD) (m1 : Nat) (x36 : LL) (x37 x38 : Int) : Prop :=
  iff (decide (x38 < x37)) (0 ≤ x38 ∧ x38 < x36.length ∧ cl f_r01_Check [.agg [.v .str ((((x36.getD x38.toNat []).drop 0).tail).headD V.none), .v .bool (((((x36.getD x38.toNat []).drop 0).tail).tail).headD V.none), .v (.sl t_Term) ((((((x36.getD x38.toNat []).drop 0).tail).tail).tail).headD V.none)]] [] fun r1 H2 => r1 = (.v (.int .i64) (r1.V)) ∧ H2 = [] ∧ iff (r1.V.int != (0 : Int)) (True ∧ Q (.v (.int .i64) (r1.V)) []) (lp_r01_CheckSubst_1 Q m1 x36 x37 (IntKind.i64.wrap (x38 + (1 : Int))))) (True ∧ Q (.v (.int .i64) (V.i 0)) [])
theorem lp_r01_CheckSubst_1_s (Q : QD) (m1 : Nat) (x36 : LL) (x37 x38 : Int) : lp_r01_CheckSubst_1 Q (m1 + 1) x36 x37 x38 = st_r01_CheckSubst_1 Q m1 x36 x37 x38 := by kernel_rfl
theorem range_r01_CheckSubst_1 (Q : QD) (x36 : LL) (n : Nat) (hb : n ≤ big) (J : Nat → Prop)
    (step : ∀ (k : Nat), k < n → J k → ∀ K : Prop, (J (k + 1) → K) → (0 ≤ (k : Int) ∧ (k : Int) < x36.length ∧ cl f_r01_Check [.agg [.v .str ((((x36.getD k []).drop 0).tail).headD V.none), .v .bool (((((x36.getD k []).drop 0).tail).tail).headD V.none), .v (.sl t_Term) ((((((x36.getD k []).drop 0).tail).tail).tail).headD V.none)]] [] fun r1 H2 => r1 = (.v (.int .i64) (r1.V)) ∧ H2 = [] ∧ iff (r1.V.int != (0 : Int)) (True ∧ Q (.v (.int .i64) (r1.V)) []) (K)))
    (last : J n → (True ∧ Q (.v (.int .i64) (V.i 0)) []))
    (k : Nat) (le0 : k ≤ n) (hj : J k) : ∃ m1, lp_r01_CheckSubst_1 Q m1 x36 (n : Int) ((k : Int)) := by
  exact rangeG0 n hb J (fun m1 i => lp_r01_CheckSubst_1 Q m1 x36 (n : Int) i) (fun m1 i => lp_r01_CheckSubst_1_s Q m1 x36 (n : Int) i) (fun k hl_ hj_ m_ ih_ => step k hl_ hj_ _ ih_) last k le0 hj
def st_r01_CheckSubst_0 (Q : QD) (m0 : Nat) (x0 x8 : LL) (x9 x10 : Int) : Prop :=
  iff (decide (x10 < x9)) (0 ≤ x10 ∧ x10 < x8.length ∧ (∃ r1 : D, cl f_r01_IsName [.v .str (((x8.getD x10.toNat []).drop 0).headD V.none), .v .bool (V.b false)] [] (fun r H' => r = (.v .bool (r1.V)) ∧ H' = []) ∧ iff (!r1.V.bool) (True ∧ Q (.v (.int .i64) (V.i 4)) []) (iff (decide (x10 > (0 : Int))) (0 ≤ (IntKind.i64.wrap (x10 - (1 : Int))) ∧ (IntKind.i64.wrap (x10 - (1 : Int))) < x0.length ∧ cl f_r01_CompareNames [.v .str (((x0.getD ((IntKind.i64.wrap (x10 - (1 : Int)))).toNat []).drop 0).headD V.none), .v .str (((x8.getD x10.toNat []).drop 0).headD V.none)] [] fun r2 H3 => r2 = (.v (.int .i64) (r2.V)) ∧ H3 = [] ∧ iff (decide (r2.V.int ≥ (0 : Int))) (True ∧ Q (.v (.int .i64) (V.i 4)) []) (lp_r01_CheckSubst_0 Q m0 x0 x8 x9 (IntKind.i64.wrap (x10 + (1 : Int))))) (lp_r01_CheckSubst_0 Q m0 x0 x8 x9 (IntKind.i64.wrap (x10 + (1 : Int))))))) ((x0.length ≤ big → ∃ m1, lp_r01_CheckSubst_1 Q m1 x0 ((x0.length : Int)) 0))
theorem lp_r01_CheckSubst_0_s (Q : QD) (m0 : Nat) (x0 x8 : LL) (x9 x10 : Int) : lp_r01_CheckSubst_0 Q (m0 + 1) x0 x8 x9 x10 = st_r01_CheckSubst_0 Q m0 x0 x8 x9 x10 := by kernel_rfl
theorem range_r01_CheckSubst_0 (Q : QD) (x0 x8 : LL) (n : Nat) (hb : n ≤ big) (J : Nat → Prop)
    (step : ∀ (k : Nat), k < n → J k → ∀ K : Prop, (J (k + 1) → K) → (0 ≤ (k : Int) ∧ (k : Int) < x8.length ∧ (∃ r1 : D, cl f_r01_IsName [.v .str (((x8.getD k []).drop 0).headD V.none), .v .bool (V.b false)] [] (fun r H' => r = (.v .bool (r1.V)) ∧ H' = []) ∧ iff (!r1.V.bool) (True ∧ Q (.v (.int .i64) (V.i 4)) []) (iff (decide ((k : Int) > (0 : Int))) (0 ≤ (IntKind.i64.wrap ((k : Int) - (1 : Int))) ∧ (IntKind.i64.wrap ((k : Int) - (1 : Int))) < x0.length ∧ cl f_r01_CompareNames [.v .str (((x0.getD ((IntKind.i64.wrap ((k : Int) - (1 : Int)))).toNat []).drop 0).headD V.none), .v .str (((x8.getD k []).drop 0).headD V.none)] [] fun r2 H3 => r2 = (.v (.int .i64) (r2.V)) ∧ H3 = [] ∧ iff (decide (r2.V.int ≥ (0 : Int))) (True ∧ Q (.v (.int .i64) (V.i 4)) []) (K)) (K)))))
    (last : J n → ((x0.length ≤ big → ∃ m1, lp_r01_CheckSubst_1 Q m1 x0 ((x0.length : Int)) 0)))
    (k : Nat) (le0 : k ≤ n) (hj : J k) : ∃ m0, lp_r01_CheckSubst_0 Q m0 x0 x8 (n : Int) ((k : Int)) := by
  exact rangeG0 n hb J (fun m0 i => lp_r01_CheckSubst_0 Q m0 x0 x8 (n : Int) i) (fun m0 i => lp_r01_CheckSubst_0_s Q m0 x0 x8 (n : Int) i) (fun k hl_ hj_ m_ ih_ => step k hl_ hj_ _ ih_) last k le0 hj
def vc_r01_CheckSubst (a0 : LL) (Q : QD) : Prop :=
  (a0.length ≤ big → ∃ m0, lp_r01_CheckSubst_0 Q m0 a0 a0 ((a0.length : Int)) 0)
theorem C_r01_CheckSubst (a0 : LL) (Q : QD) (h : vc_r01_CheckSubst a0 Q) : cl f_r01_CheckSubst [.v (.sl t_Bind) (V.l a0)] [] Q :=
  acalls2 (E := env_r01_CheckSubst) (envOk _ _ _ _ _) 0 Try.func20 (by kernel_rfl) h
def env_r01_Fits : Env := envA [] [] [] [] []
def vc_r01_Fits (a0 : LL) (a1_0 : ByteArray) (a1_1 : Bool) (a1_2 : LL) (Q : QD) : Prop :=
  cl f_r01_Grown [.v (.sl t_Bind) (V.l a0), .agg [.v .str (V.s a1_0), .v .bool (V.b a1_1), .v (.sl t_Term) (V.l a1_2)]] [] fun r1 H2 => r1 = (.tup [.v (.int .i64) ((r1.parts.headD .undef).V), .v (.int .i64) ((r1.parts.tail.headD .undef).V)]) ∧ H2 = [] ∧ iff (decide ((((r1.parts.headD .undef).V).int) ≤ (4000 : Int))) (True ∧ Q (.v .bool (V.b (decide ((((r1.parts.tail.headD .undef).V).int) ≤ (200 : Int))))) []) (True ∧ Q (.v .bool (V.b false)) [])
theorem C_r01_Fits (a0 : LL) (a1_0 : ByteArray) (a1_1 : Bool) (a1_2 : LL) (Q : QD) (h : vc_r01_Fits a0 a1_0 a1_1 a1_2 Q) : cl f_r01_Fits [.v (.sl t_Bind) (V.l a0), .agg [.v .str (V.s a1_0), .v .bool (V.b a1_1), .v (.sl t_Term) (V.l a1_2)]] [] Q :=
  acalls2 (E := env_r01_Fits) (envOk _ _ _ _ _) 0 Try.func21 (by kernel_rfl) h
def env_r01_Vars : Env := envA [(3, (.undef 0) :: (.undef 2) :: (.undef 5) :: ua 9 7 ([.dead 5, .dead 14, .plainT 3 t_string]))] [] [] [] []
def kl_r01_Vars_0 (Q : QD) : Post := blockK 0 (seqJ env_r01_Vars (fnAt [1, 1, 1] Try.f22) (endK env_r01_Vars Try.f22 Q))
@[irreducible] def lp_r01_Vars_0 (Q : QD) (m0 : Nat) (x3 : V) (x6 : LL) (x7 x8 : Int) : Prop :=
  iter (adj (env_r01_Vars.adj 3)) (evCode env_r01_Vars (fnAt [1, 1, 0, 1, 0, 0] Try.f22)) (kl_r01_Vars_0 Q) m0 ⟨.undef :: .skip :: .undef :: (.v (.sl t_string) (x3)) :: .skip :: .undef :: (.v (.sl t_Term) (V.l x6)) :: (.v (.int .i64) (V.i x7)) :: (.v (.int .i64) (V.i x8)) :: un 7 ([.skip]), dd 17 ([])⟩ []
def st_r01_Vars_0 (Q : QD) (m0 : Nat) (x3 : V) (x6 : LL) (x7 x8 : Int) : Prop :=
  iff (decide (x8 < x7)) (0 ≤ x8 ∧ x8 < x6.length ∧ cl f_r01_collect [.agg [.v .str (((x6.getD x8.toNat []).drop 0).headD V.none), .v .bool ((((x6.getD x8.toNat []).drop 0).tail).headD V.none), .v (.sl t_Term) (((((x6.getD x8.toNat []).drop 0).tail).tail).headD V.none)], .v (.sl t_string) (x3)] [] fun r1 H2 => r1 = (.v (.sl t_string) (r1.V)) ∧ H2 = [] ∧ lp_r01_Vars_0 Q m0 r1.V x6 x7 (IntKind.i64.wrap (x8 + (1 : Int)))) (True ∧ Q (.v (.sl t_string) (x3)) [])
theorem lp_r01_Vars_0_s (Q : QD) (m0 : Nat) (x3 : V) (x6 : LL) (x7 x8 : Int) : lp_r01_Vars_0 Q (m0 + 1) x3 x6 x7 x8 = st_r01_Vars_0 Q m0 x3 x6 x7 x8 := by kernel_rfl
theorem range_r01_Vars_0 (Q : QD) (x6 : LL) (n : Nat) (hb : n ≤ big) (J : Nat → V → Prop)
    (step : ∀ (k : Nat) (x3 : V), k < n → J k x3 → ∀ K : V → Prop, (∀ (x3' : V), J (k + 1) x3' → K x3') → (0 ≤ (k : Int) ∧ (k : Int) < x6.length ∧ cl f_r01_collect [.agg [.v .str (((x6.getD k []).drop 0).headD V.none), .v .bool ((((x6.getD k []).drop 0).tail).headD V.none), .v (.sl t_Term) (((((x6.getD k []).drop 0).tail).tail).headD V.none)], .v (.sl t_string) (x3)] [] fun r1 H2 => r1 = (.v (.sl t_string) (r1.V)) ∧ H2 = [] ∧ K r1.V))
    (last : ∀ (x3 : V), J n x3 → (True ∧ Q (.v (.sl t_string) (x3)) []))
    (k : Nat) (x3 : V) (le0 : k ≤ n) (hj : J k x3) : ∃ m0, lp_r01_Vars_0 Q m0 x3 x6 (n : Int) ((k : Int)) := by
  exact rangeG1 n hb J (fun m0 i x3 => lp_r01_Vars_0 Q m0 x3 x6 (n : Int) i) (fun m0 i x3 => lp_r01_Vars_0_s Q m0 x3 x6 (n : Int) i) (fun k x3 hl_ hj_ m_ ih_ => step k x3 hl_ hj_ _ ih_) last k x3 le0 hj
def vc_r01_Vars (a0 : LL) (Q : QD) : Prop :=
  (a0.length ≤ big → ∃ m0, lp_r01_Vars_0 Q m0 (V.l ([])) a0 ((a0.length : Int)) 0)
theorem C_r01_Vars (a0 : LL) (Q : QD) (h : vc_r01_Vars a0 Q) : cl f_r01_Vars [.v (.sl t_Term) (V.l a0)] [] Q :=
  acalls2 (E := env_r01_Vars) (envOk _ _ _ _ _) 0 Try.func22 (by kernel_rfl) h
def env_r01_Image : Env := envA [(2, (.undef 0) :: (.undef 6) :: ua 10 10 ([.dead 6]))] [] [] [] []
def kl_r01_Image_0 (Q : QD) : Post := blockK 0 (seqJ env_r01_Image (fnAt [1, 1] Try.f23) (endK env_r01_Image Try.f23 Q))
@[irreducible] def lp_r01_Image_0 (Q : QD) (m0 : Nat) (x1 : ByteArray) (x7 : LL) (x8 x9 : Int) (y4_0 : ByteArray) (y4_1 : Bool) : Prop :=
  iter (adj (env_r01_Image.adj 2)) (evCode env_r01_Image (fnAt [1, 0, 1, 0, 0] Try.f23)) (kl_r01_Image_0 Q) m0 ⟨.undef :: (.v .str (V.s x1)) :: sk 2 ((.ptr (.loc 4) 0) :: .skip :: .undef :: (.v (.sl t_Bind) (V.l x7)) :: (.v (.int .i64) (V.i x8)) :: (.v (.int .i64) (V.i x9)) :: un 10 (sk 2 ([]))), dd 4 ((.cells [.v .str (V.s y4_0), .v .bool (V.b y4_1), .nil]) :: dd 17 ([]))⟩ []
def st_r01_Image_0 (Q : QD) (m0 : Nat) (x1 : ByteArray) (x7 : LL) (x8 x9 : Int) (y4_0 : ByteArray) (y4_1 : Bool) : Prop :=
  iff (decide (x9 < x8)) (0 ≤ x9 ∧ x9 < x7.length ∧ iff (((((x7.getD x9.toNat []).drop 0).headD V.none).str).toList == x1.toList) ((True ∧ True ∧ True ∧ True) ∧ Q (.agg [.v .str ((((x7.getD x9.toNat []).drop 0).tail).headD V.none), .v .bool (((((x7.getD x9.toNat []).drop 0).tail).tail).headD V.none), .v (.sl t_Term) ((((((x7.getD x9.toNat []).drop 0).tail).tail).tail).headD V.none)]) []) (lp_r01_Image_0 Q m0 x1 x7 x8 (IntKind.i64.wrap (x9 + (1 : Int))) y4_0 y4_1)) ((True ∧ True ∧ True ∧ True) ∧ Q (.agg [.v .str (V.s x1), .v .bool (V.b true), .nil]) [])
theorem lp_r01_Image_0_s (Q : QD) (m0 : Nat) (x1 : ByteArray) (x7 : LL) (x8 x9 : Int) (y4_0 : ByteArray) (y4_1 : Bool) : lp_r01_Image_0 Q (m0 + 1) x1 x7 x8 x9 y4_0 y4_1 = st_r01_Image_0 Q m0 x1 x7 x8 x9 y4_0 y4_1 := by kernel_rfl
theorem range_r01_Image_0 (Q : QD) (x1 : ByteArray) (x7 : LL) (y4_0 : ByteArray) (y4_1 : Bool) (n : Nat) (hb : n ≤ big) (J : Nat → Prop)
    (step : ∀ (k : Nat), k < n → J k → ∀ K : Prop, (J (k + 1) → K) → (0 ≤ (k : Int) ∧ (k : Int) < x7.length ∧ iff (((((x7.getD k []).drop 0).headD V.none).str).toList == x1.toList) ((True ∧ True ∧ True ∧ True) ∧ Q (.agg [.v .str ((((x7.getD k []).drop 0).tail).headD V.none), .v .bool (((((x7.getD k []).drop 0).tail).tail).headD V.none), .v (.sl t_Term) ((((((x7.getD k []).drop 0).tail).tail).tail).headD V.none)]) []) (K)))
    (last : J n → ((True ∧ True ∧ True ∧ True) ∧ Q (.agg [.v .str (V.s x1), .v .bool (V.b true), .nil]) []))
    (k : Nat) (le0 : k ≤ n) (hj : J k) : ∃ m0, lp_r01_Image_0 Q m0 x1 x7 (n : Int) ((k : Int)) y4_0 y4_1 := by
  exact rangeG0 n hb J (fun m0 i => lp_r01_Image_0 Q m0 x1 x7 (n : Int) i y4_0 y4_1) (fun m0 i => lp_r01_Image_0_s Q m0 x1 x7 (n : Int) i y4_0 y4_1) (fun k hl_ hj_ m_ ih_ => step k hl_ hj_ _ ih_) last k le0 hj
def vc_r01_Image (a0 : LL) (a1 : ByteArray) (Q : QD) : Prop :=
  (a0.length ≤ big → ∃ m0, lp_r01_Image_0 Q m0 a1 a0 ((a0.length : Int)) 0 (ByteArray.mk #[]) false)
theorem C_r01_Image (a0 : LL) (a1 : ByteArray) (Q : QD) (h : vc_r01_Image a0 a1 Q) : cl f_r01_Image [.v (.sl t_Bind) (V.l a0), .v .str (V.s a1)] [] Q :=
  acalls2 (E := env_r01_Image) (envOk _ _ _ _ _) 0 Try.func23 (by kernel_rfl) h
def env_r03_Variant : Env := envA [] [(1, 3, [], [])] [] [] []
def vc_r03_Variant (a0_0 : ByteArray) (a0_1 : Bool) (a0_2 : LL) (a1_0 : ByteArray) (a1_1 : Bool) (a1_2 : LL) (Q : QD) : Prop :=
  (∃ r1 : D, cl f_r01_Canonical [.agg [.v .str (V.s a0_0), .v .bool (V.b a0_1), .v (.sl t_Term) (V.l a0_2)]] [] (fun r H' => r = (.agg [.v .str ((r1.cells.headD .undef).V), .v .bool ((r1.cells.tail.headD .undef).V), .v (.sl t_Term) ((r1.cells.tail.tail.headD .undef).V)]) ∧ H' = []) ∧ cl f_r01_Canonical [.agg [.v .str (V.s a1_0), .v .bool (V.b a1_1), .v (.sl t_Term) (V.l a1_2)]] [] fun r2 H3 => r2 = (.agg [.v .str ((r2.cells.headD .undef).V), .v .bool ((r2.cells.tail.headD .undef).V), .v (.sl t_Term) ((r2.cells.tail.tail.headD .undef).V)]) ∧ H3 = [] ∧ cl f_r01_Equal [.agg [.v .str ((r1.cells.headD .undef).V), .v .bool ((r1.cells.tail.headD .undef).V), .v (.sl t_Term) ((r1.cells.tail.tail.headD .undef).V)], .agg [.v .str ((r2.cells.headD .undef).V), .v .bool ((r2.cells.tail.headD .undef).V), .v (.sl t_Term) ((r2.cells.tail.tail.headD .undef).V)]] [] fun r4 H5 => r4 = (.v .bool (r4.V)) ∧ H5 = [] ∧ True ∧ Q (.v .bool (r4.V)) [])
theorem C_r03_Variant (a0_0 : ByteArray) (a0_1 : Bool) (a0_2 : LL) (a1_0 : ByteArray) (a1_1 : Bool) (a1_2 : LL) (Q : QD) (h : vc_r03_Variant a0_0 a0_1 a0_2 a1_0 a1_1 a1_2 Q) : cl f_r03_Variant [.agg [.v .str (V.s a0_0), .v .bool (V.b a0_1), .v (.sl t_Term) (V.l a0_2)], .agg [.v .str (V.s a1_0), .v .bool (V.b a1_1), .v (.sl t_Term) (V.l a1_2)]] [] Q :=
  acalls2 (E := env_r03_Variant) (envOk _ _ _ _ _) 0 Try.func24 (by kernel_rfl) h
def env_term_All : Env := envA [(2, (.undef 0) :: (.undef 2) :: ua 4 2 (ua 9 9 ([.dead 4, .dead 13])))] [] [] [] []
def kl_term_All_0 (Q : QD) : Post := blockK 0 (seqJ env_term_All (fnAt [1, 1] Try.f25) (endK env_term_All Try.f25 Q))
@[irreducible] def lp_term_All_0 (Q : QD) (m0 : Nat) (x6 : LL) (x7 x8 : Int) : Prop :=
  iter (adj (env_term_All.adj 2)) (evCode env_term_All (fnAt [1, 0, 1, 0, 0] Try.f25)) (kl_term_All_0 Q) m0 ⟨.undef :: .skip :: .undef :: .skip :: un 2 ((.v (.sl t_Term) (V.l x6)) :: (.v (.int .i64) (V.i x7)) :: (.v (.int .i64) (V.i x8)) :: un 9 ([])), dd 18 ([])⟩ []
def st_term_All_0 (Q : QD) (m0 : Nat) (x6 : LL) (x7 x8 : Int) : Prop :=
  iff (decide (x8 < x7)) (0 ≤ x8 ∧ x8 < x6.length ∧ cl f_term_Check [.agg [.v .str (((x6.getD x8.toNat []).drop 0).headD V.none), .v .bool ((((x6.getD x8.toNat []).drop 0).tail).headD V.none), .v (.sl t_Term) (((((x6.getD x8.toNat []).drop 0).tail).tail).headD V.none)]] [] fun r1 H2 => r1 = (.v (.int .i64) (r1.V)) ∧ H2 = [] ∧ iff (r1.V.int != (0 : Int)) (True ∧ Q (.v (.int .i64) (r1.V)) []) (lp_term_All_0 Q m0 x6 x7 (IntKind.i64.wrap (x8 + (1 : Int))))) (True ∧ Q (.v (.int .i64) (V.i 0)) [])
theorem lp_term_All_0_s (Q : QD) (m0 : Nat) (x6 : LL) (x7 x8 : Int) : lp_term_All_0 Q (m0 + 1) x6 x7 x8 = st_term_All_0 Q m0 x6 x7 x8 := by kernel_rfl
theorem range_term_All_0 (Q : QD) (x6 : LL) (n : Nat) (hb : n ≤ big) (J : Nat → Prop)
    (step : ∀ (k : Nat), k < n → J k → ∀ K : Prop, (J (k + 1) → K) → (0 ≤ (k : Int) ∧ (k : Int) < x6.length ∧ cl f_term_Check [.agg [.v .str (((x6.getD k []).drop 0).headD V.none), .v .bool ((((x6.getD k []).drop 0).tail).headD V.none), .v (.sl t_Term) (((((x6.getD k []).drop 0).tail).tail).headD V.none)]] [] fun r1 H2 => r1 = (.v (.int .i64) (r1.V)) ∧ H2 = [] ∧ iff (r1.V.int != (0 : Int)) (True ∧ Q (.v (.int .i64) (r1.V)) []) (K)))
    (last : J n → (True ∧ Q (.v (.int .i64) (V.i 0)) []))
    (k : Nat) (le0 : k ≤ n) (hj : J k) : ∃ m0, lp_term_All_0 Q m0 x6 (n : Int) ((k : Int)) := by
  exact rangeG0 n hb J (fun m0 i => lp_term_All_0 Q m0 x6 (n : Int) i) (fun m0 i => lp_term_All_0_s Q m0 x6 (n : Int) i) (fun k hl_ hj_ m_ ih_ => step k hl_ hj_ _ ih_) last k le0 hj
def vc_term_All (a0 : LL) (Q : QD) : Prop :=
  (a0.length ≤ big → ∃ m0, lp_term_All_0 Q m0 a0 ((a0.length : Int)) 0)
theorem C_term_All (a0 : LL) (Q : QD) (h : vc_term_All a0 Q) : cl f_term_All [.v (.sl t_Term) (V.l a0)] [] Q :=
  acalls2 (E := env_term_All) (envOk _ _ _ _ _) 0 Try.func25 (by kernel_rfl) h
def env_unify_Find : Env := envA [(4000006, [.ownC 6 0 14 t_Bind])] [] [] [] []
def vc_unify_Find (a0_0 : ByteArray) (a0_1 : Bool) (a0_2 : LL) (a1_0 : ByteArray) (a1_1 : Bool) (a1_2 : LL) (Q : QD) : Prop :=
  cl f_unify_matcher_match [.ptr (.own 0) 0, .agg [.v .str (V.s a0_0), .v .bool (V.b a0_1), .v (.sl t_Term) (V.l a0_2)], .agg [.v .str (V.s a1_0), .v .bool (V.b a1_1), .v (.sl t_Term) (V.l a1_2)]] [.cells [.osl (.own 1) 0], .row t_Bind (([] : List (List V)))] fun r1 H2 => r1 = (.v .bool (r1.V)) ∧ H2 = [.cells [.osl (.own 1) ((((H2.headD .dead).cs).headD .undef).len)], .row t_Bind ((H2.tail.headD .dead).xs)] ∧ (((((H2.headD .dead).cs).headD .undef).len = ((H2.tail.headD .dead).xs).length) ∧ True ∧ True) ∧ Q (.tup [.v (.sl t_Bind) (V.l ((H2.tail.headD .dead).xs)), .v .bool (r1.V)]) []
theorem C_unify_Find (a0_0 : ByteArray) (a0_1 : Bool) (a0_2 : LL) (a1_0 : ByteArray) (a1_1 : Bool) (a1_2 : LL) (Q : QD) (h : vc_unify_Find a0_0 a0_1 a0_2 a1_0 a1_1 a1_2 Q) : cl f_unify_Find [.agg [.v .str (V.s a0_0), .v .bool (V.b a0_1), .v (.sl t_Term) (V.l a0_2)], .agg [.v .str (V.s a1_0), .v .bool (V.b a1_1), .v (.sl t_Term) (V.l a1_2)]] [] Q :=
  acalls2 (E := env_unify_Find) (envOk _ _ _ _ _) 1 Try.func26 (by kernel_rfl) h
def env_term_Own : Env := envA [(3, ua 0 2 (ua 5 7 (ua 15 11 ((.dead 1) :: (.dead 5) :: da 21 3 ([.ownC 3 2 27 t_Term])))))] [(5, 5, [], [])] [] [] []
def kl_term_Own_0 (Q : QD) : Post := blockK 0 (seqJ env_term_Own (fnAt [1, 1, 1] Try.f27) (endK env_term_Own Try.f27 Q))
@[irreducible] def lp_term_Own_0 (Q : QD) (m0 : Nat) (x12 : LL) (x13 x14 : Int) (y2_0 : ByteArray) (y2_1 : Bool) (y3_0 : ByteArray) (y3_1 : Bool) (y3_2n : Nat) (y27 : LL) : Prop :=
  iter (adj (env_term_Own.adj 3)) (evCode env_term_Own (fnAt [1, 1, 0, 1, 0, 0] Try.f27)) (kl_term_Own_0 Q) m0 ⟨un 2 ((.ptr (.loc 2) 0) :: (.ptr (.loc 3) 0) :: .skip :: un 7 ((.v (.sl t_Term) (V.l x12)) :: (.v (.int .i64) (V.i x13)) :: (.v (.int .i64) (V.i x14)) :: un 11 ([.skip]))), dd 2 ((.cells [.v .str (V.s y2_0), .v .bool (V.b y2_1), .nil]) :: (.cells [.v .str (V.s y3_0), .v .bool (V.b y3_1), .osl (.loc 27) y3_2n]) :: dd 23 ([.row t_Term y27]))⟩ []
def st_term_Own_0 (Q : QD) (m0 : Nat) (x12 : LL) (x13 x14 : Int) (y2_0 : ByteArray) (y2_1 : Bool) (y3_0 : ByteArray) (y3_1 : Bool) (y3_2n : Nat) (y27 : LL) : Prop :=
  iff (decide (x14 < x13)) (0 ≤ x14 ∧ x14 < x12.length ∧ (∃ r1 : D, cl f_term_Own [.agg [.v .str (((x12.getD x14.toNat []).drop 0).headD V.none), .v .bool ((((x12.getD x14.toNat []).drop 0).tail).headD V.none), .v (.sl t_Term) (((((x12.getD x14.toNat []).drop 0).tail).tail).headD V.none)]] [] (fun r H' => r = (.agg [.v .str ((r1.cells.headD .undef).V), .v .bool ((r1.cells.tail.headD .undef).V), .v (.sl t_Term) ((r1.cells.tail.tail.headD .undef).V)]) ∧ H' = []) ∧ y27.length = y3_2n ∧ y3_2n + ([[(r1.cells.headD .undef).V, (r1.cells.tail.headD .undef).V, (r1.cells.tail.tail.headD .undef).V]]).length ≤ lim ∧ lp_term_Own_0 Q m0 x12 x13 (IntKind.i64.wrap (x14 + (1 : Int))) y2_0 y2_1 y3_0 y3_1 (y3_2n + ([[(r1.cells.headD .undef).V, (r1.cells.tail.headD .undef).V, (r1.cells.tail.tail.headD .undef).V]]).length) (y27 ++ ([[(r1.cells.headD .undef).V, (r1.cells.tail.headD .undef).V, (r1.cells.tail.tail.headD .undef).V]])))) ((True ∧ True ∧ (y3_2n = y27.length) ∧ True) ∧ Q (.agg [.v .str (V.s y3_0), .v .bool (V.b y3_1), .v (.sl t_Term) (V.l y27)]) [])
theorem lp_term_Own_0_s (Q : QD) (m0 : Nat) (x12 : LL) (x13 x14 : Int) (y2_0 : ByteArray) (y2_1 : Bool) (y3_0 : ByteArray) (y3_1 : Bool) (y3_2n : Nat) (y27 : LL) : lp_term_Own_0 Q (m0 + 1) x12 x13 x14 y2_0 y2_1 y3_0 y3_1 y3_2n y27 = st_term_Own_0 Q m0 x12 x13 x14 y2_0 y2_1 y3_0 y3_1 y3_2n y27 := by kernel_rfl
theorem range_term_Own_0 (Q : QD) (x12 : LL) (y2_0 : ByteArray) (y2_1 : Bool) (y3_0 : ByteArray) (y3_1 : Bool) (n : Nat) (hb : n ≤ big) (J : Nat → Nat → LL → Prop)
    (step : ∀ (k : Nat) (y3_2n : Nat) (y27 : LL), k < n → J k y3_2n y27 → ∀ K : Nat → LL → Prop, (∀ (y3_2n' : Nat) (y27' : LL), J (k + 1) y3_2n' y27' → K y3_2n' y27') → (0 ≤ (k : Int) ∧ (k : Int) < x12.length ∧ (∃ r1 : D, cl f_term_Own [.agg [.v .str (((x12.getD k []).drop 0).headD V.none), .v .bool ((((x12.getD k []).drop 0).tail).headD V.none), .v (.sl t_Term) (((((x12.getD k []).drop 0).tail).tail).headD V.none)]] [] (fun r H' => r = (.agg [.v .str ((r1.cells.headD .undef).V), .v .bool ((r1.cells.tail.headD .undef).V), .v (.sl t_Term) ((r1.cells.tail.tail.headD .undef).V)]) ∧ H' = []) ∧ y27.length = y3_2n ∧ y3_2n + ([[(r1.cells.headD .undef).V, (r1.cells.tail.headD .undef).V, (r1.cells.tail.tail.headD .undef).V]]).length ≤ lim ∧ K (y3_2n + ([[(r1.cells.headD .undef).V, (r1.cells.tail.headD .undef).V, (r1.cells.tail.tail.headD .undef).V]]).length) (y27 ++ ([[(r1.cells.headD .undef).V, (r1.cells.tail.headD .undef).V, (r1.cells.tail.tail.headD .undef).V]])))))
    (last : ∀ (y3_2n : Nat) (y27 : LL), J n y3_2n y27 → ((True ∧ True ∧ (y3_2n = y27.length) ∧ True) ∧ Q (.agg [.v .str (V.s y3_0), .v .bool (V.b y3_1), .v (.sl t_Term) (V.l y27)]) []))
    (k : Nat) (y3_2n : Nat) (y27 : LL) (le0 : k ≤ n) (hj : J k y3_2n y27) : ∃ m0, lp_term_Own_0 Q m0 x12 (n : Int) ((k : Int)) y2_0 y2_1 y3_0 y3_1 y3_2n y27 := by
  exact rangeG2 n hb J (fun m0 i y3_2n y27 => lp_term_Own_0 Q m0 x12 (n : Int) i y2_0 y2_1 y3_0 y3_1 y3_2n y27) (fun m0 i y3_2n y27 => lp_term_Own_0_s Q m0 x12 (n : Int) i y2_0 y2_1 y3_0 y3_1 y3_2n y27) (fun k y3_2n y27 hl_ hj_ m_ ih_ => step k y3_2n y27 hl_ hj_ _ ih_) last k y3_2n y27 le0 hj
def vc_term_Own (a0_0 : ByteArray) (a0_1 : Bool) (a0_2 : LL) (Q : QD) : Prop :=
  (a0_2.length ≤ big → ∃ m0, lp_term_Own_0 Q m0 a0_2 ((a0_2.length : Int)) 0 (ByteArray.mk #[]) false a0_0 a0_1 0 (([] : List (List V))))
theorem C_term_Own (a0_0 : ByteArray) (a0_1 : Bool) (a0_2 : LL) (Q : QD) (h : vc_term_Own a0_0 a0_1 a0_2 Q) : cl f_term_Own [.agg [.v .str (V.s a0_0), .v .bool (V.b a0_1), .v (.sl t_Term) (V.l a0_2)]] [] Q :=
  acalls2 (E := env_term_Own) (envOk _ _ _ _ _) 1 Try.func27 (by kernel_rfl) h
def env_r01_SameSubst : Env := envA [(4, ua 4 8 (ua 14 28 ([.dead 38])))] [(6, 22, [], [])] [] [] []
def kl_r01_SameSubst_0 (Q : QD) : Post := blockK 0 (seqJ env_r01_SameSubst (fnAt [1, 1, 1] Try.f28) (endK env_r01_SameSubst Try.f28 Q))
@[irreducible] def lp_r01_SameSubst_0 (Q : QD) (m0 : Nat) (x0 x1 : LL) (x12 x13 : Int) : Prop :=
  iter (adj (env_r01_SameSubst.adj 4)) (evCode env_r01_SameSubst (fnAt [1, 1, 0, 1, 0, 0] Try.f28)) (kl_r01_SameSubst_0 Q) m0 ⟨(.v (.sl t_Bind) (V.l x0)) :: (.v (.sl t_Bind) (V.l x1)) :: sk 2 (un 8 ((.v (.int .i64) (V.i x12)) :: (.v (.int .i64) (V.i x13)) :: un 28 ([]))), dd 42 ([])⟩ []
def st_r01_SameSubst_0 (Q : QD) (m0 : Nat) (x0 x1 : LL) (x12 x13 : Int) : Prop :=
  iff (decide (x13 < x12)) (0 ≤ x13 ∧ x13 < x0.length ∧ 0 ≤ x13 ∧ x13 < x1.length ∧ iff (!(((((x0.getD x13.toNat []).drop 0).headD V.none).str).toList == ((((x1.getD x13.toNat []).drop 0).headD V.none).str).toList)) (True ∧ Q (.v .bool (V.b false)) []) (0 ≤ x13 ∧ x13 < x0.length ∧ 0 ≤ x13 ∧ x13 < x1.length ∧ cl f_r01_Equal [.agg [.v .str (((x0.getD x13.toNat []).drop 1).headD V.none), .v .bool ((((x0.getD x13.toNat []).drop 1).tail).headD V.none), .v (.sl t_Term) (((((x0.getD x13.toNat []).drop 1).tail).tail).headD V.none)], .agg [.v .str (((x1.getD x13.toNat []).drop 1).headD V.none), .v .bool ((((x1.getD x13.toNat []).drop 1).tail).headD V.none), .v (.sl t_Term) (((((x1.getD x13.toNat []).drop 1).tail).tail).headD V.none)]] [] fun r1 H2 => r1 = (.v .bool (r1.V)) ∧ H2 = [] ∧ iff (!r1.V.bool) (True ∧ Q (.v .bool (V.b false)) []) (lp_r01_SameSubst_0 Q m0 x0 x1 x12 (IntKind.i64.wrap (x13 + (1 : Int)))))) (True ∧ Q (.v .bool (V.b true)) [])
theorem lp_r01_SameSubst_0_s (Q : QD) (m0 : Nat) (x0 x1 : LL) (x12 x13 : Int) : lp_r01_SameSubst_0 Q (m0 + 1) x0 x1 x12 x13 = st_r01_SameSubst_0 Q m0 x0 x1 x12 x13 := by kernel_rfl
theorem range_r01_SameSubst_0 (Q : QD) (x0 x1 : LL) (n : Nat) (hb : n ≤ big) (J : Nat → Prop)
    (step : ∀ (k : Nat), k < n → J k → ∀ K : Prop, (J (k + 1) → K) → (0 ≤ (k : Int) ∧ (k : Int) < x0.length ∧ 0 ≤ (k : Int) ∧ (k : Int) < x1.length ∧ iff (!(((((x0.getD k []).drop 0).headD V.none).str).toList == ((((x1.getD k []).drop 0).headD V.none).str).toList)) (True ∧ Q (.v .bool (V.b false)) []) (0 ≤ (k : Int) ∧ (k : Int) < x0.length ∧ 0 ≤ (k : Int) ∧ (k : Int) < x1.length ∧ cl f_r01_Equal [.agg [.v .str (((x0.getD k []).drop 1).headD V.none), .v .bool ((((x0.getD k []).drop 1).tail).headD V.none), .v (.sl t_Term) (((((x0.getD k []).drop 1).tail).tail).headD V.none)], .agg [.v .str (((x1.getD k []).drop 1).headD V.none), .v .bool ((((x1.getD k []).drop 1).tail).headD V.none), .v (.sl t_Term) (((((x1.getD k []).drop 1).tail).tail).headD V.none)]] [] fun r1 H2 => r1 = (.v .bool (r1.V)) ∧ H2 = [] ∧ iff (!r1.V.bool) (True ∧ Q (.v .bool (V.b false)) []) (K))))
    (last : J n → (True ∧ Q (.v .bool (V.b true)) []))
    (k : Nat) (le0 : k ≤ n) (hj : J k) : ∃ m0, lp_r01_SameSubst_0 Q m0 x0 x1 (n : Int) ((k : Int)) := by
  exact rangeG0 n hb J (fun m0 i => lp_r01_SameSubst_0 Q m0 x0 x1 (n : Int) i) (fun m0 i => lp_r01_SameSubst_0_s Q m0 x0 x1 (n : Int) i) (fun k hl_ hj_ m_ ih_ => step k hl_ hj_ _ ih_) last k le0 hj
def vc_r01_SameSubst (a0 a1 : LL) (Q : QD) : Prop :=
  (a0.length ≤ big → (a1.length ≤ big → iff (((a0.length : Int)) != ((a1.length : Int))) (True ∧ Q (.v .bool (V.b false)) []) ((a0.length ≤ big → ∃ m0, lp_r01_SameSubst_0 Q m0 a0 a1 ((a0.length : Int)) 0))))
theorem C_r01_SameSubst (a0 a1 : LL) (Q : QD) (h : vc_r01_SameSubst a0 a1 Q) : cl f_r01_SameSubst [.v (.sl t_Bind) (V.l a0), .v (.sl t_Bind) (V.l a1)] [] Q :=
  acalls2 (E := env_r01_SameSubst) (envOk _ _ _ _ _) 0 Try.func28 (by kernel_rfl) h
def env_l03_variable : Env := envA [] [] [] [] []
def vc_l03_variable (a0 : ByteArray) (Q : QD) : Prop :=
  (True ∧ True ∧ True ∧ True) ∧ Q (.agg [.v .str (V.s a0), .v .bool (V.b true), .nil]) []
theorem C_l03_variable (a0 : ByteArray) (Q : QD) (h : vc_l03_variable a0 Q) : cl f_l03_variable [.v .str (V.s a0)] [] Q :=
  acalls2 (E := env_l03_variable) (envOk _ _ _ _ _) 0 Try.func30 (by kernel_rfl) h
def env_l03_symbol : Env := envA [] [] [] [] []
def vc_l03_symbol (a0 : ByteArray) (a1 : LL) (Q : QD) : Prop :=
  (True ∧ True ∧ True ∧ True) ∧ Q (.agg [.v .str (V.s a0), .v .bool (V.b false), .v (.sl t_Term) (V.l a1)]) []
theorem C_l03_symbol (a0 : ByteArray) (a1 : LL) (Q : QD) (h : vc_l03_symbol a0 a1 Q) : cl f_l03_symbol [.v .str (V.s a0), .v (.sl t_Term) (V.l a1)] [] Q :=
  acalls2 (E := env_l03_symbol) (envOk _ _ _ _ _) 0 Try.func29 (by kernel_rfl) h
def env_r03_match : Env := envA [(8, ua 1 2 (ua 6 7 (ua 29 20 (ua 51 21 ([.dead 65]))))), (3000007, ua 1 2 (ua 6 2 (ua 11 2 (ua 29 18 ([.dead 41, .dead 44])))))] [(3, 6, [0], []), (10, 16, [], [])] [] [] [7]
def kl_r03_match_0 (Q : QD) : Post := blockK 0 (seqJ env_r03_match (fnAt [1, 1, 1, 1] Try.f31) (endK env_r03_match Try.f31 Q))
@[irreducible] def lp_r03_match_0 (Q : QD) (m0 : Nat) (x0 : V) (x49 x50 : Int) (y4_0 : ByteArray) (y4_1 : Bool) (y4_2 : LL) (y5_0 : ByteArray) (y5_1 : Bool) (y5_2 : LL) : Prop :=
  iter (adj (env_r03_match.adj 8)) (evCode env_r03_match (fnAt [1, 1, 1, 0, 1, 0, 0] Try.f31)) (kl_r03_match_0 Q) m0 ⟨(.v (.sl t_Bind) (x0)) :: un 2 (.skip :: (.ptr (.loc 4) 0) :: (.ptr (.loc 5) 0) :: un 7 (sk 16 (un 20 ((.v (.int .i64) (V.i x49)) :: (.v (.int .i64) (V.i x50)) :: un 21 ([.skip]))))), dd 4 ((.cells [.v .str (V.s y4_0), .v .bool (V.b y4_1), .v (.sl t_Term) (V.l y4_2)]) :: (.cells [.v .str (V.s y5_0), .v .bool (V.b y5_1), .v (.sl t_Term) (V.l y5_2)]) :: dd 67 ([]))⟩ []
@[irreducible] def jp_r03_match_0 (Q : QD) (x0 : LL) (y4_0 : ByteArray) (y4_1 : Bool) (y4_2 : LL) (y5_0 : ByteArray) (y5_1 : Bool) (y5_2 : LL) : Prop :=
  joinM (evCode env_r03_match (fnAt [1, 1, 1] Try.f31)) ⟨(.v (.sl t_Bind) (V.l x0)) :: un 2 (.skip :: (.ptr (.loc 4) 0) :: (.ptr (.loc 5) 0) :: un 2 (sk 3 (un 2 (sk 16 (un 18 (sk 26 ([]))))))), dd 4 ((.cells [.v .str (V.s y4_0), .v .bool (V.b y4_1), .v (.sl t_Term) (V.l y4_2)]) :: (.cells [.v .str (V.s y5_0), .v .bool (V.b y5_1), .v (.sl t_Term) (V.l y5_2)]) :: dd 67 ([]))⟩ [] (endK env_r03_match Try.f31 Q)
def st_r03_match_0 (Q : QD) (m0 : Nat) (x0 : V) (x49 x50 : Int) (y4_0 : ByteArray) (y4_1 : Bool) (y4_2 : LL) (y5_0 : ByteArray) (y5_1 : Bool) (y5_2 : LL) : Prop :=
  iff (decide (x50 < x49)) (0 ≤ x50 ∧ x50 < y4_2.length ∧ 0 ≤ x50 ∧ x50 < y5_2.length ∧ (∃ r1 : D, cl f_r03_match [.v (.sl t_Bind) (x0), .agg [.v .str (((y4_2.getD x50.toNat []).drop 0).headD V.none), .v .bool ((((y4_2.getD x50.toNat []).drop 0).tail).headD V.none), .v (.sl t_Term) (((((y4_2.getD x50.toNat []).drop 0).tail).tail).headD V.none)], .agg [.v .str (((y5_2.getD x50.toNat []).drop 0).headD V.none), .v .bool ((((y5_2.getD x50.toNat []).drop 0).tail).headD V.none), .v (.sl t_Term) (((((y5_2.getD x50.toNat []).drop 0).tail).tail).headD V.none)]] [] (fun r H' => r = (.tup [.v (.sl t_Bind) ((r1.parts.headD .undef).V), .v .bool ((r1.parts.tail.headD .undef).V)]) ∧ H' = []) ∧ iff (!(((r1.parts.tail.headD .undef).V).bool)) ((True ∧ True ∧ True) ∧ Q (.tup [.nil, .v .bool (V.b false)]) []) (lp_r03_match_0 Q m0 ((r1.parts.headD .undef).V) x49 (IntKind.i64.wrap (x50 + (1 : Int))) y4_0 y4_1 y4_2 y5_0 y5_1 y5_2))) ((True ∧ True ∧ True) ∧ Q (.tup [.v (.sl t_Bind) (x0), .v .bool (V.b true)]) [])
theorem lp_r03_match_0_s (Q : QD) (m0 : Nat) (x0 : V) (x49 x50 : Int) (y4_0 : ByteArray) (y4_1 : Bool) (y4_2 : LL) (y5_0 : ByteArray) (y5_1 : Bool) (y5_2 : LL) : lp_r03_match_0 Q (m0 + 1) x0 x49 x50 y4_0 y4_1 y4_2 y5_0 y5_1 y5_2 = st_r03_match_0 Q m0 x0 x49 x50 y4_0 y4_1 y4_2 y5_0 y5_1 y5_2 := by kernel_rfl
theorem range_r03_match_0 (Q : QD) (y4_0 : ByteArray) (y4_1 : Bool) (y4_2 : LL) (y5_0 : ByteArray) (y5_1 : Bool) (y5_2 : LL) (n : Nat) (hb : n ≤ big) (J : Nat → V → Prop)
    (step : ∀ (k : Nat) (x0 : V), k < n → J k x0 → ∀ K : V → Prop, (∀ (x0' : V), J (k + 1) x0' → K x0') → (0 ≤ (k : Int) ∧ (k : Int) < y4_2.length ∧ 0 ≤ (k : Int) ∧ (k : Int) < y5_2.length ∧ (∃ r1 : D, cl f_r03_match [.v (.sl t_Bind) (x0), .agg [.v .str (((y4_2.getD k []).drop 0).headD V.none), .v .bool ((((y4_2.getD k []).drop 0).tail).headD V.none), .v (.sl t_Term) (((((y4_2.getD k []).drop 0).tail).tail).headD V.none)], .agg [.v .str (((y5_2.getD k []).drop 0).headD V.none), .v .bool ((((y5_2.getD k []).drop 0).tail).headD V.none), .v (.sl t_Term) (((((y5_2.getD k []).drop 0).tail).tail).headD V.none)]] [] (fun r H' => r = (.tup [.v (.sl t_Bind) ((r1.parts.headD .undef).V), .v .bool ((r1.parts.tail.headD .undef).V)]) ∧ H' = []) ∧ iff (!(((r1.parts.tail.headD .undef).V).bool)) ((True ∧ True ∧ True) ∧ Q (.tup [.nil, .v .bool (V.b false)]) []) (K ((r1.parts.headD .undef).V)))))
    (last : ∀ (x0 : V), J n x0 → ((True ∧ True ∧ True) ∧ Q (.tup [.v (.sl t_Bind) (x0), .v .bool (V.b true)]) []))
    (k : Nat) (x0 : V) (le0 : k ≤ n) (hj : J k x0) : ∃ m0, lp_r03_match_0 Q m0 x0 (n : Int) ((k : Int)) y4_0 y4_1 y4_2 y5_0 y5_1 y5_2 := by
  exact rangeG1 n hb J (fun m0 i x0 => lp_r03_match_0 Q m0 x0 (n : Int) i y4_0 y4_1 y4_2 y5_0 y5_1 y5_2) (fun m0 i x0 => lp_r03_match_0_s Q m0 x0 (n : Int) i y4_0 y4_1 y4_2 y5_0 y5_1 y5_2) (fun k x0 hl_ hj_ m_ ih_ => step k x0 hl_ hj_ _ ih_) last k x0 le0 hj
def je_r03_match_0 (Q : QD) (x0 : LL) (y4_0 : ByteArray) (y4_1 : Bool) (y4_2 : LL) (y5_0 : ByteArray) (y5_1 : Bool) (y5_2 : LL) : Prop :=
  (y5_2.length ≤ big → ∃ m0, lp_r03_match_0 Q m0 (V.l x0) ((y5_2.length : Int)) 0 y4_0 y4_1 y4_2 y5_0 y5_1 y5_2)
theorem jp_r03_match_0_s (Q : QD) (x0 : LL) (y4_0 : ByteArray) (y4_1 : Bool) (y4_2 : LL) (y5_0 : ByteArray) (y5_1 : Bool) (y5_2 : LL) : jp_r03_match_0 Q x0 y4_0 y4_1 y4_2 y5_0 y5_1 y5_2 = je_r03_match_0 Q x0 y4_0 y4_1 y4_2 y5_0 y5_1 y5_2 := by kernel_rfl
def vc_r03_match (a0 : LL) (a1_0 : ByteArray) (a1_1 : Bool) (a1_2 : LL) (a2_0 : ByteArray) (a2_1 : Bool) (a2_2 : LL) (Q : QD) : Prop :=
  iff a1_1 (cl f_r03_Bound [.v (.sl t_Bind) (V.l a0), .v .str (V.s a1_0)] [] fun r1 H2 => r1 = (.v .bool (r1.V)) ∧ H2 = [] ∧ iff r1.V.bool ((∃ r3 : D, cl f_r01_Image [.v (.sl t_Bind) (V.l a0), .v .str (V.s a1_0)] [] (fun r H' => r = (.agg [.v .str ((r3.cells.headD .undef).V), .v .bool ((r3.cells.tail.headD .undef).V), .v (.sl t_Term) ((r3.cells.tail.tail.headD .undef).V)]) ∧ H' = []) ∧ cl f_r01_Equal [.agg [.v .str ((r3.cells.headD .undef).V), .v .bool ((r3.cells.tail.headD .undef).V), .v (.sl t_Term) ((r3.cells.tail.tail.headD .undef).V)], .agg [.v .str (V.s a2_0), .v .bool (V.b a2_1), .v (.sl t_Term) (V.l a2_2)]] [] fun r4 H5 => r4 = (.v .bool (r4.V)) ∧ H5 = [] ∧ (True ∧ True ∧ True) ∧ Q (.tup [.v (.sl t_Bind) (V.l a0), .v .bool (r4.V)]) [])) (cl f_r03_with [.v (.sl t_Bind) (V.l a0), .v .str (V.s a1_0), .agg [.v .str (V.s a2_0), .v .bool (V.b a2_1), .v (.sl t_Term) (V.l a2_2)]] [] fun r6 H7 => r6 = (.v (.sl t_Bind) (r6.V)) ∧ H7 = [] ∧ (True ∧ True ∧ True) ∧ Q (.tup [.v (.sl t_Bind) (r6.V), .v .bool (V.b true)]) [])) (iff a2_1 ((True ∧ True ∧ True) ∧ Q (.tup [.nil, .v .bool (V.b false)]) []) (iff (!(a2_0.toList == a1_0.toList)) ((True ∧ True ∧ True) ∧ Q (.tup [.nil, .v .bool (V.b false)]) []) ((a2_2.length ≤ big → (a1_2.length ≤ big → iff (((a2_2.length : Int)) != ((a1_2.length : Int))) ((True ∧ True ∧ True) ∧ Q (.tup [.nil, .v .bool (V.b false)]) []) (jp_r03_match_0 Q a0 a1_0 a1_1 a1_2 a2_0 a2_1 a2_2))))))
theorem C_r03_match (a0 : LL) (a1_0 : ByteArray) (a1_1 : Bool) (a1_2 : LL) (a2_0 : ByteArray) (a2_1 : Bool) (a2_2 : LL) (Q : QD) (h : vc_r03_match a0 a1_0 a1_1 a1_2 a2_0 a2_1 a2_2 Q) : cl f_r03_match [.v (.sl t_Bind) (V.l a0), .agg [.v .str (V.s a1_0), .v .bool (V.b a1_1), .v (.sl t_Term) (V.l a1_2)], .agg [.v .str (V.s a2_0), .v .bool (V.b a2_1), .v (.sl t_Term) (V.l a2_2)]] [] Q :=
  acalls2 (E := env_r03_match) (envOk _ _ _ _ _) 0 Try.func31 (by kernel_rfl) h
def env_term_CheckRules : Env := envA [(4, (.undef 0) :: (.undef 2) :: ua 4 5 (ua 12 13 ((.dead 4) :: da 19 2 ([]))))] [] [] [] []
def kl_term_CheckRules_0 (Q : QD) : Post := blockK 0 (seqJ env_term_CheckRules (fnAt [1, 1, 1] Try.f32) (endK env_term_CheckRules Try.f32 Q))
@[irreducible] def lp_term_CheckRules_0 (Q : QD) (m0 : Nat) (x9 : LL) (x10 x11 : Int) : Prop :=
  iter (adj (env_term_CheckRules.adj 4)) (evCode env_term_CheckRules (fnAt [1, 1, 0, 1, 0, 0] Try.f32)) (kl_term_CheckRules_0 Q) m0 ⟨.undef :: .skip :: .undef :: .skip :: un 5 ((.v (.sl t_Rule) (V.l x9)) :: (.v (.int .i64) (V.i x10)) :: (.v (.int .i64) (V.i x11)) :: un 13 ([])), dd 25 ([])⟩ []
def st_term_CheckRules_0 (Q : QD) (m0 : Nat) (x9 : LL) (x10 x11 : Int) : Prop :=
  iff (decide (x11 < x10)) (0 ≤ x11 ∧ x11 < x9.length ∧ cl f_term_All [.v (.sl t_Term) (V.l ([[((x9.getD x11.toNat []).drop 0).headD V.none, (((x9.getD x11.toNat []).drop 0).tail).headD V.none, ((((x9.getD x11.toNat []).drop 0).tail).tail).headD V.none], [(((((x9.getD x11.toNat []).drop 0).tail).tail).tail).headD V.none, ((((((x9.getD x11.toNat []).drop 0).tail).tail).tail).tail).headD V.none, (((((((x9.getD x11.toNat []).drop 0).tail).tail).tail).tail).tail).headD V.none]]))] [] fun r1 H2 => r1 = (.v (.int .i64) (r1.V)) ∧ H2 = [] ∧ iff (r1.V.int != (0 : Int)) (True ∧ Q (.v (.int .i64) (r1.V)) []) (lp_term_CheckRules_0 Q m0 x9 x10 (IntKind.i64.wrap (x11 + (1 : Int))))) (True ∧ Q (.v (.int .i64) (V.i 0)) [])
theorem lp_term_CheckRules_0_s (Q : QD) (m0 : Nat) (x9 : LL) (x10 x11 : Int) : lp_term_CheckRules_0 Q (m0 + 1) x9 x10 x11 = st_term_CheckRules_0 Q m0 x9 x10 x11 := by kernel_rfl
theorem range_term_CheckRules_0 (Q : QD) (x9 : LL) (n : Nat) (hb : n ≤ big) (J : Nat → Prop)
    (step : ∀ (k : Nat), k < n → J k → ∀ K : Prop, (J (k + 1) → K) → (0 ≤ (k : Int) ∧ (k : Int) < x9.length ∧ cl f_term_All [.v (.sl t_Term) (V.l ([[((x9.getD k []).drop 0).headD V.none, (((x9.getD k []).drop 0).tail).headD V.none, ((((x9.getD k []).drop 0).tail).tail).headD V.none], [(((((x9.getD k []).drop 0).tail).tail).tail).headD V.none, ((((((x9.getD k []).drop 0).tail).tail).tail).tail).headD V.none, (((((((x9.getD k []).drop 0).tail).tail).tail).tail).tail).headD V.none]]))] [] fun r1 H2 => r1 = (.v (.int .i64) (r1.V)) ∧ H2 = [] ∧ iff (r1.V.int != (0 : Int)) (True ∧ Q (.v (.int .i64) (r1.V)) []) (K)))
    (last : J n → (True ∧ Q (.v (.int .i64) (V.i 0)) []))
    (k : Nat) (le0 : k ≤ n) (hj : J k) : ∃ m0, lp_term_CheckRules_0 Q m0 x9 (n : Int) ((k : Int)) := by
  exact rangeG0 n hb J (fun m0 i => lp_term_CheckRules_0 Q m0 x9 (n : Int) i) (fun m0 i => lp_term_CheckRules_0_s Q m0 x9 (n : Int) i) (fun k hl_ hj_ m_ ih_ => step k hl_ hj_ _ ih_) last k le0 hj
def vc_term_CheckRules (a0 : LL) (Q : QD) : Prop :=
  (a0.length ≤ big → iff (decide (((a0.length : Int)) > (64 : Int))) (True ∧ Q (.v (.int .i64) (V.i 3)) []) ((a0.length ≤ big → ∃ m0, lp_term_CheckRules_0 Q m0 a0 ((a0.length : Int)) 0)))
theorem C_term_CheckRules (a0 : LL) (Q : QD) (h : vc_term_CheckRules a0 Q) : cl f_term_CheckRules [.v (.sl t_Rule) (V.l a0)] [] Q :=
  acalls2 (E := env_term_CheckRules) (envOk _ _ _ _ _) 0 Try.func32 (by kernel_rfl) h
def env_unify_Solve : Env := envA [(3, (.undef 0) :: ua 2 3 ((.undef 7) :: ua 13 4 (ua 20 11 ([.dead 7, .dead 28])))), (11, (.undef 0) :: ua 2 3 ((.undef 7) :: ua 10 26 (ua 37 24 (da 11 2 ((.dead 46) :: da 59 2 ([.ownT 8 62 t_Bind])))))), (3000017, (.undef 0) :: ua 2 3 ((.undef 7) :: ua 12 24 (ua 37 24 ([.dead 12, .dead 46]))))] [] [] [] [17]
def kl_unify_Solve_0 (Q : QD) : Post := blockK 0 (seqJ env_unify_Solve (fnAt [1, 1, 1] Try.f33) (endK env_unify_Solve Try.f33 Q))
def kl_unify_Solve_1 (Q : QD) : Post := blockK 2 (seqJ env_unify_Solve (fnAt [1, 1, 1, 1, 1, 1] Try.f33) (endK env_unify_Solve Try.f33 Q))
@[irreducible] def jp_unify_Solve_0 (Q : QD) (m1 : Nat) (x8n : Nat) (x10 y11_0 : V) (y11_1 : Bool) (y13 y14 y31 : LL) (y36n : Nat) (y36s : List Nat) (y62 : LL) : Prop :=
  joinM (evCode env_unify_Solve (fnAt [1, 1, 1, 1, 1, 0, 1, 0, 0, 1, 1, 0, 1, 1, 1] Try.f33)) ⟨.undef :: .skip :: un 3 ((.ptr (.loc 16) 0) :: .skip :: .undef :: (.osl (.loc 62) x8n) :: (.mp (.loc 31)) :: (.v .str (x10)) :: (.ptr (.loc 11) 0) :: un 24 ((.ptr (.loc 36) 0) :: un 24 ([.skip]))), dd 11 ((.cells [.v .str (y11_0), .v .bool (V.b y11_1), .nil]) :: .dead :: (.map mt_9_24 y13) :: (.map mt_82_4 y14) :: .dead :: (.cells [.mp (.loc 13), .mp (.loc 14)]) :: dd 14 ((.map mt_9_80 y31) :: dd 4 ((.iter mt_9_24 (.mp (.loc 13)) y36n y36s) :: dd 25 ([.row t_Bind y62]))))⟩ [] (blockK 3 (loopK (adj (env_unify_Solve.adj 11)) (iter (adj (env_unify_Solve.adj 11)) (evCode env_unify_Solve (fnAt [1, 1, 1, 1, 1, 0, 1, 0, 0] Try.f33)) (kl_unify_Solve_1 Q) m1) (kl_unify_Solve_1 Q)))
@[irreducible] def lp_unify_Solve_1 (Q : QD) (m1 : Nat) (x8n : Nat) (y13 y14 y31 : LL) (y36n : Nat) (y36s : List Nat) (y62 : LL) : Prop :=
  iter (adj (env_unify_Solve.adj 11)) (evCode env_unify_Solve (fnAt [1, 1, 1, 1, 1, 0, 1, 0, 0] Try.f33)) (kl_unify_Solve_1 Q) m1 ⟨.undef :: .skip :: un 3 ((.ptr (.loc 16) 0) :: .skip :: .undef :: (.osl (.loc 62) x8n) :: (.mp (.loc 31)) :: un 26 ((.ptr (.loc 36) 0) :: un 24 ([.skip]))), dd 13 ((.map mt_9_24 y13) :: (.map mt_82_4 y14) :: .dead :: (.cells [.mp (.loc 13), .mp (.loc 14)]) :: dd 14 ((.map mt_9_80 y31) :: dd 4 ((.iter mt_9_24 (.mp (.loc 13)) y36n y36s) :: dd 25 ([.row t_Bind y62]))))⟩ []
@[irreducible] def lp_unify_Solve_0 (Q : QD) (m0 : Nat) (x17 : LL) (x18 x19 : Int) (y13 y14 : LL) : Prop :=
  iter (adj (env_unify_Solve.adj 3)) (evCode env_unify_Solve (fnAt [1, 1, 0, 1, 0, 0] Try.f33)) (kl_unify_Solve_0 Q) m0 ⟨.undef :: .skip :: un 3 ((.ptr (.loc 16) 0) :: .skip :: .undef :: sk 5 (un 4 ((.v (.sl t_Rule) (V.l x17)) :: (.v (.int .i64) (V.i x18)) :: (.v (.int .i64) (V.i x19)) :: un 11 (sk 31 ([]))))), dd 13 ((.map mt_9_24 y13) :: (.map mt_82_4 y14) :: .dead :: (.cells [.mp (.loc 13), .mp (.loc 14)]) :: dd 46 ([]))⟩ []
def je_unify_Solve_0 (Q : QD) (m1 : Nat) (x8n : Nat) (x10 y11_0 : V) (y11_1 : Bool) (y13 y14 y31 : LL) (y36n : Nat) (y36s : List Nat) (y62 : LL) : Prop :=
  cl f_unify_unifier_whole [.ptr (.own 0) 0, .agg [.v .str (y11_0), .v .bool (V.b y11_1), .nil]] [.cells [.mp (.own 1), .mp (.own 2)], .map mt_9_24 y13, .map mt_82_4 y14] fun r1 H2 => r1 = (.agg [.v .str ((r1.cells.headD .undef).V), .v .bool ((r1.cells.tail.headD .undef).V), .v (.sl t_Term) ((r1.cells.tail.tail.headD .undef).V)]) ∧ H2 = [.cells [.mp (.own 1), .mp (.own 2)], .map mt_9_24 ((H2.tail.headD .dead).xs), .map mt_82_4 ((H2.tail.tail.headD .dead).xs)] ∧ cl f_unify_bind [.osl (.own 0) x8n, .v .str (x10), .agg [.v .str ((r1.cells.headD .undef).V), .v .bool ((r1.cells.tail.headD .undef).V), .v (.sl t_Term) ((r1.cells.tail.tail.headD .undef).V)]] [.row t_Bind y62] fun r3 H4 => r3 = (.osl (.own 0) r3.len) ∧ H4 = [.row t_Bind ((H4.headD .dead).xs)] ∧ lp_unify_Solve_1 Q m1 r3.len ((H2.tail.headD .dead).xs) ((H2.tail.tail.headD .dead).xs) y31 y36n y36s ((H4.headD .dead).xs)
theorem jp_unify_Solve_0_s (Q : QD) (m1 : Nat) (x8n : Nat) (x10 y11_0 : V) (y11_1 : Bool) (y13 y14 y31 : LL) (y36n : Nat) (y36s : List Nat) (y62 : LL) : jp_unify_Solve_0 Q m1 x8n x10 y11_0 y11_1 y13 y14 y31 y36n y36s y62 = je_unify_Solve_0 Q m1 x8n x10 y11_0 y11_1 y13 y14 y31 y36n y36s y62 := by kernel_rfl
def st_unify_Solve_1 (Q : QD) (m1 : Nat) (x8n : Nat) (y13 y14 y31 : LL) (y36n : Nat) (y36s : List Nat) (y62 : LL) : Prop :=
  y13.length = y36n ∧ ((∀ j : Nat, j < y36n → j ∈ y36s) → ((x8n = y62.length) ∧ True ∧ True ∧ True) ∧ Q (.tup [.v (.sl t_Bind) (V.l y62), .v .bool (V.b true), .v (.int .i64) (V.i 0)]) []) ∧ (∀ j1 : Nat, j1 < y36n → j1 ∉ y36s → y36s.length < y36n → y13.length = y36n ∧ cl f_unify_unifier_measure [.ptr (.own 0) 0, .agg [.v .str ((y13.getD j1 []).headD V.none), .v .bool (V.b true), .nil], .mp (.own 3)] [.cells [.mp (.own 1), .mp (.own 2)], .map mt_9_24 y13, .map mt_82_4 y14, .map mt_9_80 y31] fun r2 H3 => r2 = (.agg [.v (.int .i64) ((r2.cells.headD .undef).V), .v (.int .i64) ((r2.cells.tail.headD .undef).V)]) ∧ H3 = [.cells [.mp (.own 1), .mp (.own 2)], .map mt_9_24 ((H3.tail.headD .dead).xs), .map mt_82_4 ((H3.tail.tail.headD .dead).xs), .map mt_9_80 ((H3.tail.tail.tail.headD .dead).xs)] ∧ iff (decide ((((r2.cells.headD .undef).V).int) > (4000 : Int))) ((True ∧ True ∧ True ∧ True) ∧ Q (.tup [.nil, .v .bool (V.b false), .v (.int .i64) (V.i 3)]) []) (iff (decide ((((r2.cells.tail.headD .undef).V).int) > (200 : Int))) ((True ∧ True ∧ True ∧ True) ∧ Q (.tup [.nil, .v .bool (V.b false), .v (.int .i64) (V.i 3)]) []) (jp_unify_Solve_0 Q m1 x8n ((y13.getD j1 []).headD V.none) ((y13.getD j1 []).headD V.none) true ((H3.tail.headD .dead).xs) ((H3.tail.tail.headD .dead).xs) ((H3.tail.tail.tail.headD .dead).xs) y36n (j1 :: y36s) y62)))
theorem lp_unify_Solve_1_s (Q : QD) (m1 : Nat) (x8n : Nat) (y13 y14 y31 : LL) (y36n : Nat) (y36s : List Nat) (y62 : LL) : lp_unify_Solve_1 Q (m1 + 1) x8n y13 y14 y31 y36n y36s y62 = st_unify_Solve_1 Q m1 x8n y13 y14 y31 y36n y36s y62 := by kernel_rfl
theorem rule_unify_Solve_1 (Q : QD) : RuleG7 (lp_unify_Solve_1 Q) (st_unify_Solve_1 Q) := ruleG7 _ _ (lp_unify_Solve_1_s Q)
def st_unify_Solve_0 (Q : QD) (m0 : Nat) (x17 : LL) (x18 x19 : Int) (y13 y14 : LL) : Prop :=
  iff (decide (x19 < x18)) (0 ≤ x19 ∧ x19 < x17.length ∧ cl f_unify_unifier_solve [.ptr (.own 0) 0, .agg [.v .str (((x17.getD x19.toNat []).drop 0).headD V.none), .v .bool ((((x17.getD x19.toNat []).drop 0).tail).headD V.none), .v (.sl t_Term) (((((x17.getD x19.toNat []).drop 0).tail).tail).headD V.none)], .agg [.v .str ((((((x17.getD x19.toNat []).drop 0).tail).tail).tail).headD V.none), .v .bool (((((((x17.getD x19.toNat []).drop 0).tail).tail).tail).tail).headD V.none), .v (.sl t_Term) ((((((((x17.getD x19.toNat []).drop 0).tail).tail).tail).tail).tail).headD V.none)]] [.cells [.mp (.own 1), .mp (.own 2)], .map mt_9_24 y13, .map mt_82_4 y14] fun r1 H2 => r1 = (.v .bool (r1.V)) ∧ H2 = [.cells [.mp (.own 1), .mp (.own 2)], .map mt_9_24 ((H2.tail.headD .dead).xs), .map mt_82_4 ((H2.tail.tail.headD .dead).xs)] ∧ iff (!r1.V.bool) ((True ∧ True ∧ True ∧ True) ∧ Q (.tup [.nil, .v .bool (V.b false), .v (.int .i64) (V.i 0)]) []) (lp_unify_Solve_0 Q m0 x17 x18 (IntKind.i64.wrap (x19 + (1 : Int))) ((H2.tail.headD .dead).xs) ((H2.tail.tail.headD .dead).xs))) (∃ m1, lp_unify_Solve_1 Q m1 0 y13 y14 (([] : List (List V))) y13.length (([] : List Nat)) (([] : List (List V))))
theorem lp_unify_Solve_0_s (Q : QD) (m0 : Nat) (x17 : LL) (x18 x19 : Int) (y13 y14 : LL) : lp_unify_Solve_0 Q (m0 + 1) x17 x18 x19 y13 y14 = st_unify_Solve_0 Q m0 x17 x18 x19 y13 y14 := by kernel_rfl
theorem range_unify_Solve_0 (Q : QD) (x17 : LL) (n : Nat) (hb : n ≤ big) (J : Nat → LL → LL → Prop)
    (step : ∀ (k : Nat) (y13 y14 : LL), k < n → J k y13 y14 → ∀ K : LL → LL → Prop, (∀ (y13' y14' : LL), J (k + 1) y13' y14' → K y13' y14') → (0 ≤ (k : Int) ∧ (k : Int) < x17.length ∧ cl f_unify_unifier_solve [.ptr (.own 0) 0, .agg [.v .str (((x17.getD k []).drop 0).headD V.none), .v .bool ((((x17.getD k []).drop 0).tail).headD V.none), .v (.sl t_Term) (((((x17.getD k []).drop 0).tail).tail).headD V.none)], .agg [.v .str ((((((x17.getD k []).drop 0).tail).tail).tail).headD V.none), .v .bool (((((((x17.getD k []).drop 0).tail).tail).tail).tail).headD V.none), .v (.sl t_Term) ((((((((x17.getD k []).drop 0).tail).tail).tail).tail).tail).headD V.none)]] [.cells [.mp (.own 1), .mp (.own 2)], .map mt_9_24 y13, .map mt_82_4 y14] fun r1 H2 => r1 = (.v .bool (r1.V)) ∧ H2 = [.cells [.mp (.own 1), .mp (.own 2)], .map mt_9_24 ((H2.tail.headD .dead).xs), .map mt_82_4 ((H2.tail.tail.headD .dead).xs)] ∧ iff (!r1.V.bool) ((True ∧ True ∧ True ∧ True) ∧ Q (.tup [.nil, .v .bool (V.b false), .v (.int .i64) (V.i 0)]) []) (K ((H2.tail.headD .dead).xs) ((H2.tail.tail.headD .dead).xs))))
    (last : ∀ (y13 y14 : LL), J n y13 y14 → (∃ m1, lp_unify_Solve_1 Q m1 0 y13 y14 (([] : List (List V))) y13.length (([] : List Nat)) (([] : List (List V)))))
    (k : Nat) (y13 y14 : LL) (le0 : k ≤ n) (hj : J k y13 y14) : ∃ m0, lp_unify_Solve_0 Q m0 x17 (n : Int) ((k : Int)) y13 y14 := by
  exact rangeG2 n hb J (fun m0 i y13 y14 => lp_unify_Solve_0 Q m0 x17 (n : Int) i y13 y14) (fun m0 i y13 y14 => lp_unify_Solve_0_s Q m0 x17 (n : Int) i y13 y14) (fun k y13 y14 hl_ hj_ m_ ih_ => step k y13 y14 hl_ hj_ _ ih_) last k y13 y14 le0 hj
def vc_unify_Solve (a0 : LL) (Q : QD) : Prop :=
  (a0.length ≤ big → ∃ m0, lp_unify_Solve_0 Q m0 a0 ((a0.length : Int)) 0 (([] : List (List V))) (([] : List (List V))))
theorem C_unify_Solve (a0 : LL) (Q : QD) (h : vc_unify_Solve a0 Q) : cl f_unify_Solve [.v (.sl t_Rule) (V.l a0)] [] Q :=
  acalls2 (E := env_unify_Solve) (envOk _ _ _ _ _) 1 Try.func33 (by kernel_rfl) h
end Go.Proofs.Ytgohjdaepcmonaa
