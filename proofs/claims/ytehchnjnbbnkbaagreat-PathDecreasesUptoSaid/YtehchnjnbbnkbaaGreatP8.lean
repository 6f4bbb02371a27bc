/-
  Texts T, KitA, KitB of this proof, joined.
-/
import Derived.Test.YtehchnjnbbnkbaaGreatProg
import Derived.KernelRfl
import Derived.IntWalk
import Derived.Test.YtehchnjnbbnkbaaGreatP7
set_option linter.unusedVariables false
namespace Go.Proofs.YtehchnjnbbnkbaaGreat
open Go.Abs
abbrev mt_9_3 : MT := ⟨9, 3, false, false⟩
abbrev mt_9_4 : MT := ⟨9, 4, false, false⟩
def tab : Tab := [
  ⟨2, false, [.int .i64], [], none, .int .i64, none, none⟩,
  ⟨3, false, [.int .i64], [], none, .int .i64, none, none⟩,
  ⟨4, false, [.bool], [], none, .bool, none, none⟩,
  ⟨5, false, [.int .u8], [], none, .int .u8, none, none⟩,
  ⟨6, false, [.int .u8], [], none, .int .u8, none, none⟩,
  ⟨7, true, [.int .i64, .int .i64, .bool, .int .u8], [(0, 2), (1, 3), (2, 4), (3, 6)], none, .oth, none, none⟩,
  ⟨8, true, [.int .i64, .int .i64, .bool, .int .u8], [(0, 2), (1, 3), (2, 4), (3, 6)], none, .oth, none, none⟩,
  ⟨9, false, [.str], [], none, .str, none, none⟩,
  ⟨10, false, [.str], [], none, .str, none, none⟩,
  ⟨11, false, [.str], [], none, .str, none, none⟩,
  ⟨12, false, [.int .u64], [], none, .int .u64, none, none⟩,
  ⟨13, true, [.str, .int .u64], [(0, 9), (1, 12)], none, .oth, none, none⟩,
  ⟨14, true, [.str, .int .u64], [(0, 9), (1, 12)], none, .oth, none, none⟩,
  ⟨15, false, [.oth], [], none, .oth, none, none⟩,
  ⟨16, false, [.oth], [], none, .oth, none, none⟩,
  ⟨17, false, [.oth], [], none, .oth, none, none⟩,
  ⟨18, true, [.oth], [(0, 17)], none, .oth, none, none⟩,
  ⟨19, true, [.oth], [(0, 17)], none, .oth, none, none⟩,
  ⟨21, false, [.int .i32], [], none, .int .i32, none, none⟩,
  ⟨22, false, [.sl 46], [], some 46, .sl 46, none, none⟩,
  ⟨23, false, [.sl 35], [], some 35, .sl 35, none, none⟩,
  ⟨24, false, [.sl 4], [], some 4, .sl 4, none, none⟩,
  ⟨25, false, [.int .i64], [], none, .int .i64, none, none⟩,
  ⟨31, false, [.sl 33], [], some 33, .sl 33, none, none⟩,
  ⟨32, true, [.str, .bool, .sl 33], [(0, 9), (1, 4), (2, 31)], none, .oth, none, none⟩,
  ⟨33, true, [.str, .bool, .sl 33], [(0, 9), (1, 4), (2, 31)], none, .oth, none, none⟩,
  ⟨34, true, [.str, .bool, .sl 33, .str, .bool, .sl 33], [(0, 33), (3, 33)], none, .oth, none, none⟩,
  ⟨35, true, [.str, .bool, .sl 33, .str, .bool, .sl 33], [(0, 33), (3, 33)], none, .oth, none, none⟩,
  ⟨39, false, [.sl 59], [], some 59, .sl 59, none, none⟩,
  ⟨40, true, [.str, .bool, .sl 33, .sl 59], [(0, 33), (3, 39)], none, .oth, none, none⟩,
  ⟨41, true, [.str, .bool, .sl 33, .sl 59], [(0, 33), (3, 39)], none, .oth, none, none⟩,
  ⟨45, true, [.str, .int .i64, .int .i64], [(0, 9), (1, 3), (2, 3)], none, .oth, none, none⟩,
  ⟨46, true, [.str, .int .i64, .int .i64], [(0, 9), (1, 3), (2, 3)], none, .oth, none, none⟩,
  ⟨47, false, [.sl 111], [], some 111, .sl 111, none, none⟩,
  ⟨57, false, [.sl 3], [], some 3, .sl 3, none, none⟩,
  ⟨58, true, [.int .i64, .sl 3], [(0, 3), (1, 57)], none, .oth, none, none⟩,
  ⟨59, true, [.int .i64, .sl 3], [(0, 3), (1, 57)], none, .oth, none, none⟩,
  ⟨66, false, [.mp mt_9_3], [], none, .mp mt_9_3, none, some mt_9_3⟩,
  ⟨72, false, [.sl 108], [], some 108, .sl 108, none, none⟩,
  ⟨74, false, [.oth], [], none, .oth, none, none⟩,
  ⟨75, false, [.sl 5], [], some 5, .sl 5, none, none⟩,
  ⟨76, true, [.sl 46, .sl 108, .sl 108, .sl 5, .sl 5], [(0, 22), (1, 72), (2, 72), (3, 75), (4, 75)], none, .oth, none, none⟩,
  ⟨77, true, [.sl 46, .sl 108, .sl 108, .sl 5, .sl 5], [(0, 22), (1, 72), (2, 72), (3, 75), (4, 75)], none, .oth, none, none⟩,
  ⟨83, false, [.sl 9], [], some 9, .sl 9, none, none⟩,
  ⟨90, false, [.sl 132], [], some 132, .sl 132, none, none⟩,
  ⟨99, true, [.str, .bool, .sl 33, .str, .bool, .sl 33], [], none, .oth, some (2, 33), none⟩,
  ⟨107, true, [.str, .bool, .sl 33, .sl 3], [(0, 33), (3, 57)], none, .oth, none, none⟩,
  ⟨108, true, [.str, .bool, .sl 33, .sl 3], [(0, 33), (3, 57)], none, .oth, none, none⟩,
  ⟨110, true, [.str, .int .i64], [(0, 9), (1, 3)], none, .oth, none, none⟩,
  ⟨111, true, [.str, .int .i64], [(0, 9), (1, 3)], none, .oth, none, none⟩,
  ⟨123, false, [.mp mt_9_4], [], none, .mp mt_9_4, none, some mt_9_4⟩,
  ⟨131, true, [.str, .str, .bool, .sl 33], [(0, 9), (1, 33)], none, .oth, none, none⟩,
  ⟨132, true, [.str, .str, .bool, .sl 33], [(0, 9), (1, 33)], none, .oth, none, none⟩,
  ⟨137, false, [.int .u64], [], none, .int .u64, none, none⟩,
  ⟨145, false, [.int .i64], [], none, .int .i64, none, none⟩,
  ⟨152, false, [.int .u32], [], none, .int .u32, none, none⟩,
  ⟨154, false, [.int .u64], [], none, .int .u64, none, none⟩,
  ⟨156, false, [.int .u64], [], none, .int .u64, none, none⟩,
  ⟨160, false, [.oth], [], none, .oth, none, none⟩,
  ⟨162, false, [.oth], [], none, .oth, none, none⟩,
  ⟨165, true, [.oth, .oth, .oth, .str], [(0, 17), (1, 17), (2, 17), (3, 9)], none, .oth, none, none⟩,
  ⟨166, true, [.oth, .oth, .oth, .str], [(0, 17), (1, 17), (2, 17), (3, 9)], none, .oth, none, none⟩,
  ⟨167, true, [], [], none, .oth, some (0, 16), none⟩,
  ⟨168, true, [], [(0, 167)], none, .oth, none, none⟩,
  ⟨169, true, [], [(0, 167)], none, .oth, none, none⟩,
  ⟨171, false, [.int .u8], [], none, .int .u8, none, none⟩,
  ⟨172, false, [.int .u8], [], none, .int .u8, none, none⟩,
  ⟨174, false, [.oth], [], none, .oth, none, none⟩,
  ⟨175, false, [.int .i32], [], none, .int .i32, none, none⟩,
  ⟨176, false, [.int .i32], [], none, .int .i32, none, none⟩,
  ⟨179, false, [.oth], [], none, .oth, none, none⟩]
theorem tab_checked : tab.all (tiOk Tryz.prog tab) = true := by kernel_rfl
theorem tab_ok : TabOk Tryz.prog tab := tabOk_of tab_checked
abbrev t_t0 : Nat := 0
abbrev t_t1 : Nat := 1
abbrev t_int64 : Nat := 2
abbrev t_int : Nat := 3
abbrev t_bool : Nat := 4
abbrev t_uint8 : Nat := 5
abbrev t_abi_BoundsErrorCode : Nat := 6
abbrev t_t7 : Nat := 7
abbrev t_runtime_boundsError : Nat := 8
abbrev t_string : Nat := 9
abbrev t_runtime_errorString : Nat := 10
abbrev t_runtime_plainError : Nat := 11
abbrev t_uintptr : Nat := 12
abbrev t_t13 : Nat := 13
abbrev t_runtime_errorAddressString : Nat := 14
abbrev t_p_runtime_TypeAssertionError : Nat := 15
abbrev t_p_runtime_PanicNilError : Nat := 16
abbrev t_p_abi_Type : Nat := 17
abbrev t_t18 : Nat := 18
abbrev t_maps_unhashableTypeError : Nat := 19
abbrev t_t20 : Nat := 20
abbrev t_int32 : Nat := 21
abbrev t_s_Rank : Nat := 22
abbrev t_s_Rule : Nat := 23
abbrev t_s_bool : Nat := 24
abbrev t_Errno : Nat := 25
abbrev t_t26 : Nat := 26
abbrev t_t27 : Nat := 27
abbrev t_t28 : Nat := 28
abbrev t_t29 : Nat := 29
abbrev t_t30 : Nat := 30
abbrev t_s_Term : Nat := 31
abbrev t_t32 : Nat := 32
abbrev t_Term : Nat := 33
abbrev t_t34 : Nat := 34
abbrev t_Rule : Nat := 35
abbrev t_t36 : Nat := 36
abbrev t_t37 : Nat := 37
abbrev t_t38 : Nat := 38
abbrev t_s_Step : Nat := 39
abbrev t_t40 : Nat := 40
abbrev t_Chain : Nat := 41
abbrev t_t42 : Nat := 42
abbrev t_t43 : Nat := 43
abbrev t_t44 : Nat := 44
abbrev t_t45 : Nat := 45
abbrev t_Rank : Nat := 46
abbrev t_s_Symbol : Nat := 47
abbrev t_t48 : Nat := 48
abbrev t_t49 : Nat := 49
abbrev t_t50 : Nat := 50
abbrev t_t51 : Nat := 51
abbrev t_t52 : Nat := 52
abbrev t_t53 : Nat := 53
abbrev t_t54 : Nat := 54
abbrev t_t55 : Nat := 55
abbrev t_t56 : Nat := 56
abbrev t_s_int : Nat := 57
abbrev t_t58 : Nat := 58
abbrev t_Step : Nat := 59
abbrev t_t60 : Nat := 60
abbrev t_t61 : Nat := 61
abbrev t_t62 : Nat := 62
abbrev t_t63 : Nat := 63
abbrev t_t64 : Nat := 64
abbrev t_t65 : Nat := 65
abbrev t_m_string_int : Nat := 66
abbrev t_t67 : Nat := 67
abbrev t_t68 : Nat := 68
abbrev t_t69 : Nat := 69
abbrev t_t70 : Nat := 70
abbrev t_t71 : Nat := 71
abbrev t_s_path_node : Nat := 72
abbrev t_t73 : Nat := 73
abbrev t_p_path_comparer : Nat := 74
abbrev t_s_uint8 : Nat := 75
abbrev t_t76 : Nat := 76
abbrev t_path_comparer : Nat := 77
abbrev t_t78 : Nat := 78
abbrev t_t79 : Nat := 79
abbrev t_t80 : Nat := 80
abbrev t_t81 : Nat := 81
abbrev t_t82 : Nat := 82
abbrev t_s_string : Nat := 83
abbrev t_t84 : Nat := 84
abbrev t_t85 : Nat := 85
abbrev t_t86 : Nat := 86
abbrev t_t87 : Nat := 87
abbrev t_t88 : Nat := 88
abbrev t_t89 : Nat := 89
abbrev t_s_Bind : Nat := 90
abbrev t_t91 : Nat := 91
abbrev t_t92 : Nat := 92
abbrev t_t93 : Nat := 93
abbrev t_t94 : Nat := 94
abbrev t_t95 : Nat := 95
abbrev t_t96 : Nat := 96
abbrev t_t97 : Nat := 97
abbrev t_t98 : Nat := 98
abbrev t_a2_Term : Nat := 99
abbrev t_t100 : Nat := 100
abbrev t_t101 : Nat := 101
abbrev t_t102 : Nat := 102
abbrev t_t103 : Nat := 103
abbrev t_t104 : Nat := 104
abbrev t_t105 : Nat := 105
abbrev t_t106 : Nat := 106
abbrev t_t107 : Nat := 107
abbrev t_path_node : Nat := 108
abbrev t_t109 : Nat := 109
abbrev t_t110 : Nat := 110
abbrev t_Symbol : Nat := 111
abbrev t_t112 : Nat := 112
abbrev t_t113 : Nat := 113
abbrev t_t114 : Nat := 114
abbrev t_t115 : Nat := 115
abbrev t_t116 : Nat := 116
abbrev t_t117 : Nat := 117
abbrev t_t118 : Nat := 118
abbrev t_t119 : Nat := 119
abbrev t_t120 : Nat := 120
abbrev t_t121 : Nat := 121
abbrev t_t122 : Nat := 122
abbrev t_m_string_bool : Nat := 123
abbrev t_t124 : Nat := 124
abbrev t_t125 : Nat := 125
abbrev t_t126 : Nat := 126
abbrev t_t127 : Nat := 127
abbrev t_t128 : Nat := 128
abbrev t_t129 : Nat := 129
abbrev t_t130 : Nat := 130
abbrev t_t131 : Nat := 131
abbrev t_Bind : Nat := 132
abbrev t_t133 : Nat := 133
abbrev t_t134 : Nat := 134
abbrev t_t135 : Nat := 135
abbrev t_t136 : Nat := 136
abbrev t_uint : Nat := 137
abbrev t_t138 : Nat := 138
abbrev t_t139 : Nat := 139
abbrev t_t140 : Nat := 140
abbrev t_t141 : Nat := 141
abbrev t_t142 : Nat := 142
abbrev t_t143 : Nat := 143
abbrev t_t144 : Nat := 144
abbrev t_slices_sortedHint : Nat := 145
abbrev t_t146 : Nat := 146
abbrev t_t147 : Nat := 147
abbrev t_t148 : Nat := 148
abbrev t_t149 : Nat := 149
abbrev t_t150 : Nat := 150
abbrev t_t151 : Nat := 151
abbrev t_uint32 : Nat := 152
abbrev t_t153 : Nat := 153
abbrev t_uint64 : Nat := 154
abbrev t_t155 : Nat := 155
abbrev t_slices_xorshift : Nat := 156
abbrev t_t157 : Nat := 157
abbrev t_t158 : Nat := 158
abbrev t_t159 : Nat := 159
abbrev t_p_int : Nat := 160
abbrev t_t161 : Nat := 161
abbrev t_p_slices_xorshift : Nat := 162
abbrev t_t163 : Nat := 163
abbrev t_t164 : Nat := 164
abbrev t_t165 : Nat := 165
abbrev t_runtime_TypeAssertionError : Nat := 166
abbrev t_a0_p_runtime_PanicNilError : Nat := 167
abbrev t_t168 : Nat := 168
abbrev t_runtime_PanicNilError : Nat := 169
abbrev t_t170 : Nat := 170
abbrev t_abi_TFlag : Nat := 171
abbrev t_abi_Kind : Nat := 172
abbrev t_t173 : Nat := 173
abbrev t_p_uint8 : Nat := 174
abbrev t_abi_NameOff : Nat := 175
abbrev t_abi_TypeOff : Nat := 176
abbrev t_t177 : Nat := 177
abbrev t_abi_Type : Nat := 178
abbrev t_unsafe_Pointer : Nat := 179
abbrev f_main_main : Nat := 0
abbrev f_gosem_cut : Nat := 1
abbrev f_gosem_cut_init : Nat := 2
abbrev f_l06_PathOrients : Nat := 3
abbrev f_l06_PathDecreases : Nat := 4
abbrev f_path_Orients : Nat := 5
abbrev f_r06_Check : Nat := 6
abbrev f_r01_CheckSystem : Nat := 7
abbrev f_l06_alive : Nat := 8
abbrev f_r06_Greater : Nat := 9
abbrev f_r06_SameBools : Nat := 10
abbrev f_r05_Terms : Nat := 11
abbrev f_l06_greater : Nat := 12
abbrev f_path_Check : Nat := 13
abbrev f_term_CheckSystem : Nat := 14
abbrev f_path_Above : Nat := 15
abbrev f_r06_Listed : Nat := 16
abbrev f_r01_Rules : Nat := 17
abbrev f_r01_Symbols : Nat := 18
abbrev f_r01_Within : Nat := 19
abbrev f_l06_variable : Nat := 20
abbrev f_l06_symbol : Nat := 21
abbrev f_path_Greater : Nat := 22
abbrev f_r01_Equal : Nat := 23
abbrev f_r06_Above : Nat := 24
abbrev f_r01_Check : Nat := 25
abbrev f_r04_Step : Nat := 26
abbrev f_path_Names_Rank : Nat := 27
abbrev f_path_Check_1 : Nat := 28
abbrev f_slices_ContainsFunc_Rank : Nat := 29
abbrev f_path_Check_2 : Nat := 30
abbrev f_term_CheckRules : Nat := 31
abbrev f_term_Arities : Nat := 32
abbrev f_term_Marked : Nat := 33
abbrev f_slices_ContainsFunc_Rule : Nat := 34
abbrev f_term_extra : Nat := 35
abbrev f_path_nodes : Nat := 36
abbrev f_path_comparer_greater : Nat := 37
abbrev f_r01_IsName : Nat := 38
abbrev f_r01_CompareNames : Nat := 39
abbrev f_r01_CheckAll : Nat := 40
abbrev f_r01_symbols : Nat := 41
abbrev f_r01_Vars : Nat := 42
abbrev f_r01_Count : Nat := 43
abbrev f_term_All : Nat := 44
abbrev f_r01_Compare : Nat := 45
abbrev f_r06_Entry : Nat := 46
abbrev f_r01_Formed : Nat := 47
abbrev f_r01_Size : Nat := 48
abbrev f_r01_Depth : Nat := 49
abbrev f_r04_Subst : Nat := 50
abbrev f_r01_Grown : Nat := 51
abbrev f_r04_replaced : Nat := 52
abbrev f_r01_Put : Nat := 53
abbrev f_r01_Apply : Nat := 54
abbrev f_term_IsName : Nat := 55
abbrev f_slices_IndexFunc_Rank : Nat := 56
abbrev f_term_Walk : Nat := 57
abbrev f_strings_HasSuffix : Nat := 58
abbrev f_slices_IndexFunc_Rule : Nat := 59
abbrev f_term_VarsOf : Nat := 60
abbrev f_slices_ContainsFunc_string : Nat := 61
abbrev f_term_extra_1 : Nat := 62
abbrev f_slices_Contains_string : Nat := 63
abbrev f_path_comparer_compare : Nat := 64
abbrev f_r01_Marked : Nat := 65
abbrev f_r01_Letters : Nat := 66
abbrev f_r01_CompareInts : Nat := 67
abbrev f_r01_collect : Nat := 68
abbrev f_term_Check : Nat := 69
abbrev f_r01_At : Nat := 70
abbrev f_r03_Match : Nat := 71
abbrev f_r01_Image : Nat := 72
abbrev f_strings_TrimSuffix : Nat := 73
abbrev f_slices_ContainsFunc_byte : Nat := 74
abbrev f_term_IsName_1 : Nat := 75
abbrev f_term_inName : Nat := 76
abbrev f_term_Walk_1 : Nat := 77
abbrev f_term_walk : Nat := 78
abbrev f_stringslite_HasSuffix : Nat := 79
abbrev f_slices_Sort_string : Nat := 80
abbrev f_slices_IndexFunc_string : Nat := 81
abbrev f_slices_Index_string : Nat := 82
abbrev f_slices_ContainsFunc_int : Nat := 83
abbrev f_path_comparer_compare_1 : Nat := 84
abbrev f_path_comparer_equal : Nat := 85
abbrev f_path_Of : Nat := 86
abbrev f_path_comparer_compare_2 : Nat := 87
abbrev f_r01_letter : Nat := 88
abbrev f_r01_Insert : Nat := 89
abbrev f_term_formed : Nat := 90
abbrev f_term_fits : Nat := 91
abbrev f_r03_match : Nat := 92
abbrev f_stringslite_TrimSuffix : Nat := 93
abbrev f_slices_IndexFunc_byte : Nat := 94
abbrev f_slices_Clone_int : Nat := 95
abbrev f_slices_pdqsortOrdered_string : Nat := 96
abbrev f_bits_Len : Nat := 97
abbrev f_slices_IndexFunc_int : Nat := 98
abbrev f_slices_BinarySearchFunc_Rank_string : Nat := 99
abbrev f_path_Of_1 : Nat := 100
abbrev f_strings_Compare : Nat := 101
abbrev f_slices_ContainsFunc_Term : Nat := 102
abbrev f_term_formed_1 : Nat := 103
abbrev f_term_Size : Nat := 104
abbrev f_term_Depth : Nat := 105
abbrev f_r03_Bound : Nat := 106
abbrev f_r03_with : Nat := 107
abbrev f_slices_insertionSortOrdered_string : Nat := 108
abbrev f_slices_heapSortOrdered_string : Nat := 109
abbrev f_slices_breakPatternsOrdered_string : Nat := 110
abbrev f_slices_choosePivotOrdered_string : Nat := 111
abbrev f_slices_reverseRangeOrdered_string : Nat := 112
abbrev f_slices_partialInsertionSortOrdered_string : Nat := 113
abbrev f_cmp_Less_string : Nat := 114
abbrev f_slices_partitionEqualOrdered_string : Nat := 115
abbrev f_slices_partitionOrdered_string : Nat := 116
abbrev f_bits_Len32 : Nat := 117
abbrev f_bits_Len64 : Nat := 118
abbrev f_bytealg_CompareString : Nat := 119
abbrev f_slices_IndexFunc_Term : Nat := 120
abbrev f_slices_siftDownOrdered_string : Nat := 121
abbrev f_slices_nextPowerOfTwo : Nat := 122
abbrev f_slices_xorshift_Next : Nat := 123
abbrev f_slices_medianAdjacentOrdered_string : Nat := 124
abbrev f_slices_medianOrdered_string : Nat := 125
abbrev f_cmp_isNaN_string : Nat := 126
abbrev f_bytealg_abigen_runtime_cmpstring : Nat := 127
abbrev f_slices_order2Ordered_string : Nat := 128
abbrev f_runtime_boundsError_Error : Nat := 129
abbrev f_runtime_boundsError_RuntimeError : Nat := 130
abbrev f_runtime_errorString_Error : Nat := 131
abbrev f_runtime_errorString_RuntimeError : Nat := 132
abbrev f_runtime_plainError_Error : Nat := 133
abbrev f_runtime_plainError_RuntimeError : Nat := 134
abbrev f_runtime_errorAddressString_Error : Nat := 135
abbrev f_runtime_errorAddressString_RuntimeError : Nat := 136
abbrev f_runtime_TypeAssertionError_Error : Nat := 137
abbrev f_runtime_TypeAssertionError_RuntimeError : Nat := 138
abbrev f_runtime_PanicNilError_Error : Nat := 139
abbrev f_runtime_PanicNilError_RuntimeError : Nat := 140
abbrev f_abi_Type_Align : Nat := 141
abbrev f_maps_unhashableTypeError_Error : Nat := 142
abbrev f_maps_unhashableTypeError_RuntimeError : Nat := 143
abbrev f_abi_Kind_String : Nat := 144
def rsL : List RS := [
  .tup [],
  .tup [],
  .tup [],
  .one (.v .bool),
  .one (.v .bool),
  .tup [.one (.v (.sl t_bool)), .one (.v (.int .i64))],
  .one (.v (.int .i64)),
  .one (.v (.int .i64)),
  .one (.v .bool),
  .one (.v .bool),
  .one (.v .bool),
  .tup [.one (.v (.sl t_Term)), .one (.v (.int .i64))],
  .one (.v .bool),
  .one (.v (.int .i64)),
  .one (.v (.int .i64)),
  .one (.v .bool),
  .one (.v (.int .i64)),
  .one (.v (.int .i64)),
  .tup [.one (.v (.sl t_Symbol)), .one (.v .bool)],
  .one (.v .bool),
  .agg [.v .str, .v .bool, .v (.sl t_Term)],
  .agg [.v .str, .v .bool, .v (.sl t_Term)],
  .tup [.one (.v .bool), .one (.v (.int .i64))],
  .one (.v .bool),
  .one (.v .bool),
  .one (.v (.int .i64)),
  .tup [.agg [.v .str, .v .bool, .v (.sl t_Term)], .one (.v (.int .i64))],
  .one (.v (.int .i64)),
  .one (.v .str),
  .one (.v .bool),
  .one (.v .bool),
  .one (.v (.int .i64)),
  .tup [.one (.v (.mp mt_9_3)), .one (.v .bool)],
  .one (.v .bool),
  .one (.v .bool),
  .one (.v .bool),
  .one (.same 1 (.sl t_path_node)),
  .one (.v .bool),
  .one (.v .bool),
  .one (.v (.int .i64)),
  .one (.v (.int .i64)),
  .tup [.one (.v (.sl t_Symbol)), .one (.v .bool)],
  .one (.v (.sl t_string)),
  .one (.v (.int .i64)),
  .one (.v (.int .i64)),
  .one (.v (.int .i64)),
  .agg [.v .str, .v (.int .i64), .v (.int .i64)],
  .one (.v .bool),
  .one (.v (.int .i64)),
  .one (.v (.int .i64)),
  .tup [.one (.v (.sl t_Bind)), .one (.v (.int .i64))],
  .tup [.one (.v (.int .i64)), .one (.v (.int .i64))],
  .tup [.one (.v (.int .i64)), .one (.v (.int .i64))],
  .agg [.v .str, .v .bool, .v (.sl t_Term)],
  .agg [.v .str, .v .bool, .v (.sl t_Term)],
  .one (.v .bool),
  .one (.v (.int .i64)),
  .one (.fn 77 [t_Term]),
  .one (.v .bool),
  .one (.v (.int .i64)),
  .one (.v (.sl t_string)),
  .one (.v .bool),
  .one (.v .bool),
  .one (.v .bool),
  .one (.v .bool),
  .one (.v .bool),
  .one (.v .bool),
  .one (.v (.int .i64)),
  .one (.v (.sl t_string)),
  .one (.v (.int .i64)),
  .tup [.agg [.v .str, .v .bool, .v (.sl t_Term)], .one (.v .bool)],
  .tup [.one (.v (.sl t_Bind)), .one (.v .bool)],
  .agg [.v .str, .v .bool, .v (.sl t_Term)],
  .one (.v .str),
  .one (.v .bool),
  .one (.v .bool),
  .one (.v .bool),
  .tup [],
  .one (.v .bool),
  .one (.v .bool),
  .tup [],
  .one (.v (.int .i64)),
  .one (.v (.int .i64)),
  .one (.v .bool),
  .one (.v .bool),
  .one (.v .bool),
  .agg [.v .str, .v (.int .i64), .v (.int .i64)],
  .one (.v .bool),
  .one (.v .bool),
  .one (.v (.sl t_string)),
  .one (.v .bool),
  .one (.v .bool),
  .tup [.one (.v (.sl t_Bind)), .one (.v .bool)],
  .one (.v .str),
  .one (.v (.int .i64)),
  .one (.v (.sl t_int)),
  .tup [],
  .one (.v (.int .i64)),
  .one (.v (.int .i64)),
  .tup [.one (.v (.int .i64)), .one (.v .bool)],
  .one (.v (.int .i64)),
  .one (.v (.int .i64)),
  .one (.v .bool),
  .one (.v .bool),
  .one (.v (.int .i64)),
  .one (.v (.int .i64)),
  .one (.v .bool),
  .one (.v (.sl t_Bind)),
  .tup [],
  .tup [],
  .tup [],
  .tup [.one (.v (.int .i64)), .one (.v (.int .i64))],
  .tup [],
  .one (.v .bool),
  .one (.v .bool),
  .one (.v (.int .i64)),
  .tup [.one (.v (.int .i64)), .one (.v .bool)],
  .one (.v (.int .i64)),
  .one (.v (.int .i64)),
  .one (.v (.int .i64)),
  .one (.v (.int .i64)),
  .tup [],
  .one (.v (.int .u64)),
  .one (.v (.int .u64)),
  .one (.v (.int .i64)),
  .one (.v (.int .i64)),
  .one (.v .bool),
  .one (.v (.int .i64)),
  .tup [.one (.v (.int .i64)), .one (.v (.int .i64))],
  .one (.v .str),
  .tup [],
  .one (.v .str),
  .tup [],
  .one (.v .str),
  .tup [],
  .one (.v .str),
  .tup [],
  .one (.v .str),
  .tup [],
  .one (.v .str),
  .tup [],
  .one (.v (.int .i64)),
  .one (.v .str),
  .tup [],
  .one (.v .str)]
def rsT (f : FuncId) (_ : List D) : RS := rsL.getD f (.tup [])
def nilsL : List (List (Option Nat)) := [
  [],
  [],
  [],
  [some 46, some 35],
  [some 46, some 35, none],
  [some 46, some 35],
  [some 46],
  [some 35],
  [],
  [some 46, none, none],
  [some 4, some 4],
  [some 35, none],
  [some 46, none, none],
  [some 46],
  [some 35],
  [some 46, none, none],
  [some 46],
  [some 35],
  [some 35],
  [none, none],
  [none],
  [none, some 33],
  [some 46, none, none],
  [none, none],
  [some 46, none, none],
  [none],
  [some 35, none, none],
  [some 46, none],
  [none],
  [some 46, none],
  [none],
  [some 35],
  [some 35],
  [none],
  [some 35, none],
  [none],
  [none, none],
  [none, none, none],
  [none, none],
  [none, none],
  [some 33],
  [none, some 111],
  [some 33],
  [none, none],
  [some 33],
  [none, none],
  [some 46, none],
  [none],
  [none],
  [none],
  [some 35, none, none],
  [some 132, none],
  [none, some 3, none, none],
  [none, some 3, none],
  [some 132, none],
  [none, none],
  [some 46, none],
  [none],
  [none, none],
  [some 35, none],
  [some 33],
  [some 9, none],
  [none],
  [some 9, none],
  [none, none, none],
  [none],
  [none],
  [none, none],
  [none, some 9],
  [none],
  [none, some 3],
  [none, none],
  [some 132, none],
  [none, none],
  [some 5, none],
  [none],
  [none],
  [none],
  [none, some 3, none],
  [none, none],
  [some 9],
  [some 9, none],
  [some 9, none],
  [some 3, none],
  [none],
  [none, none, none],
  [some 46, none],
  [none],
  [none],
  [some 9, none],
  [none],
  [none],
  [some 132, none, none],
  [none, none],
  [some 5, none],
  [some 3],
  [some 9, none, none, none],
  [none],
  [some 3, none],
  [some 46, none, none],
  [none, none],
  [none, none],
  [some 33, none],
  [none],
  [none],
  [none],
  [some 132, none],
  [some 132, none, none],
  [some 9, none, none],
  [some 9, none, none],
  [some 9, none, none],
  [some 9, none, none],
  [some 9, none, none],
  [some 9, none, none],
  [none, none],
  [some 9, none, none, none],
  [some 9, none, none, none],
  [none],
  [none],
  [none, none],
  [some 33, none],
  [some 9, none, none, none],
  [none],
  [none],
  [some 9, none, none],
  [some 9, none, none, none, none],
  [none],
  [none, none],
  [some 9, none, none, none],
  [none],
  [none],
  [none],
  [none],
  [none],
  [none],
  [none],
  [none],
  [none],
  [none],
  [none],
  [none],
  [none],
  [none],
  [none],
  [none]]
def nilsT (f : FuncId) : List (Option Nat) := nilsL.getD f []
def ownsT (f : FuncId) : Option (Nat × TypeId) := match f with | 36 => some (1, 108) | _ => none
def extT (f : FuncId) : Bool := Nat.beq f 127
def entT (f : FuncId) : Bool := Nat.blt f 145 && !([0, 1, 127, 129, 130, 131, 132, 133, 134, 135, 136, 137, 138, 139, 140, 141, 142, 143, 144].any (Nat.beq f))
abbrev cl : FuncId → List D → Heap → (D → Heap → Prop) → Prop := ACalls Tryz.prog (lfs tab)
def rowA (f : FuncId) (r : List V) : List D := match f with | 77 => [.undef, .agg [.v .str (r.headD V.none), .v .bool (r.tail.headD V.none), .v (.sl t_Term) (r.tail.tail.headD V.none)]] | _ => []
def itA (f : FuncId) (caps : List D) (rows : List (List V)) : Prop := AIter Tryz.prog (lfs tab) (rowA f) f caps rows
def envA (l : List (Nat × List Adj)) (c : CutT) (r : List Nat) (z : List (Nat × List Frz)) (y : List Nat) : Env := { T := tab, rs := rsT, ext := extT, ent := entT, call := cl, owns := ownsT, nils := nilsT, frz := frzLook z, lit := inL r, join := inL y, cut := cutLook c, flt := fltLook c, late := lateLook c, adj := adjLook l, iter := itA, row := rowA }
theorem ents : (List.range 145).all (fun f => !entT f || entOk Tryz.prog f) = true := by kernel_rfl
theorem envOk (l : List (Nat × List Adj)) (c : CutT) (r : List Nat) (z : List (Nat × List Frz)) (y : List Nat) : EnvOk Tryz.prog (envA l c r z y) := ⟨tab_ok, fun f hf args w => by
  have hf' : entT f = true := hf
  have hlt : f < 145 := by
    have := ((Bool.and_eq_true _ _).mp hf').1
    exact Nat.le_of_ble_eq_true this
  have h := List.all_eq_true.1 ents f (List.mem_range.2 hlt)
  rw [hf'] at h
  exact ent_of (by simpa using h) args w, fun _ _ _ _ h => h, fun _ _ _ _ _ h k => k.mono h, by kernel_rfl, fun _ _ _ h => h, fun f hf a b w => by
  have hf2 : f = 127 := Nat.eq_of_beq_eq_true hf
  subst hf2
  rw [run_callFunc_extern Tryz.func127 (by kernel_rfl) (by kernel_rfl) (by kernel_rfl) (e := Extern.BytealgCompare.compare) (by kernel_rfl), Lib.run_compareString]; rfl⟩
end Go.Proofs.YtehchnjnbbnkbaaGreat
set_option linter.unusedVariables false
set_option linter.unusedSimpArgs false
namespace Go.Proofs.YtehchnjnbbnkbaaGreat
open Go.Abs
abbrev iD (n : Int) : D := .v (.int .i64) (.i n)
abbrev bD (b : Bool) : D := .v .bool (.b b)
abbrev sD (s : ByteArray) : D := .v .str (.s s)
abbrev uD (n : Int) : D := .v (.int .u8) (.i n)
def Fn (f : FuncId) (args : List D) (r : D) : Prop := ∀ Q : D → Heap → Prop, Q r [] → cl f args [] Q
theorem Fn.use {f : FuncId} {args : List D} {r : D} (h : Fn f args r) {Q : D → Heap → Prop} (hq : Q r []) : cl f args [] Q := h Q hq
theorem Fn.here {f : FuncId} {args : List D} {r r' : D} (h : Fn f args r) (e : r' = r) : cl f args [] (fun x H' => x = r' ∧ H' = []) := h _ ⟨e.symm, rfl⟩
theorem iff_intro {b : Bool} {p q : Prop} (h1 : b = true → p) (h2 : b = false → q) : iff b p q := by
  cases b with
  | true => exact h1 rfl
  | false => exact h2 rfl
theorem iff_dec {c : Prop} [Decidable c] {p q : Prop} (h1 : c → p) (h2 : ¬ c → q) : iff (decide c) p q := by
  by_cases h : c
  · exact iff_yes (decide_eq_true h) (h1 h)
  · exact iff_no (decide_eq_false h) (h2 h)
theorem iff_beq {α : Type} [BEq α] [LawfulBEq α] {a b : α} {p q : Prop} (h1 : a = b → p) (h2 : a ≠ b → q) : iff (a == b) p q := by
  by_cases h : a = b
  · exact iff_yes (by simp [h]) (h1 h)
  · exact iff_no (by simp [h]) (h2 h)
theorem iff_bne {α : Type} [BEq α] [LawfulBEq α] {a b : α} {p q : Prop} (h1 : a ≠ b → p) (h2 : a = b → q) : iff (a != b) p q := by
  by_cases h : a = b
  · exact iff_no (by simp [h]) (h2 h)
  · exact iff_yes (by simp [h]) (h1 h)
theorem iff_not {b : Bool} {p q : Prop} (h : iff b q p) : iff (!b) p q := by cases b <;> exact h
theorem wrap_in (n : Int) (h1 : -9223372036854775808 ≤ n) (h2 : n ≤ 9223372036854775807) : IntKind.i64.wrap n = n := IntWalk.i64_in n ⟨h1, h2⟩
theorem wrap_u64 (n : Int) (h1 : 0 ≤ n) (h2 : n ≤ 18446744073709551615) : IntKind.u64.wrap n = n := by
  simp only [IntKind.wrap, IntKind.signed, IntKind.bits, Bool.false_and, Bool.false_eq_true, if_false]; omega
theorem big_eq : big = 9223372036854775807 := rfl
theorem lim_eq : lim = 549755813888 := rfl
theorem ba_toList (s : ByteArray) : s.toList = s.data.toList := by
  have key : ∀ (n i : Nat) (r : List UInt8), s.size - i = n → i ≤ s.size → ByteArray.toList.loop s i r = r.reverse ++ s.data.toList.drop i := by
    intro n
    induction n with
    | zero =>
      intro i r h1 h2
      unfold ByteArray.toList.loop
      have : ¬ i < s.size := by omega
      rw [if_neg this]
      have h3 : s.data.toList.length = s.size := by simp
      simp [List.drop_eq_nil_of_le (by omega : s.data.toList.length ≤ i)]
    | succ n ih =>
      intro i r h1 h2
      unfold ByteArray.toList.loop
      have hi : i < s.size := by omega
      rw [if_pos hi, ih (i + 1) _ (by omega) (by omega)]
      have h3 : i < s.data.toList.length := by simpa using hi
      rw [List.drop_eq_getElem_cons h3]
      have : s.get! i = s.data.toList[i] := by
        show s.data[i]! = _
        rw [getElem!_pos s.data i (by simpa using hi)]
        simp
      simp [this]
  have := key s.size 0 [] (by omega) (by omega)
  simpa [ByteArray.toList] using this
theorem ba_ext {a b : ByteArray} (h : a.data.toList = b.data.toList) : a = b := by
  cases a; cases b; simp at h; exact congrArg _ h
theorem ba_eq_iff {a b : ByteArray} : a.data.toList = b.data.toList ↔ a = b := ⟨ba_ext, fun h => h ▸ rfl⟩
theorem ba_beq (a b : ByteArray) : (a.toList == b.toList) = decide (a = b) := by
  rw [ba_toList, ba_toList, Bool.eq_iff_iff, beq_iff_eq, ba_eq_iff, decide_eq_true_iff]
theorem ba_size (s : ByteArray) : s.data.toList.length = s.size := by simp
theorem ba_nil (s : ByteArray) : (s = ByteArray.mk #[]) ↔ s.size = 0 := by
  constructor
  · rintro rfl; rfl
  · intro h
    apply ba_ext
    apply List.eq_nil_of_length_eq_zero
    rw [ba_size]; exact h
abbrev cmpN (a b : ByteArray) : Int := Lib.compareBytes a.data.toList b.data.toList
theorem cmp_self : ∀ l : List UInt8, Lib.compareBytes l l = 0
  | [] => rfl
  | a :: l => by simp [Lib.compareBytes, cmp_self l]
theorem u8_lt (a b : UInt8) : a < b ↔ a.toNat < b.toNat := UInt8.lt_iff_toNat_lt
theorem cmp_cases : ∀ (l m : List UInt8), (Lib.compareBytes l m = -1 ∧ Lib.compareBytes m l = 1) ∨ (Lib.compareBytes l m = 0 ∧ l = m) ∨ (Lib.compareBytes l m = 1 ∧ Lib.compareBytes m l = -1)
  | [], [] => by simp [Lib.compareBytes]
  | [], _ :: _ => by simp [Lib.compareBytes]
  | _ :: _, [] => by simp [Lib.compareBytes]
  | a :: l, b :: m => by
    simp only [Lib.compareBytes]
    by_cases h1 : a < b
    · have h2 : ¬ b < a := by rw [u8_lt] at *; omega
      simp [h1, h2]
    · by_cases h2 : b < a
      · simp [h1, h2]
      · have h3 : a = b := by
          apply UInt8.toNat_inj.1; rw [u8_lt] at *; omega
        subst h3
        simp only [if_neg h1]
        rcases cmp_cases l m with h | ⟨h, h'⟩ | h
        · exact .inl h
        · exact .inr (.inl ⟨h, by rw [h']⟩)
        · exact .inr (.inr h)
theorem cmp_trans : ∀ (l m n : List UInt8), Lib.compareBytes l m = -1 → Lib.compareBytes m n = -1 → Lib.compareBytes l n = -1
  | [], [], n, h, _ => by simp [Lib.compareBytes] at h
  | [], _ :: _, [], _, h => by simp [Lib.compareBytes] at h
  | [], _ :: _, _ :: _, _, _ => by simp [Lib.compareBytes]
  | _ :: _, [], _, h, _ => by simp [Lib.compareBytes] at h
  | _ :: _, _ :: _, [], _, h => by simp [Lib.compareBytes] at h
  | a :: l, b :: m, c :: n, h1, h2 => by
    simp only [Lib.compareBytes] at *
    by_cases hab : a < b
    · by_cases hbc : b < c
      · have : a < c := by rw [u8_lt] at *; omega
        simp [this]
      · rw [if_neg hbc] at h2
        by_cases hcb : c < b
        · simp [hcb] at h2
        · have : a < c := by rw [u8_lt] at *; omega
          simp [this]
    · rw [if_neg hab] at h1
      by_cases hba : b < a
      · simp [hba] at h1
      · rw [if_neg hba] at h1
        have he : a = b := by apply UInt8.toNat_inj.1; rw [u8_lt] at *; omega
        subst he
        by_cases hbc : a < c
        · simp [hbc]
        · rw [if_neg hbc] at h2
          by_cases hcb : c < a
          · simp [hcb] at h2
          · rw [if_neg hcb] at h2
            rw [if_neg hbc, if_neg hcb]
            exact cmp_trans l m n h1 h2
theorem bytesLess_cmp : ∀ (l m : List UInt8), Op.bytesLess l m = decide (Lib.compareBytes l m = -1)
  | [], [] => by simp [Op.bytesLess, Lib.compareBytes]
  | _ :: _, [] => by simp [Op.bytesLess, Lib.compareBytes]
  | [], _ :: _ => by simp [Op.bytesLess, Lib.compareBytes]
  | a :: l, b :: m => by
    simp only [Op.bytesLess, Lib.compareBytes, bytesLess_cmp l m]
    by_cases h1 : a < b
    · simp [h1]
    · by_cases h2 : b < a
      · have : a ≠ b := by intro h; rw [u8_lt] at h2; rw [h] at h2; omega
        simp [h1, h2, this]
      · have h3 : a = b := by apply UInt8.toNat_inj.1; rw [u8_lt] at *; omega
        subst h3
        simp [h1]
theorem cmpN_cases (a b : ByteArray) : (cmpN a b = -1 ∧ cmpN b a = 1) ∨ (cmpN a b = 0 ∧ a = b) ∨ (cmpN a b = 1 ∧ cmpN b a = -1) := by
  rcases cmp_cases a.data.toList b.data.toList with h | ⟨h1, h2⟩ | h
  · exact .inl h
  · exact .inr (.inl ⟨h1, ba_ext h2⟩)
  · exact .inr (.inr h)
theorem cmpN_self (a : ByteArray) : cmpN a a = 0 := cmp_self _
theorem cmpN_zero {a b : ByteArray} : cmpN a b = 0 ↔ a = b := by
  rcases cmpN_cases a b with h | h | h
  · constructor
    · omega
    · rintro rfl; have := cmpN_self a; omega
  · exact ⟨fun _ => h.2, fun _ => h.1⟩
  · constructor
    · omega
    · rintro rfl; have := cmpN_self a; omega
theorem cmpN_trans {a b c : ByteArray} (h1 : cmpN a b = -1) (h2 : cmpN b c = -1) : cmpN a c = -1 := cmp_trans _ _ _ h1 h2
theorem cmpN_flip (a b : ByteArray) : cmpN b a = - cmpN a b := by
  rcases cmpN_cases a b with h | ⟨h, rfl⟩ | h
  · omega
  · rw [cmpN_self]; rfl
  · omega
theorem less_cmp (a b : ByteArray) : Op.bytesLess a.toList b.toList = decide (cmpN a b = -1) := by rw [ba_toList, ba_toList]; exact bytesLess_cmp _ _
def letterB (c : Int) : Bool := decide (65 ≤ c ∧ c ≤ 90 ∨ 97 ≤ c ∧ c ≤ 122 ∨ 48 ≤ c ∧ c ≤ 57 ∨ c = 95 ∨ c = 39)
def lettersL (l : List UInt8) : Bool := l.all fun c => letterB (c.toNat : Int)
def markedL (l : List UInt8) : Bool := decide (l.getLast? = some 35)
def nameOk (s : ByteArray) (m : Bool) : Bool :=
  decide (s.size ≤ 24) && (if m && markedL s.data.toList then decide (1 < s.size) && lettersL s.data.toList.dropLast else decide (0 < s.size) && lettersL s.data.toList)
theorem extract_list (s : ByteArray) (i j : Nat) : (s.extract i j).data.toList = (s.data.toList.take j).drop i := by
  simp [ByteArray.data_extract, Array.toList_extract, List.extract_eq_take_drop, List.drop_take]
end Go.Proofs.YtehchnjnbbnkbaaGreat
set_option linter.unusedVariables false
set_option linter.unusedSimpArgs false
namespace Go.Proofs.YtehchnjnbbnkbaaGreat
open Go.Abs
inductive Tm where
  | mk (name : ByteArray) (var : Bool) (args : List Tm)
namespace Tm
def name : Tm → ByteArray | mk n _ _ => n
def var : Tm → Bool | mk _ v _ => v
def args : Tm → List Tm | mk _ _ xs => xs
theorem eta : ∀ t : Tm, t = mk t.name t.var t.args | mk _ _ _ => rfl
theorem ext {s t : Tm} (h1 : s.name = t.name) (h2 : s.var = t.var) (h3 : s.args = t.args) : s = t := by
  rw [eta s, eta t, h1, h2, h3]
mutual
def enc : Tm → List V | mk n v xs => [.s n, .b v, .l (encL xs)]
def encL : List Tm → List (List V) | [] => [] | t :: r => t.enc :: encL r
end
mutual
def size : Tm → Nat | mk _ _ xs => 1 + sizeL xs
def sizeL : List Tm → Nat | [] => 0 | t :: r => t.size + sizeL r
end
mutual
def depth : Tm → Nat | mk _ _ xs => depthL xs + 1
def depthL : List Tm → Nat | [] => 0 | t :: r => max t.depth (depthL r)
end
mutual
def formed : Tm → Bool | mk n v xs => if v then nameOk n false && xs.isEmpty else nameOk n true && decide (xs.length ≤ 8) && formedL xs
def formedL : List Tm → Bool | [] => true | t :: r => t.formed && formedL r
end
theorem enc_eq : ∀ t : Tm, t.enc = [.s t.name, .b t.var, .l (encL t.args)] | mk _ _ _ => rfl
theorem size_eq : ∀ t : Tm, t.size = 1 + sizeL t.args | mk _ _ _ => rfl
theorem depth_eq : ∀ t : Tm, t.depth = depthL t.args + 1 | mk _ _ _ => rfl
theorem encL_eq : ∀ (l : List Tm), encL l = l.map enc
  | [] => rfl
  | t :: r => by simp [encL, encL_eq r]
theorem encL_length (l : List Tm) : (encL l).length = l.length := by simp [encL_eq]
theorem encL_getD (l : List Tm) (k : Nat) (h : k < l.length) : (encL l).getD k [] = (l[k]).enc := by
  rw [encL_eq, List.getD_eq_getElem?_getD, List.getElem?_map, List.getElem?_eq_getElem h]; rfl
theorem ind {p : Tm → Prop} (h : ∀ t : Tm, (∀ a ∈ t.args, p a) → p t) : ∀ t, p t
  | mk n v xs => h (mk n v xs) fun a ha => ind h a
termination_by t => SizeOf.sizeOf t
decreasing_by
  have := List.sizeOf_lt_of_mem (show a ∈ xs from ha)
  simp; omega
theorem size_pos (t : Tm) : 1 ≤ t.size := by rw [size_eq]; omega
theorem sizeL_mem : ∀ {l : List Tm} {a : Tm}, a ∈ l → a.size ≤ sizeL l
  | t :: r, a, h => by
    rcases List.mem_cons.1 h with rfl | h
    · simp [sizeL]
    · have := sizeL_mem h; simp [sizeL]; omega
theorem size_mem {t a : Tm} (h : a ∈ t.args) : a.size < t.size := by have := sizeL_mem h; rw [size_eq t]; omega
theorem sizeL_append : ∀ (l r : List Tm), sizeL (l ++ r) = sizeL l + sizeL r
  | [], r => by simp [sizeL]
  | t :: l, r => by simp [sizeL, sizeL_append l r]; omega
theorem sizeL_take (l : List Tm) (k : Nat) (h : k < l.length) : sizeL (l.take (k + 1)) = sizeL (l.take k) + l[k].size := by
  rw [List.take_succ_eq_append_getElem h, sizeL_append]; simp [sizeL]
theorem sizeL_take_le (l : List Tm) (k : Nat) : sizeL (l.take k) ≤ sizeL l := by
  have := sizeL_append (l.take k) (l.drop k)
  rw [List.take_append_drop] at this; omega
theorem length_sizeL : ∀ (l : List Tm), l.length ≤ sizeL l
  | [] => by simp [sizeL]
  | t :: r => by have := length_sizeL r; have := size_pos t; simp [sizeL]; omega
theorem depthL_append : ∀ (l r : List Tm), depthL (l ++ r) = max (depthL l) (depthL r)
  | [], r => by simp [depthL]
  | t :: l, r => by simp [depthL, depthL_append l r, Nat.max_assoc]
theorem depthL_take (l : List Tm) (k : Nat) (h : k < l.length) : depthL (l.take (k + 1)) = max (depthL (l.take k)) l[k].depth := by
  rw [List.take_succ_eq_append_getElem h, depthL_append]; simp [depthL]
theorem depthL_le_sizeL {l : List Tm} (h : ∀ a ∈ l, a.depth ≤ a.size) : depthL l ≤ sizeL l := by
  induction l with
  | nil => simp [depthL]
  | cons t r ih =>
    have h1 := h t (by simp)
    have h2 := ih fun a ha => h a (by simp [ha])
    simp [depthL, sizeL]; omega
theorem depth_le_size : ∀ t : Tm, t.depth ≤ t.size := ind fun t ih => by
  have := depthL_le_sizeL ih
  rw [depth_eq, size_eq]; omega
theorem formedL_eq : ∀ (l : List Tm), formedL l = l.all formed
  | [] => rfl
  | t :: r => by simp [formedL, formedL_eq r]
theorem formed_eq : ∀ t : Tm, t.formed = if t.var then nameOk t.name false && t.args.isEmpty else nameOk t.name true && decide (t.args.length ≤ 8) && t.args.all formed
  | mk n v xs => by
    simp only [formed, name, var, args, formedL_eq]
    try rfl
def check (t : Tm) : Int := if t.formed then (if t.size ≤ 4000 ∧ t.depth ≤ 200 then 0 else 3) else 4
def checkAll : List Tm → Int
  | [] => 0
  | t :: r => if t.check = 0 then checkAll r else t.check
theorem check_zero {t : Tm} : t.check = 0 ↔ t.formed = true ∧ t.size ≤ 4000 ∧ t.depth ≤ 200 := by
  unfold check
  cases t.formed with
  | false => simp
  | true => by_cases h : t.size ≤ 4000 ∧ t.depth ≤ 200 <;> simp [h]
theorem checkAll_zero : ∀ {l : List Tm}, checkAll l = 0 ↔ ∀ t ∈ l, t.check = 0
  | [] => by simp [checkAll]
  | t :: r => by
    simp only [checkAll]
    by_cases h : t.check = 0
    · simp [h, checkAll_zero (l := r)]
    · simp [h]
def cmpI (a b : Int) : Int := if a < b then -1 else if b < a then 1 else 0
mutual
def cmp : Tm → Tm → Int
  | mk n v xs, mk m w ys =>
    if v ≠ w then (if v then -1 else 1)
    else if cmpN n m ≠ 0 then cmpN n m
    else if cmpI xs.length ys.length ≠ 0 then cmpI xs.length ys.length
    else cmpL xs ys
def cmpL : List Tm → List Tm → Int
  | t :: r, s :: q => if cmp t s ≠ 0 then cmp t s else cmpL r q
  | _, _ => 0
end
theorem cmp_eq : ∀ a b : Tm, cmp a b = if a.var ≠ b.var then (if a.var then -1 else 1)
    else if cmpN a.name b.name ≠ 0 then cmpN a.name b.name
    else if cmpI a.args.length b.args.length ≠ 0 then cmpI a.args.length b.args.length
    else cmpL a.args b.args
  | mk _ _ _, mk _ _ _ => rfl
theorem cmpI_zero {a b : Int} : cmpI a b = 0 ↔ a = b := by unfold cmpI; split <;> (try split) <;> omega
theorem cmpL_zero : ∀ {l r : List Tm}, l.length = r.length → (∀ a ∈ l, ∀ b, cmp a b = 0 ↔ a = b) → (cmpL l r = 0 ↔ l = r)
  | [], [], _, _ => by simp [cmpL]
  | [], _ :: _, h, _ => by simp at h
  | _ :: _, [], h, _ => by simp at h
  | t :: l, s :: r, h, ih => by
    have h1 := ih t (by simp) s
    have h2 := cmpL_zero (l := l) (r := r) (by simpa using h) fun a ha => ih a (by simp [ha])
    simp only [cmpL]
    by_cases h3 : cmp t s = 0
    · rw [if_neg (by simp [h3]), h2]
      have := h1.1 h3
      subst this
      simp
    · simp [h3]
      intro h4; exact absurd (h1.2 h4) h3
theorem cmp_zero : ∀ {a b : Tm}, cmp a b = 0 ↔ a = b := fun {a b} => ind (p := fun a => ∀ b, cmp a b = 0 ↔ a = b) (fun a ih b => by
  rw [cmp_eq]
  by_cases h1 : a.var = b.var
  · rw [if_neg (by simp [h1])]
    by_cases h2 : cmpN a.name b.name = 0
    · rw [if_neg (by simp [h2])]
      by_cases h3 : cmpI a.args.length b.args.length = 0
      · rw [if_neg (by simp [h3])]
        have h4 := cmpI_zero.1 h3
        rw [cmpL_zero (by omega) ih]
        exact ⟨fun h => ext (cmpN_zero.1 h2) h1 h, fun h => by rw [h]⟩
      · rw [if_pos h3]
        exact ⟨fun h => absurd h h3, fun h => by rw [h] at h3; exact absurd (cmpI_zero.2 rfl) h3⟩
    · rw [if_pos h2]
      exact ⟨fun h => absurd h h2, fun h => by rw [h] at h2; exact absurd (cmpN_self _) h2⟩
  · rw [if_pos h1]
    constructor
    · intro h; exfalso; revert h; cases a.var <;> simp
    · intro h; exact absurd (by rw [h]) h1) a b
def eqB (a b : Tm) : Bool := decide (cmp a b = 0)
theorem eqB_iff {a b : Tm} : eqB a b = true ↔ a = b := by unfold eqB; rw [decide_eq_true_iff, cmp_zero]
theorem eqB_false {a b : Tm} : eqB a b = false ↔ a ≠ b := by rw [← Bool.not_eq_true, eqB_iff]
end Tm
abbrev tD (t : Tm) : D := .agg [.v .str (.s t.name), .v .bool (.b t.var), .v (.sl t_Term) (.l (Tm.encL t.args))]
abbrev tsD (l : List Tm) : D := .v (.sl t_Term) (.l (Tm.encL l))
end Go.Proofs.YtehchnjnbbnkbaaGreat
