/-
  The types of this translation, as the abstract machine reads them; checked against the program.
-/
import Derived.Test.YtehchnjnbbnkbaaProg
import Derived.Test.YtehchnjnbbnkbaaAbsG
import Derived.KernelRfl
set_option linter.unusedVariables false
namespace Go.Proofs.Ytehchnjnbbnkbaa
open Go.Abs
def tab : Tab := [
  ⟨2, false, [.int .i64], [], none, .int .i64, none, none⟩,
  ⟨3, false, [.int .i64], [], none, .int .i64, none, none⟩,
  ⟨4, false, [.bool], [], none, .bool, none, none⟩,
  ⟨5, false, [.int .u8], [], none, .int .u8, none, none⟩,
  ⟨6, false, [.int .u8], [], none, .int .u8, none, none⟩,
  ⟨7, true, [.int .i64, .int .i64, .bool, .int .u8], [(0, 2), (1, 3), (2, 4), (3, 6)], none, .oth, none, none⟩,
  ⟨8, true, [.int .i64, .int .i64, .bool, .int .u8], [(0, 2), (1, 3), (2, 4), (3, 6)], none, .oth, none, none⟩,
  ⟨9, false, [.str], [], none, .str, none, none⟩,
  ⟨10, false, [.str], [], none, .str, none, none⟩,
  ⟨11, false, [.str], [], none, .str, none, none⟩,
  ⟨12, false, [.int .u64], [], none, .int .u64, none, none⟩,
  ⟨13, true, [.str, .int .u64], [(0, 9), (1, 12)], none, .oth, none, none⟩,
  ⟨14, true, [.str, .int .u64], [(0, 9), (1, 12)], none, .oth, none, none⟩,
  ⟨15, false, [.oth], [], none, .oth, none, none⟩,
  ⟨16, false, [.oth], [], none, .oth, none, none⟩,
  ⟨17, false, [.oth], [], none, .oth, none, none⟩,
  ⟨18, true, [.oth], [(0, 17)], none, .oth, none, none⟩,
  ⟨19, true, [.oth], [(0, 17)], none, .oth, none, none⟩,
  ⟨21, false, [.int .i32], [], none, .int .i32, none, none⟩,
  ⟨22, false, [.sl 55], [], some 55, .sl 55, none, none⟩,
  ⟨23, false, [.sl 25], [], some 25, .sl 25, none, none⟩,
  ⟨24, true, [.str, .bool, .sl 25], [(0, 9), (1, 4), (2, 23)], none, .oth, none, none⟩,
  ⟨25, true, [.str, .bool, .sl 25], [(0, 9), (1, 4), (2, 23)], none, .oth, none, none⟩,
  ⟨26, false, [.int .i64], [], none, .int .i64, none, none⟩,
  ⟨33, true, [.str, .bool, .sl 25, .str, .bool, .sl 25, .str, .bool, .sl 25], [], none, .oth, some (3, 25), none⟩,
  ⟨35, true, [.str, .bool, .sl 25, .str, .bool, .sl 25], [], none, .oth, some (2, 25), none⟩,
  ⟨36, false, [.sl 64], [], some 64, .sl 64, none, none⟩,
  ⟨37, false, [.sl 3], [], some 3, .sl 3, none, none⟩,
  ⟨38, true, [.sl 64, .str, .bool, .sl 25, .sl 3], [(0, 36), (1, 25), (4, 37)], none, .oth, none, none⟩,
  ⟨39, true, [.sl 64, .str, .bool, .sl 25, .sl 3], [(0, 36), (1, 25), (4, 37)], none, .oth, none, none⟩,
  ⟨49, false, [.sl 72], [], some 72, .sl 72, none, none⟩,
  ⟨54, true, [.str, .int .i64, .int .i64], [(0, 9), (1, 3), (2, 3)], none, .oth, none, none⟩,
  ⟨55, true, [.str, .int .i64, .int .i64], [(0, 9), (1, 3), (2, 3)], none, .oth, none, none⟩,
  ⟨63, true, [.str, .str, .bool, .sl 25], [(0, 9), (1, 25)], none, .oth, none, none⟩,
  ⟨64, true, [.str, .str, .bool, .sl 25], [(0, 9), (1, 25)], none, .oth, none, none⟩,
  ⟨71, true, [.str, .int .i64], [(0, 9), (1, 3)], none, .oth, none, none⟩,
  ⟨72, true, [.str, .int .i64], [(0, 9), (1, 3)], none, .oth, none, none⟩,
  ⟨77, false, [.sl 91], [], some 91, .sl 91, none, none⟩,
  ⟨79, false, [.oth], [], none, .oth, none, none⟩,
  ⟨80, false, [.sl 5], [], some 5, .sl 5, none, none⟩,
  ⟨81, true, [.sl 55, .sl 91, .sl 91, .sl 5, .sl 5], [(0, 22), (1, 77), (2, 77), (3, 80), (4, 80)], none, .oth, none, none⟩,
  ⟨82, true, [.sl 55, .sl 91, .sl 91, .sl 5, .sl 5], [(0, 22), (1, 77), (2, 77), (3, 80), (4, 80)], none, .oth, none, none⟩,
  ⟨90, true, [.str, .bool, .sl 25, .sl 3], [(0, 25), (3, 37)], none, .oth, none, none⟩,
  ⟨91, true, [.str, .bool, .sl 25, .sl 3], [(0, 25), (3, 37)], none, .oth, none, none⟩,
  ⟨93, false, [.int .u64], [], none, .int .u64, none, none⟩,
  ⟨104, true, [.oth, .oth, .oth, .str], [(0, 17), (1, 17), (2, 17), (3, 9)], none, .oth, none, none⟩,
  ⟨105, true, [.oth, .oth, .oth, .str], [(0, 17), (1, 17), (2, 17), (3, 9)], none, .oth, none, none⟩,
  ⟨106, true, [], [], none, .oth, some (0, 16), none⟩,
  ⟨107, true, [], [(0, 106)], none, .oth, none, none⟩,
  ⟨108, true, [], [(0, 106)], none, .oth, none, none⟩,
  ⟨110, false, [.int .u32], [], none, .int .u32, none, none⟩,
  ⟨111, false, [.int .u8], [], none, .int .u8, none, none⟩,
  ⟨112, false, [.int .u8], [], none, .int .u8, none, none⟩,
  ⟨114, false, [.oth], [], none, .oth, none, none⟩,
  ⟨115, false, [.int .i32], [], none, .int .i32, none, none⟩,
  ⟨116, false, [.int .i32], [], none, .int .i32, none, none⟩,
  ⟨119, false, [.oth], [], none, .oth, none, none⟩]
theorem tab_checked : tab.all (tiOk Try.prog tab) = true := by kernel_rfl
theorem tab_ok : TabOk Try.prog tab := tabOk_of tab_checked
abbrev t_t0 : Nat := 0
abbrev t_t1 : Nat := 1
abbrev t_int64 : Nat := 2
abbrev t_int : Nat := 3
abbrev t_bool : Nat := 4
abbrev t_uint8 : Nat := 5
abbrev t_abi_BoundsErrorCode : Nat := 6
abbrev t_t7 : Nat := 7
abbrev t_runtime_boundsError : Nat := 8
abbrev t_string : Nat := 9
abbrev t_runtime_errorString : Nat := 10
abbrev t_runtime_plainError : Nat := 11
abbrev t_uintptr : Nat := 12
abbrev t_t13 : Nat := 13
abbrev t_runtime_errorAddressString : Nat := 14
abbrev t_p_runtime_TypeAssertionError : Nat := 15
abbrev t_p_runtime_PanicNilError : Nat := 16
abbrev t_p_abi_Type : Nat := 17
abbrev t_t18 : Nat := 18
abbrev t_maps_unhashableTypeError : Nat := 19
abbrev t_t20 : Nat := 20
abbrev t_int32 : Nat := 21
abbrev t_s_Rank : Nat := 22
abbrev t_s_Term : Nat := 23
abbrev t_t24 : Nat := 24
abbrev t_Term : Nat := 25
abbrev t_Errno : Nat := 26
abbrev t_t27 : Nat := 27
abbrev t_t28 : Nat := 28
abbrev t_t29 : Nat := 29
abbrev t_t30 : Nat := 30
abbrev t_t31 : Nat := 31
abbrev t_t32 : Nat := 32
abbrev t_a3_Term : Nat := 33
abbrev t_t34 : Nat := 34
abbrev t_a2_Term : Nat := 35
abbrev t_s_Bind : Nat := 36
abbrev t_s_int : Nat := 37
abbrev t_t38 : Nat := 38
abbrev t_l06_Around : Nat := 39
abbrev t_t40 : Nat := 40
abbrev t_t41 : Nat := 41
abbrev t_t42 : Nat := 42
abbrev t_t43 : Nat := 43
abbrev t_t44 : Nat := 44
abbrev t_t45 : Nat := 45
abbrev t_t46 : Nat := 46
abbrev t_t47 : Nat := 47
abbrev t_t48 : Nat := 48
abbrev t_s_Symbol : Nat := 49
abbrev t_t50 : Nat := 50
abbrev t_t51 : Nat := 51
abbrev t_t52 : Nat := 52
abbrev t_t53 : Nat := 53
abbrev t_t54 : Nat := 54
abbrev t_Rank : Nat := 55
abbrev t_t56 : Nat := 56
abbrev t_t57 : Nat := 57
abbrev t_t58 : Nat := 58
abbrev t_t59 : Nat := 59
abbrev t_t60 : Nat := 60
abbrev t_t61 : Nat := 61
abbrev t_t62 : Nat := 62
abbrev t_t63 : Nat := 63
abbrev t_Bind : Nat := 64
abbrev t_t65 : Nat := 65
abbrev t_t66 : Nat := 66
abbrev t_t67 : Nat := 67
abbrev t_t68 : Nat := 68
abbrev t_t69 : Nat := 69
abbrev t_t70 : Nat := 70
abbrev t_t71 : Nat := 71
abbrev t_Symbol : Nat := 72
abbrev t_t73 : Nat := 73
abbrev t_t74 : Nat := 74
abbrev t_t75 : Nat := 75
abbrev t_t76 : Nat := 76
abbrev t_s_path_node : Nat := 77
abbrev t_t78 : Nat := 78
abbrev t_p_path_comparer : Nat := 79
abbrev t_s_uint8 : Nat := 80
abbrev t_t81 : Nat := 81
abbrev t_path_comparer : Nat := 82
abbrev t_t83 : Nat := 83
abbrev t_t84 : Nat := 84
abbrev t_t85 : Nat := 85
abbrev t_t86 : Nat := 86
abbrev t_t87 : Nat := 87
abbrev t_t88 : Nat := 88
abbrev t_t89 : Nat := 89
abbrev t_t90 : Nat := 90
abbrev t_path_node : Nat := 91
abbrev t_t92 : Nat := 92
abbrev t_uint : Nat := 93
abbrev t_t94 : Nat := 94
abbrev t_t95 : Nat := 95
abbrev t_t96 : Nat := 96
abbrev t_t97 : Nat := 97
abbrev t_t98 : Nat := 98
abbrev t_t99 : Nat := 99
abbrev t_t100 : Nat := 100
abbrev t_t101 : Nat := 101
abbrev t_t102 : Nat := 102
abbrev t_t103 : Nat := 103
abbrev t_t104 : Nat := 104
abbrev t_runtime_TypeAssertionError : Nat := 105
abbrev t_a0_p_runtime_PanicNilError : Nat := 106
abbrev t_t107 : Nat := 107
abbrev t_runtime_PanicNilError : Nat := 108
abbrev t_t109 : Nat := 109
abbrev t_uint32 : Nat := 110
abbrev t_abi_TFlag : Nat := 111
abbrev t_abi_Kind : Nat := 112
abbrev t_t113 : Nat := 113
abbrev t_p_uint8 : Nat := 114
abbrev t_abi_NameOff : Nat := 115
abbrev t_abi_TypeOff : Nat := 116
abbrev t_t117 : Nat := 117
abbrev t_abi_Type : Nat := 118
abbrev t_unsafe_Pointer : Nat := 119
abbrev f_main_main : Nat := 0
abbrev f_gosem_cut : Nat := 1
abbrev f_gosem_cut_init : Nat := 2
abbrev f_l06_PathGreater : Nat := 3
abbrev f_l06_PathOrder : Nat := 4
abbrev f_l06_PathClosed : Nat := 5
abbrev f_l06_PathTotal : Nat := 6
abbrev f_l06_PathRanks : Nat := 7
abbrev f_path_Greater : Nat := 8
abbrev f_r06_Check : Nat := 9
abbrev f_r01_CheckAll : Nat := 10
abbrev f_l06_alive : Nat := 11
abbrev f_r06_Greater : Nat := 12
abbrev f_l06_greater : Nat := 13
abbrev f_r01_At : Nat := 14
abbrev f_r01_Check : Nat := 15
abbrev f_r01_CheckSubst : Nat := 16
abbrev f_r01_Fits : Nat := 17
abbrev f_r01_Apply : Nat := 18
abbrev f_r01_Put : Nat := 19
abbrev f_r01_Equal : Nat := 20
abbrev f_l06_fixed : Nat := 21
abbrev f_path_Rank : Nat := 22
abbrev f_path_Check : Nat := 23
abbrev f_r06_Entry : Nat := 24
abbrev f_term_All : Nat := 25
abbrev f_path_Above : Nat := 26
abbrev f_r06_Listed : Nat := 27
abbrev f_l06_variable : Nat := 28
abbrev f_l06_symbol : Nat := 29
abbrev f_r06_Above : Nat := 30
abbrev f_r01_Formed : Nat := 31
abbrev f_r01_Size : Nat := 32
abbrev f_r01_Depth : Nat := 33
abbrev f_r01_IsName : Nat := 34
abbrev f_r01_CompareNames : Nat := 35
abbrev f_r01_Grown : Nat := 36
abbrev f_r01_Image : Nat := 37
abbrev f_r01_Compare : Nat := 38
abbrev f_path_Of : Nat := 39
abbrev f_path_Names_Rank : Nat := 40
abbrev f_path_Check_1 : Nat := 41
abbrev f_slices_ContainsFunc_Rank : Nat := 42
abbrev f_path_Check_2 : Nat := 43
abbrev f_term_Check : Nat := 44
abbrev f_path_nodes : Nat := 45
abbrev f_path_comparer_greater : Nat := 46
abbrev f_r01_Marked : Nat := 47
abbrev f_r01_Letters : Nat := 48
abbrev f_r01_CompareInts : Nat := 49
abbrev f_slices_BinarySearchFunc_Rank_string : Nat := 50
abbrev f_path_Of_1 : Nat := 51
abbrev f_strings_Compare : Nat := 52
abbrev f_term_IsName : Nat := 53
abbrev f_slices_IndexFunc_Rank : Nat := 54
abbrev f_term_formed : Nat := 55
abbrev f_term_fits : Nat := 56
abbrev f_path_comparer_compare : Nat := 57
abbrev f_r01_letter : Nat := 58
abbrev f_bytealg_CompareString : Nat := 59
abbrev f_strings_TrimSuffix : Nat := 60
abbrev f_slices_ContainsFunc_byte : Nat := 61
abbrev f_term_IsName_1 : Nat := 62
abbrev f_term_inName : Nat := 63
abbrev f_slices_ContainsFunc_Term : Nat := 64
abbrev f_term_formed_1 : Nat := 65
abbrev f_term_Size : Nat := 66
abbrev f_term_Depth : Nat := 67
abbrev f_slices_ContainsFunc_int : Nat := 68
abbrev f_path_comparer_compare_1 : Nat := 69
abbrev f_path_comparer_equal : Nat := 70
abbrev f_path_comparer_compare_2 : Nat := 71
abbrev f_bytealg_abigen_runtime_cmpstring : Nat := 72
abbrev f_stringslite_TrimSuffix : Nat := 73
abbrev f_slices_IndexFunc_byte : Nat := 74
abbrev f_slices_IndexFunc_Term : Nat := 75
abbrev f_slices_IndexFunc_int : Nat := 76
abbrev f_stringslite_HasSuffix : Nat := 77
abbrev f_runtime_boundsError_Error : Nat := 78
abbrev f_runtime_boundsError_RuntimeError : Nat := 79
abbrev f_runtime_errorString_Error : Nat := 80
abbrev f_runtime_errorString_RuntimeError : Nat := 81
abbrev f_runtime_plainError_Error : Nat := 82
abbrev f_runtime_plainError_RuntimeError : Nat := 83
abbrev f_runtime_errorAddressString_Error : Nat := 84
abbrev f_runtime_errorAddressString_RuntimeError : Nat := 85
abbrev f_runtime_TypeAssertionError_Error : Nat := 86
abbrev f_runtime_TypeAssertionError_RuntimeError : Nat := 87
abbrev f_runtime_PanicNilError_Error : Nat := 88
abbrev f_runtime_PanicNilError_RuntimeError : Nat := 89
abbrev f_abi_Type_Align : Nat := 90
abbrev f_maps_unhashableTypeError_Error : Nat := 91
abbrev f_maps_unhashableTypeError_RuntimeError : Nat := 92
abbrev f_abi_Kind_String : Nat := 93
def rsL : List RS := [
  .tup [],
  .tup [],
  .tup [],
  .one (.v .bool),
  .one (.v .bool),
  .one (.v .bool),
  .one (.v .bool),
  .one (.v .bool),
  .tup [.one (.v .bool), .one (.v (.int .i64))],
  .one (.v (.int .i64)),
  .one (.v (.int .i64)),
  .one (.v .bool),
  .one (.v .bool),
  .one (.v .bool),
  .tup [.agg [.v .str, .v .bool, .v (.sl t_Term)], .one (.v .bool)],
  .one (.v (.int .i64)),
  .one (.v (.int .i64)),
  .one (.v .bool),
  .agg [.v .str, .v .bool, .v (.sl t_Term)],
  .agg [.v .str, .v .bool, .v (.sl t_Term)],
  .one (.v .bool),
  .tup [.one (.same 2 (.sl t_Symbol)), .one (.v .bool)],
  .tup [.one (.v (.int .i64)), .one (.v (.int .i64))],
  .one (.v (.int .i64)),
  .agg [.v .str, .v (.int .i64), .v (.int .i64)],
  .one (.v (.int .i64)),
  .one (.v .bool),
  .one (.v (.int .i64)),
  .agg [.v .str, .v .bool, .v (.sl t_Term)],
  .agg [.v .str, .v .bool, .v (.sl t_Term)],
  .one (.v .bool),
  .one (.v .bool),
  .one (.v (.int .i64)),
  .one (.v (.int .i64)),
  .one (.v .bool),
  .one (.v (.int .i64)),
  .tup [.one (.v (.int .i64)), .one (.v (.int .i64))],
  .agg [.v .str, .v .bool, .v (.sl t_Term)],
  .one (.v (.int .i64)),
  .agg [.v .str, .v (.int .i64), .v (.int .i64)],
  .one (.v (.int .i64)),
  .one (.v .str),
  .one (.v .bool),
  .one (.v .bool),
  .one (.v (.int .i64)),
  .one (.same 1 (.sl t_path_node)),
  .one (.v .bool),
  .one (.v .bool),
  .one (.v .bool),
  .one (.v (.int .i64)),
  .tup [.one (.v (.int .i64)), .one (.v .bool)],
  .one (.v (.int .i64)),
  .one (.v (.int .i64)),
  .one (.v .bool),
  .one (.v (.int .i64)),
  .one (.v .bool),
  .one (.v .bool),
  .one (.v .bool),
  .one (.v .bool),
  .one (.v (.int .i64)),
  .one (.v .str),
  .one (.v .bool),
  .one (.v .bool),
  .one (.v .bool),
  .one (.v .bool),
  .one (.v .bool),
  .one (.v (.int .i64)),
  .one (.v (.int .i64)),
  .one (.v .bool),
  .one (.v .bool),
  .one (.v .bool),
  .one (.v .bool),
  .one (.v (.int .i64)),
  .one (.v .str),
  .one (.v (.int .i64)),
  .one (.v (.int .i64)),
  .one (.v (.int .i64)),
  .one (.v .bool),
  .one (.v .str),
  .tup [],
  .one (.v .str),
  .tup [],
  .one (.v .str),
  .tup [],
  .one (.v .str),
  .tup [],
  .one (.v .str),
  .tup [],
  .one (.v .str),
  .tup [],
  .one (.v (.int .i64)),
  .one (.v .str),
  .tup [],
  .one (.v .str)]
def rsT (f : FuncId) (_ : List D) : RS := rsL.getD f (.tup [])
def nilsL : List (List (Option Nat)) := [
  [],
  [],
  [],
  [some 55, none, none],
  [some 55, none],
  [some 55, none, none],
  [some 55, none, none],
  [some 55, none],
  [some 55, none, none],
  [some 55],
  [some 25],
  [],
  [some 55, none, none],
  [some 55, none, none],
  [none, some 3],
  [none],
  [some 64],
  [some 64, none],
  [some 64, none],
  [none, some 3, none],
  [none, none],
  [some 55, none, none],
  [some 55, none],
  [some 55],
  [some 55, none],
  [some 25],
  [some 55, none, none],
  [some 55],
  [none],
  [none, some 25],
  [some 55, none, none],
  [none],
  [none],
  [none],
  [none, none],
  [none, none],
  [some 64, none],
  [some 64, none],
  [none, none],
  [some 55, none],
  [some 55, none],
  [none],
  [some 55, none],
  [none],
  [none],
  [none, none],
  [none, none, none],
  [none],
  [none],
  [none, none],
  [some 55, none, none],
  [none, none],
  [none, none],
  [none, none],
  [some 55, none],
  [none],
  [none],
  [none, none, none],
  [none],
  [none, none],
  [none, none],
  [some 5, none],
  [none],
  [none],
  [some 25, none],
  [none],
  [none],
  [none],
  [some 3, none],
  [none],
  [none, none, none],
  [none],
  [none, none],
  [none, none],
  [some 5, none],
  [some 25, none],
  [some 3, none],
  [none, none],
  [none],
  [none],
  [none],
  [none],
  [none],
  [none],
  [none],
  [none],
  [none],
  [none],
  [none],
  [none],
  [none],
  [none],
  [none],
  [none]]
def nilsT (f : FuncId) : List (Option Nat) := nilsL.getD f []
def ownsT (f : FuncId) : Option (Nat × TypeId) := match f with | 21 => some (2, 72) | 45 => some (1, 91) | _ => none
def extT (f : FuncId) : Bool := Nat.beq f 72
def entT (f : FuncId) : Bool := Nat.blt f 94 && !([0, 1, 72, 78, 79, 80, 81, 82, 83, 84, 85, 86, 87, 88, 89, 90, 91, 92, 93].any (Nat.beq f))
abbrev cl : FuncId → List D → Heap → (D → Heap → Prop) → Prop := ACalls Try.prog (lfs tab)
def envA (l : List (Nat × List Adj)) (c : List (Nat × Nat)) (r : List Nat) (z : List (Nat × List Frz)) (y : List Nat) : Env := { T := tab, rs := rsT, ext := extT, ent := entT, call := cl, owns := ownsT, nils := nilsT, frz := frzLook z, lit := inL r, join := inL y, cut := cutLook c, adj := adjLook l }
theorem ents : (List.range 94).all (fun f => !entT f || entOk Try.prog f) = true := by kernel_rfl
theorem envOk (l : List (Nat × List Adj)) (c : List (Nat × Nat)) (r : List Nat) (z : List (Nat × List Frz)) (y : List Nat) : EnvOk Try.prog (envA l c r z y) := ⟨tab_ok, fun f hf args w => by
  have hf' : entT f = true := hf
  have hlt : f < 94 := by
    have := ((Bool.and_eq_true _ _).mp hf').1
    exact Nat.le_of_ble_eq_true this
  have h := List.all_eq_true.1 ents f (List.mem_range.2 hlt)
  rw [hf'] at h
  exact ent_of (by simpa using h) args w, fun _ _ _ _ h => h, fun _ _ _ _ _ h k => k.mono h, by kernel_rfl, fun f hf a b w => by
  have hf2 : f = 72 := Nat.eq_of_beq_eq_true hf
  subst hf2
  rw [run_callFunc_extern Try.func72 (by kernel_rfl) (by kernel_rfl) (by kernel_rfl) (e := Extern.BytealgCompare.compare) (by kernel_rfl), Lib.run_compareString]; rfl⟩
end Go.Proofs.Ytehchnjnbbnkbaa