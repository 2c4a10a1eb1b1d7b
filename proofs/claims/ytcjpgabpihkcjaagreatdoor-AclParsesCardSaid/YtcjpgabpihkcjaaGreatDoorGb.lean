/- Printed by gen.py. -/
import Derived.Test.YtcjpgabpihkcjaaGreatDoorProg
import Derived.Test.YtcjpgabpihkcjaaGreatDoorGc
namespace Go.Proofs.YtcjpgabpihkcjaaGreatDoor
open Go Gx

namespace F
abbrev main_main : Nat := 0
abbrev gosem_cut : Nat := 1
abbrev gosem_cut_init : Nat := 2
abbrev law32_AclShows : Nat := 3
abbrev law32_AclParses : Nat := 4
abbrev acl_Show : Nat := 5
abbrev acl_Parse : Nat := 6
abbrev ref32_Show : Nat := 7
abbrev law32_lives : Nat := 8
abbrev acl_show : Nat := 9
abbrev strings_Split : Nat := 10
abbrev acl_unproto : Nat := 11
abbrev addr_ParsePrefix : Nat := 12
abbrev strings_Cut : Nat := 13
abbrev acl_number : Nat := 14
abbrev ref32_Good : Nat := 15
abbrev ref12_Num : Nat := 16
abbrev ref12_ShowPrefix : Nat := 17
abbrev acl_First : Nat := 18
abbrev acl_Good : Nat := 19
abbrev acl_good : Nat := 20
abbrev strconv_Itoa : Nat := 21
abbrev strings_Join : Nat := 22
abbrev acl_proto : Nat := 23
abbrev addr_ShowPrefix : Nat := 24
abbrev strings_genSplit : Nat := 25
abbrev addr_parse : Nat := 26
abbrev strconv_Atoi : Nat := 27
abbrev addr_showPrefix : Nat := 28
abbrev internal_stringslite_Cut : Nat := 29
abbrev strconv_ParseUint : Nat := 30
abbrev ref31_Good : Nat := 31
abbrev ref12_Mask : Nat := 32
abbrev ref12_Show : Nat := 33
abbrev slices_IndexFunc_Sl_api_Rule_api_Rule : Nat := 34
abbrev acl_First_1 : Nat := 35
abbrev acl_hits : Nat := 36
abbrev acl_prefix : Nat := 37
abbrev internal_strconv_Itoa : Nat := 38
abbrev strings_Builder_Grow : Nat := 39
abbrev strings_Builder_WriteString : Nat := 40
abbrev strings_Builder_String : Nat := 41
abbrev strings_explode : Nat := 42
abbrev strings_Count : Nat := 43
abbrev strings_Index : Nat := 44
abbrev strings_Contains : Nat := 45
abbrev addr_of : Nat := 46
abbrev addr_numbers : Nat := 47
abbrev addr_show : Nat := 48
abbrev internal_strconv_Atoi : Nat := 49
abbrev strconv_toError : Nat := 50
abbrev addr_mask : Nat := 51
abbrev internal_stringslite_Index : Nat := 52
abbrev internal_strconv_ParseUint : Nat := 53
abbrev ref12_From : Nat := 54
abbrev ref12_Good : Nat := 55
abbrev addr_In : Nat := 56
abbrev internal_strconv_FormatInt : Nat := 57
abbrev strings_Builder_copyCheck : Nat := 58
abbrev strings_Builder_grow : Nat := 59
abbrev unicode_utf8_RuneCountInString : Nat := 60
abbrev unicode_utf8_DecodeRuneInString : Nat := 61
abbrev internal_bytealg_CountString : Nat := 62
abbrev addr_last : Nat := 63
abbrev num_Put : Nat := 64
abbrev addr_good : Nat := 65
abbrev addr_raw : Nat := 66
abbrev num_Get : Nat := 67
abbrev strconv_FormatUint : Nat := 68
abbrev internal_strconv_ParseInt : Nat := 69
abbrev strconv_syntaxError : Nat := 70
abbrev strconv_rangeError : Nat := 71
abbrev strconv_baseError : Nat := 72
abbrev strconv_bitSizeError : Nat := 73
abbrev addr_Bytes : Nat := 74
abbrev internal_stringslite_IndexByte : Nat := 75
abbrev internal_bytealg_IndexString : Nat := 76
abbrev internal_bytealg_Cutover : Nat := 77
abbrev internal_bytealg_IndexRabinKarp_string : Nat := 78
abbrev internal_strconv_lower : Nat := 79
abbrev internal_strconv_underscoreOK : Nat := 80
abbrev internal_strconv_small : Nat := 81
abbrev internal_strconv_numDigits : Nat := 82
abbrev internal_strconv_formatBase10 : Nat := 83
abbrev internal_strconv_formatBits : Nat := 84
abbrev internal_abi_NoEscape : Nat := 85
abbrev internal_bytealg_MakeNoZero : Nat := 86
abbrev unicode_utf8_decodeRuneInStringSlow : Nat := 87
abbrev slices_Clone_Sl_byte_byte : Nat := 88
abbrev num_good : Nat := 89
abbrev num_cut : Nat := 90
abbrev internal_strconv_FormatUint : Nat := 91
abbrev internal_stringslite_Clone : Nat := 92
abbrev errors_New : Nat := 93
abbrev num_Bytes : Nat := 94
abbrev internal_bytealg_IndexByteString : Nat := 95
abbrev internal_bytealg_hashStr_string : Nat := 96
abbrev internal_strconv_log10Pow2 : Nat := 97
abbrev math_bits_Len64 : Nat := 98
abbrev internal_strconv_bool2_int : Nat := 99
abbrev internal_strconv_isPowerOfTwo : Nat := 100
abbrev math_bits_TrailingZeros : Nat := 101
abbrev math_bits_TrailingZeros32 : Nat := 102
abbrev math_bits_TrailingZeros64 : Nat := 103
abbrev runtime_boundsError_Error : Nat := 104
abbrev runtime_boundsError_RuntimeError : Nat := 105
abbrev runtime_errorString_Error : Nat := 106
abbrev runtime_errorString_RuntimeError : Nat := 107
abbrev runtime_plainError_Error : Nat := 108
abbrev runtime_plainError_RuntimeError : Nat := 109
abbrev runtime_errorAddressString_Error : Nat := 110
abbrev runtime_errorAddressString_RuntimeError : Nat := 111
abbrev runtime_TypeAssertionError_Error : Nat := 112
abbrev runtime_TypeAssertionError_RuntimeError : Nat := 113
abbrev runtime_PanicNilError_Error : Nat := 114
abbrev runtime_PanicNilError_RuntimeError : Nat := 115
abbrev internal_abi_Type_Align : Nat := 116
abbrev internal_runtime_maps_unhashableTypeError_Error : Nat := 117
abbrev internal_runtime_maps_unhashableTypeError_RuntimeError : Nat := 118
abbrev strings_Builder_Reset : Nat := 119
abbrev internal_strconv_Error_Error : Nat := 120
abbrev strconv_NumError_Error : Nat := 121
abbrev errors_errorString_Error : Nat := 122
abbrev internal_abi_Kind_String : Nat := 123
abbrev var_s_door_gosem_cut_vars_holds_initialisers_alone_see_the_m : Nat := 124
abbrev var_s_door_internal_strconv_uint64pow10_is_laid_by_its_own_i : Nat := 125
abbrev var_s_door_math_bits_deBruijn32tab_is_laid_by_its_own_initia : Nat := 126
abbrev var_s_door_math_bits_deBruijn64tab_is_laid_by_its_own_initia : Nat := 127
abbrev var_s_door_strconv_ErrRange_is_laid_by_its_own_call_of_error : Nat := 128
abbrev var_s_door_strconv_ErrSyntax_is_laid_by_its_own_call_of_erro : Nat := 129
abbrev var_s_door_the_look_of_gosem_cut_vars_went_over_the_folder_t : Nat := 130
abbrev var_s_door_unicode_utf8_acceptRanges_is_laid_by_its_own_init : Nat := 131
abbrev var_s_door_unicode_utf8_first_is_laid_by_its_text_alone_pinn : Nat := 132
abbrev gosem_cut_vars : Nat := 133
end F
namespace Ty
abbrev t : Nat := 0
abbrev func : Nat := 1
abbrev int64 : Nat := 2
abbrev int : Nat := 3
abbrev bool : Nat := 4
abbrev uint8 : Nat := 5
abbrev abi_BoundsErrorCode : Nat := 6
abbrev struct_x_int64_y_int_signed_bool_code_abi_BoundsErrorCode : Nat := 7
abbrev runtime_boundsError : Nat := 8
abbrev string : Nat := 9
abbrev runtime_errorString : Nat := 10
abbrev runtime_plainError : Nat := 11
abbrev uintptr : Nat := 12
abbrev struct_msg_string_addr_uintptr : Nat := 13
abbrev runtime_errorAddressString : Nat := 14
abbrev P_runtime_TypeAssertionError : Nat := 15
abbrev P_runtime_PanicNilError : Nat := 16
abbrev P_abi_Type : Nat := 17
abbrev struct_typ_P_abi_Type : Nat := 18
abbrev maps_unhashableTypeError : Nat := 19
abbrev interface : Nat := 20
abbrev int32 : Nat := 21
abbrev n16_uint8 : Nat := 22
abbrev struct_Six_bool_B_16_uint8 : Nat := 23
abbrev api_Addr : Nat := 24
abbrev struct_Addr_api_Addr_Bits_int : Nat := 25
abbrev api_Prefix : Nat := 26
abbrev uint16 : Nat := 27
abbrev struct_Src_api_Prefix_Dst_api_Prefix_Proto_uint8_Low_uint16_ : Nat := 28
abbrev api_Rule : Nat := 29
abbrev func_api_Rule_string : Nat := 30
abbrev api_Rule_bool : Nat := 31
abbrev func_string_api_Rule_bool : Nat := 32
abbrev func_bool : Nat := 33
abbrev func_api_Rule_bool : Nat := 34
abbrev func_string_api_Rule_bool_2 : Nat := 35
abbrev Sl_string : Nat := 36
abbrev func_string_string_Sl_string : Nat := 37
abbrev uint8_bool : Nat := 38
abbrev func_string_uint8_bool : Nat := 39
abbrev api_Prefix_bool : Nat := 40
abbrev func_string_api_Prefix_bool : Nat := 41
abbrev string_string_bool : Nat := 42
abbrev func_string_string_string_string_bool : Nat := 43
abbrev uint64 : Nat := 44
abbrev uint64_bool : Nat := 45
abbrev func_string_int_uint64_bool : Nat := 46
abbrev func_int_int_string : Nat := 47
abbrev func_api_Prefix_string : Nat := 48
abbrev int_bool : Nat := 49
abbrev func_Sl_api_Rule_api_Flow_int_bool : Nat := 50
abbrev Sl_api_Rule : Nat := 51
abbrev struct_Src_api_Addr_Dst_api_Addr_SrcPort_uint16_DstPort_uint : Nat := 52
abbrev api_Flow : Nat := 53
abbrev func_int_string : Nat := 54
abbrev func_Sl_string_string_string : Nat := 55
abbrev func_uint8_string : Nat := 56
abbrev func_string_string_int_int_Sl_string : Nat := 57
abbrev api_Addr_bool : Nat := 58
abbrev func_string_api_Addr_bool : Nat := 59
abbrev interface_Error_string : Nat := 60
abbrev error : Nat := 61
abbrev int_error : Nat := 62
abbrev func_string_int_error : Nat := 63
abbrev uint64_error : Nat := 64
abbrev func_string_int_int_uint64_error : Nat := 65
abbrev func_api_Prefix_bool : Nat := 66
abbrev func_api_Addr_int_api_Prefix_bool : Nat := 67
abbrev func_api_Addr_string : Nat := 68
abbrev func_Sl_api_Rule_func_api_Rule_bool_int : Nat := 69
abbrev func_api_Rule_api_Flow_bool : Nat := 70
abbrev P_strings_Builder : Nat := 71
abbrev Sl_uint8 : Nat := 72
abbrev struct_addr_P_strings_Builder_buf_Sl_uint8 : Nat := 73
abbrev strings_Builder : Nat := 74
abbrev func_int : Nat := 75
abbrev func_string : Nat := 76
abbrev func_string_int_Sl_string : Nat := 77
abbrev func_string_string_int : Nat := 78
abbrev func_string_string_bool : Nat := 79
abbrev func_Sl_uint8_api_Addr_bool : Nat := 80
abbrev func_string_string_int_int_Sl_uint8 : Nat := 81
abbrev func_string_string_int_int_error_error : Nat := 82
abbrev func_api_Addr_int : Nat := 83
abbrev func_api_Addr_bool : Nat := 84
abbrev uint : Nat := 85
abbrev func_api_Addr_api_Prefix_bool : Nat := 86
abbrev func_int64_int_string : Nat := 87
abbrev P_uint8 : Nat := 88
abbrev func_string_int : Nat := 89
abbrev int32_int : Nat := 90
abbrev func_string_int32_int : Nat := 91
abbrev func_string_uint8_int : Nat := 92
abbrev func_Sl_uint8_api_Addr : Nat := 93
abbrev func_Sl_uint8_uint64_int_Sl_uint8 : Nat := 94
abbrev func_api_Addr_Sl_uint8 : Nat := 95
abbrev func_Sl_uint8_int_int_uint64_bool : Nat := 96
abbrev func_uint64_int_string : Nat := 97
abbrev strconv_Error : Nat := 98
abbrev int64_error : Nat := 99
abbrev func_string_int_int_int64_error : Nat := 100
abbrev P_strconv_NumError : Nat := 101
abbrev func_string_string_P_strconv_NumError : Nat := 102
abbrev func_string_string_int_P_strconv_NumError : Nat := 103
abbrev func_int_int : Nat := 104
abbrev func_uint8_uint8 : Nat := 105
abbrev func_string_bool : Nat := 106
abbrev n24_uint8 : Nat := 107
abbrev func_uint64_int : Nat := 108
abbrev func_Sl_uint8_uint64 : Nat := 109
abbrev Sl_uint8_string : Nat := 110
abbrev func_Sl_uint8_uint64_int_bool_bool_Sl_uint8_string : Nat := 111
abbrev unsafe_Pointer : Nat := 112
abbrev func_unsafe_Pointer_unsafe_Pointer : Nat := 113
abbrev func_int_Sl_uint8 : Nat := 114
abbrev func_Sl_uint8_Sl_uint8 : Nat := 115
abbrev func_int_bool : Nat := 116
abbrev n12_uint8 : Nat := 117
abbrev Sl_uint8_bool : Nat := 118
abbrev func_Sl_uint8_int_int_Sl_uint8_bool : Nat := 119
abbrev func_string_string : Nat := 120
abbrev struct_Func_string_Num_string_Err_error : Nat := 121
abbrev strconv_NumError : Nat := 122
abbrev func_string_error : Nat := 123
abbrev func_Sl_uint8_Sl_uint8_2 : Nat := 124
abbrev uint32 : Nat := 125
abbrev uint32_uint32 : Nat := 126
abbrev func_string_uint32_uint32 : Nat := 127
abbrev func_bool_int : Nat := 128
abbrev n20_uint64 : Nat := 129
abbrev n65_uint8 : Nat := 130
abbrev func_uint_int : Nat := 131
abbrev n256_uint8 : Nat := 132
abbrev struct_lo_uint8_hi_uint8 : Nat := 133
abbrev utf8_acceptRange : Nat := 134
abbrev n16_utf8_acceptRange : Nat := 135
abbrev P_errors_errorString : Nat := 136
abbrev struct_s_string : Nat := 137
abbrev errors_errorString : Nat := 138
abbrev Sl_Sl_uint8 : Nat := 139
abbrev func_uint32_int : Nat := 140
abbrev n32_uint8 : Nat := 141
abbrev n64_uint8 : Nat := 142
abbrev struct_interface_P_abi_Type_concrete_P_abi_Type_asserted_P_a : Nat := 143
abbrev runtime_TypeAssertionError : Nat := 144
abbrev n0_P_runtime_PanicNilError : Nat := 145
abbrev struct_0_P_runtime_PanicNilError : Nat := 146
abbrev runtime_PanicNilError : Nat := 147
abbrev func_int_2 : Nat := 148
abbrev abi_TFlag : Nat := 149
abbrev abi_Kind : Nat := 150
abbrev func_unsafe_Pointer_unsafe_Pointer_bool : Nat := 151
abbrev abi_NameOff : Nat := 152
abbrev abi_TypeOff : Nat := 153
abbrev struct_Size_uintptr_PtrBytes_uintptr_Hash_uint32_TFlag_abi_T : Nat := 154
abbrev abi_Type : Nat := 155
end Ty
namespace G
abbrev internal_bytealg_MaxLen : Nat := 0
abbrev strconv_ErrSyntax : Nat := 1
abbrev strconv_ErrRange : Nat := 2
abbrev internal_strconv_uint64pow10 : Nat := 3
abbrev unicode_utf8_first : Nat := 4
abbrev unicode_utf8_acceptRanges : Nat := 5
abbrev math_bits_deBruijn32tab : Nat := 6
abbrev math_bits_deBruijn64tab : Nat := 7
end G
def tkL : List RK := [(.tup []),
  (.one (.one .fn)),
  (.one (.one (.int .i64))),
  (.one (.one (.int .i64))),
  (.one (.one .bool)),
  (.one (.one (.int .u8))),
  (.one (.one (.int .u8))),
  (.one (.flat [(.int .i64), (.int .i64), .bool, (.int .u8)])),
  (.one (.flat [(.int .i64), (.int .i64), .bool, (.int .u8)])),
  (.one (.one .str)),
  (.one (.one .str)),
  (.one (.one .str)),
  (.one (.one (.int .u64))),
  (.one (.flat [.str, (.int .u64)])),
  (.one (.flat [.str, (.int .u64)])),
  (.one (.one .ptr)),
  (.one (.one .ptr)),
  (.one (.one .ptr)),
  (.one (.flat [.ptr])),
  (.one (.flat [.ptr])),
  (.one (.one .any)),
  (.one (.one (.int .i32))),
  (.one (.one .agg)),
  (.one (.one .agg)),
  (.one (.one .agg)),
  (.one (.one .agg)),
  (.one (.one .agg)),
  (.one (.one (.int .u16))),
  (.one (.one .agg)),
  (.one (.one .agg)),
  (.one (.one .fn)),
  (.tup [(.one .agg), (.one .bool)]),
  (.one (.one .fn)),
  (.one (.one .fn)),
  (.one (.one .fn)),
  (.one (.one .fn)),
  (.one (.one .slice)),
  (.one (.one .fn)),
  (.tup [(.one (.int .u8)), (.one .bool)]),
  (.one (.one .fn)),
  (.tup [(.one .agg), (.one .bool)]),
  (.one (.one .fn)),
  (.tup [(.one .str), (.one .str), (.one .bool)]),
  (.one (.one .fn)),
  (.one (.one (.int .u64))),
  (.tup [(.one (.int .u64)), (.one .bool)]),
  (.one (.one .fn)),
  (.one (.one .fn)),
  (.one (.one .fn)),
  (.tup [(.one (.int .i64)), (.one .bool)]),
  (.one (.one .fn)),
  (.one (.one .slice)),
  (.one (.one .agg)),
  (.one (.one .agg)),
  (.one (.one .fn)),
  (.one (.one .fn)),
  (.one (.one .fn)),
  (.one (.one .fn)),
  (.tup [(.one .agg), (.one .bool)]),
  (.one (.one .fn)),
  (.one (.one .any)),
  (.one (.one .any)),
  (.tup [(.one (.int .i64)), (.one .any)]),
  (.one (.one .fn)),
  (.tup [(.one (.int .u64)), (.one .any)]),
  (.one (.one .fn)),
  (.one (.one .fn)),
  (.one (.one .fn)),
  (.one (.one .fn)),
  (.one (.one .fn)),
  (.one (.one .fn)),
  (.one (.one .ptr)),
  (.one (.one .slice)),
  (.one (.flat [.ptr, .slice])),
  (.one (.flat [.ptr, .slice])),
  (.one (.one .fn)),
  (.one (.one .fn)),
  (.one (.one .fn)),
  (.one (.one .fn)),
  (.one (.one .fn)),
  (.one (.one .fn)),
  (.one (.one .fn)),
  (.one (.one .fn)),
  (.one (.one .fn)),
  (.one (.one .fn)),
  (.one (.one (.int .u64))),
  (.one (.one .fn)),
  (.one (.one .fn)),
  (.one (.one .ptr)),
  (.one (.one .fn)),
  (.tup [(.one (.int .i32)), (.one (.int .i64))]),
  (.one (.one .fn)),
  (.one (.one .fn)),
  (.one (.one .fn)),
  (.one (.one .fn)),
  (.one (.one .fn)),
  (.one (.one .fn)),
  (.one (.one .fn)),
  (.one (.one (.int .i64))),
  (.tup [(.one (.int .i64)), (.one .any)]),
  (.one (.one .fn)),
  (.one (.one .ptr)),
  (.one (.one .fn)),
  (.one (.one .fn)),
  (.one (.one .fn)),
  (.one (.one .fn)),
  (.one (.one .fn)),
  (.one (.one .agg)),
  (.one (.one .fn)),
  (.one (.one .fn)),
  (.tup [(.one .slice), (.one .str)]),
  (.one (.one .fn)),
  (.one (.one .ptr)),
  (.one (.one .fn)),
  (.one (.one .fn)),
  (.one (.one .fn)),
  (.one (.one .fn)),
  (.one (.one .agg)),
  (.tup [(.one .slice), (.one .bool)]),
  (.one (.one .fn)),
  (.one (.one .fn)),
  (.one (.one .agg)),
  (.one (.one .agg)),
  (.one (.one .fn)),
  (.one (.one .fn)),
  (.one (.one (.int .u32))),
  (.tup [(.one (.int .u32)), (.one (.int .u32))]),
  (.one (.one .fn)),
  (.one (.one .fn)),
  (.one (.one .agg)),
  (.one (.one .agg)),
  (.one (.one .fn)),
  (.one (.one .agg)),
  (.one (.flat [(.int .u8), (.int .u8)])),
  (.one (.flat [(.int .u8), (.int .u8)])),
  (.one (.one .agg)),
  (.one (.one .ptr)),
  (.one (.flat [.str])),
  (.one (.flat [.str])),
  (.one (.one .slice)),
  (.one (.one .fn)),
  (.one (.one .agg)),
  (.one (.one .agg)),
  (.one (.flat [.ptr, .ptr, .ptr, .str])),
  (.one (.flat [.ptr, .ptr, .ptr, .str])),
  (.one (.one .agg)),
  (.one (.one .agg)),
  (.one (.one .agg)),
  (.one (.one .fn)),
  (.one (.one (.int .u8))),
  (.one (.one (.int .u8))),
  (.one (.one .fn)),
  (.one (.one (.int .i32))),
  (.one (.one (.int .i32))),
  (.one (.one .agg)),
  (.one (.one .agg))]
def tk : TypeId → RK := fun t => tkL.getD t (.one (.one .any))
theorem hmix : Tryz.prog.follows .mixedOrders = true := by kernel_rfl
end Go.Proofs.YtcjpgabpihkcjaaGreatDoor
