/- Printed by gen.py. -/
import Derived.Test.YtcjpgabpihkcjaaDoorProg
import Derived.Test.YtcjpgabpihkcjaaDoorGc
namespace Go.Proofs.YtcjpgabpihkcjaaDoor
open Go Gx

namespace F
abbrev main_main : Nat := 0
abbrev gosem_cut : Nat := 1
abbrev gosem_cut_init : Nat := 2
abbrev law32_AclHits : Nat := 3
abbrev law32_AclCovers : Nat := 4
abbrev law32_AclIdles : Nat := 5
abbrev law32_AclSame : Nat := 6
abbrev law12_AddrBytes : Nat := 7
abbrev law12_AddrIn : Nat := 8
abbrev law12_AddrMasks : Nat := 9
abbrev law12_AddrParses : Nat := 10
abbrev law12_AddrShows : Nat := 11
abbrev law32_Few : Nat := 12
abbrev acl_First : Nat := 13
abbrev ref32_First : Nat := 14
abbrev acl_Hits : Nat := 15
abbrev ref32_Hits : Nat := 16
abbrev acl_Good : Nat := 17
abbrev ref32_Good : Nat := 18
abbrev law32_lives : Nat := 19
abbrev acl_Covers : Nat := 20
abbrev ref32_Covers : Nat := 21
abbrev acl_Idle : Nat := 22
abbrev acl_Slim : Nat := 23
abbrev ref32_Idle : Nat := 24
abbrev law01_Few : Nat := 25
abbrev addr_Of : Nat := 26
abbrev ref12_Good : Nat := 27
abbrev ref12_Bytes : Nat := 28
abbrev addr_Four : Nat := 29
abbrev addr_Bytes : Nat := 30
abbrev addr_Good : Nat := 31
abbrev law12_lives : Nat := 32
abbrev ref12_Mask : Nat := 33
abbrev addr_In : Nat := 34
abbrev addr_Mask : Nat := 35
abbrev addr_Parse : Nat := 36
abbrev ref12_Parse : Nat := 37
abbrev addr_ParsePrefix : Nat := 38
abbrev ref12_ParsePrefix : Nat := 39
abbrev addr_Show : Nat := 40
abbrev addr_ShowPrefix : Nat := 41
abbrev ref12_Show : Nat := 42
abbrev ref12_ShowPrefix : Nat := 43
abbrev slices_IndexFunc_Sl_api_Rule_api_Rule : Nat := 44
abbrev acl_First_1 : Nat := 45
abbrev acl_hits : Nat := 46
abbrev ref32_in : Nat := 47
abbrev acl_good : Nat := 48
abbrev ref31_Good : Nat := 49
abbrev acl_Show : Nat := 50
abbrev acl_covers : Nat := 51
abbrev ref31_In : Nat := 52
abbrev acl_idle : Nat := 53
abbrev addr_of : Nat := 54
abbrev ref12_From : Nat := 55
abbrev addr_last : Nat := 56
abbrev num_Bytes : Nat := 57
abbrev addr_raw : Nat := 58
abbrev addr_good : Nat := 59
abbrev addr_mask : Nat := 60
abbrev addr_parse : Nat := 61
abbrev ref12_digit : Nat := 62
abbrev strings_Cut : Nat := 63
abbrev strconv_Atoi : Nat := 64
abbrev addr_showPrefix : Nat := 65
abbrev addr_show : Nat := 66
abbrev ref12_Num : Nat := 67
abbrev acl_prefix : Nat := 68
abbrev acl_show : Nat := 69
abbrev acl_within : Nat := 70
abbrev slices_ContainsFunc_Sl_api_Rule_api_Rule : Nat := 71
abbrev acl_idle_1 : Nat := 72
abbrev strings_Contains : Nat := 73
abbrev addr_numbers : Nat := 74
abbrev internal_stringslite_Cut : Nat := 75
abbrev internal_strconv_Atoi : Nat := 76
abbrev strconv_toError : Nat := 77
abbrev strconv_Itoa : Nat := 78
abbrev strings_Join : Nat := 79
abbrev num_Get : Nat := 80
abbrev strconv_FormatUint : Nat := 81
abbrev acl_proto : Nat := 82
abbrev strings_Index : Nat := 83
abbrev strings_Split : Nat := 84
abbrev strconv_ParseUint : Nat := 85
abbrev num_Put : Nat := 86
abbrev internal_stringslite_Index : Nat := 87
abbrev internal_strconv_ParseInt : Nat := 88
abbrev strconv_syntaxError : Nat := 89
abbrev strconv_rangeError : Nat := 90
abbrev strconv_baseError : Nat := 91
abbrev strconv_bitSizeError : Nat := 92
abbrev internal_strconv_Itoa : Nat := 93
abbrev strings_Builder_Grow : Nat := 94
abbrev strings_Builder_WriteString : Nat := 95
abbrev strings_Builder_String : Nat := 96
abbrev num_cut : Nat := 97
abbrev num_good : Nat := 98
abbrev internal_strconv_FormatUint : Nat := 99
abbrev strings_genSplit : Nat := 100
abbrev internal_strconv_ParseUint : Nat := 101
abbrev slices_Clone_Sl_byte_byte : Nat := 102
abbrev internal_stringslite_IndexByte : Nat := 103
abbrev internal_bytealg_IndexString : Nat := 104
abbrev internal_bytealg_Cutover : Nat := 105
abbrev internal_bytealg_IndexRabinKarp_string : Nat := 106
abbrev internal_stringslite_Clone : Nat := 107
abbrev errors_New : Nat := 108
abbrev internal_strconv_FormatInt : Nat := 109
abbrev strings_Builder_copyCheck : Nat := 110
abbrev strings_Builder_grow : Nat := 111
abbrev internal_strconv_small : Nat := 112
abbrev internal_strconv_numDigits : Nat := 113
abbrev internal_strconv_formatBase10 : Nat := 114
abbrev internal_strconv_formatBits : Nat := 115
abbrev strings_explode : Nat := 116
abbrev strings_Count : Nat := 117
abbrev internal_strconv_lower : Nat := 118
abbrev internal_strconv_underscoreOK : Nat := 119
abbrev internal_bytealg_IndexByteString : Nat := 120
abbrev internal_bytealg_hashStr_string : Nat := 121
abbrev internal_abi_NoEscape : Nat := 122
abbrev internal_bytealg_MakeNoZero : Nat := 123
abbrev internal_strconv_log10Pow2 : Nat := 124
abbrev math_bits_Len64 : Nat := 125
abbrev internal_strconv_bool2_int : Nat := 126
abbrev internal_strconv_isPowerOfTwo : Nat := 127
abbrev math_bits_TrailingZeros : Nat := 128
abbrev unicode_utf8_RuneCountInString : Nat := 129
abbrev unicode_utf8_DecodeRuneInString : Nat := 130
abbrev internal_bytealg_CountString : Nat := 131
abbrev math_bits_TrailingZeros32 : Nat := 132
abbrev math_bits_TrailingZeros64 : Nat := 133
abbrev unicode_utf8_decodeRuneInStringSlow : Nat := 134
abbrev runtime_boundsError_Error : Nat := 135
abbrev runtime_boundsError_RuntimeError : Nat := 136
abbrev runtime_errorString_Error : Nat := 137
abbrev runtime_errorString_RuntimeError : Nat := 138
abbrev runtime_plainError_Error : Nat := 139
abbrev runtime_plainError_RuntimeError : Nat := 140
abbrev runtime_errorAddressString_Error : Nat := 141
abbrev runtime_errorAddressString_RuntimeError : Nat := 142
abbrev runtime_TypeAssertionError_Error : Nat := 143
abbrev runtime_TypeAssertionError_RuntimeError : Nat := 144
abbrev runtime_PanicNilError_Error : Nat := 145
abbrev runtime_PanicNilError_RuntimeError : Nat := 146
abbrev internal_abi_Type_Align : Nat := 147
abbrev internal_runtime_maps_unhashableTypeError_Error : Nat := 148
abbrev internal_runtime_maps_unhashableTypeError_RuntimeError : Nat := 149
abbrev internal_strconv_Error_Error : Nat := 150
abbrev strconv_NumError_Error : Nat := 151
abbrev strings_Builder_Reset : Nat := 152
abbrev errors_errorString_Error : Nat := 153
abbrev internal_abi_Kind_String : Nat := 154
abbrev var_s_door_gosem_cut_vars_holds_initialisers_alone_see_the_m : Nat := 155
abbrev var_s_door_internal_strconv_uint64pow10_is_laid_by_its_own_i : Nat := 156
abbrev var_s_door_math_bits_deBruijn32tab_is_laid_by_its_own_initia : Nat := 157
abbrev var_s_door_math_bits_deBruijn64tab_is_laid_by_its_own_initia : Nat := 158
abbrev var_s_door_strconv_ErrRange_is_laid_by_its_own_call_of_error : Nat := 159
abbrev var_s_door_strconv_ErrSyntax_is_laid_by_its_own_call_of_erro : Nat := 160
abbrev var_s_door_the_look_of_gosem_cut_vars_went_over_the_folder_t : Nat := 161
abbrev var_s_door_unicode_utf8_acceptRanges_is_laid_by_its_own_init : Nat := 162
abbrev var_s_door_unicode_utf8_first_is_laid_by_its_text_alone_pinn : Nat := 163
abbrev gosem_cut_vars : Nat := 164
end F
namespace Ty
abbrev t : Nat := 0
abbrev func : Nat := 1
abbrev int64 : Nat := 2
abbrev int : Nat := 3
abbrev bool : Nat := 4
abbrev uint8 : Nat := 5
abbrev abi_BoundsErrorCode : Nat := 6
abbrev struct_x_int64_y_int_signed_bool_code_abi_BoundsErrorCode : Nat := 7
abbrev runtime_boundsError : Nat := 8
abbrev string : Nat := 9
abbrev runtime_errorString : Nat := 10
abbrev runtime_plainError : Nat := 11
abbrev uintptr : Nat := 12
abbrev struct_msg_string_addr_uintptr : Nat := 13
abbrev runtime_errorAddressString : Nat := 14
abbrev P_runtime_TypeAssertionError : Nat := 15
abbrev P_runtime_PanicNilError : Nat := 16
abbrev P_abi_Type : Nat := 17
abbrev struct_typ_P_abi_Type : Nat := 18
abbrev maps_unhashableTypeError : Nat := 19
abbrev interface : Nat := 20
abbrev int32 : Nat := 21
abbrev Sl_api_Rule : Nat := 22
abbrev n16_uint8 : Nat := 23
abbrev struct_Six_bool_B_16_uint8 : Nat := 24
abbrev api_Addr : Nat := 25
abbrev uint16 : Nat := 26
abbrev struct_Src_api_Addr_Dst_api_Addr_SrcPort_uint16_DstPort_uint : Nat := 27
abbrev api_Flow : Nat := 28
abbrev func_Sl_api_Rule_Sl_api_Rule : Nat := 29
abbrev int_bool : Nat := 30
abbrev func_Sl_api_Rule_api_Flow_int_bool : Nat := 31
abbrev func_Sl_api_Rule_api_Flow_int : Nat := 32
abbrev struct_Addr_api_Addr_Bits_int : Nat := 33
abbrev api_Prefix : Nat := 34
abbrev struct_Src_api_Prefix_Dst_api_Prefix_Proto_uint8_Low_uint16_ : Nat := 35
abbrev api_Rule : Nat := 36
abbrev func_api_Rule_api_Flow_bool : Nat := 37
abbrev func_api_Rule_bool : Nat := 38
abbrev func_bool : Nat := 39
abbrev func_Sl_api_Rule_api_Flow_bool : Nat := 40
abbrev func_api_Rule_api_Rule_bool : Nat := 41
abbrev func_api_Rule_api_Rule_api_Flow_bool : Nat := 42
abbrev Sl_int : Nat := 43
abbrev func_Sl_api_Rule_Sl_int : Nat := 44
abbrev func_Sl_api_Rule_int_bool : Nat := 45
abbrev func_Sl_api_Rule_bool : Nat := 46
abbrev Sl_uint8 : Nat := 47
abbrev n4_uint8 : Nat := 48
abbrev func_Sl_uint8_int_Sl_uint8 : Nat := 49
abbrev api_Addr_bool : Nat := 50
abbrev func_Sl_uint8_api_Addr_bool : Nat := 51
abbrev func_api_Addr_bool : Nat := 52
abbrev func_api_Addr_Sl_uint8 : Nat := 53
abbrev func_uint8_uint8_uint8_uint8_api_Addr : Nat := 54
abbrev func_api_Addr_Sl_uint8_4_uint8_bool : Nat := 55
abbrev api_Prefix_bool : Nat := 56
abbrev func_api_Addr_int_api_Prefix_bool : Nat := 57
abbrev func_api_Addr_api_Prefix_bool : Nat := 58
abbrev func_api_Addr_int_int_bool : Nat := 59
abbrev func_string_api_Addr_bool : Nat := 60
abbrev func_string_api_Prefix_bool : Nat := 61
abbrev func_string_bool : Nat := 62
abbrev func_api_Addr_string : Nat := 63
abbrev func_api_Prefix_string : Nat := 64
abbrev func_Sl_api_Rule_func_api_Rule_bool_int : Nat := 65
abbrev func_api_Prefix_bool : Nat := 66
abbrev func_api_Rule_string : Nat := 67
abbrev func_api_Prefix_api_Prefix_bool : Nat := 68
abbrev func_Sl_api_Rule_api_Rule_bool : Nat := 69
abbrev func_api_Addr_int : Nat := 70
abbrev func_Sl_uint8_api_Addr : Nat := 71
abbrev func_Sl_uint8_Sl_uint8 : Nat := 72
abbrev uint : Nat := 73
abbrev func_uint8_int : Nat := 74
abbrev string_string_bool : Nat := 75
abbrev func_string_string_string_string_bool : Nat := 76
abbrev interface_Error_string : Nat := 77
abbrev error : Nat := 78
abbrev int_error : Nat := 79
abbrev func_string_int_error : Nat := 80
abbrev func_int_int_string : Nat := 81
abbrev func_Sl_api_Rule_func_api_Rule_bool_bool : Nat := 82
abbrev Sl_Sl_uint8 : Nat := 83
abbrev n12_uint8 : Nat := 84
abbrev func_string_string_bool : Nat := 85
abbrev func_string_string_int_int_Sl_uint8 : Nat := 86
abbrev func_string_string_int_int_error_error : Nat := 87
abbrev func_int_string : Nat := 88
abbrev Sl_string : Nat := 89
abbrev func_Sl_string_string_string : Nat := 90
abbrev uint64 : Nat := 91
abbrev uint64_bool : Nat := 92
abbrev func_Sl_uint8_int_int_uint64_bool : Nat := 93
abbrev func_uint64_int_string : Nat := 94
abbrev func_uint8_string : Nat := 95
abbrev func_string_string_int : Nat := 96
abbrev func_string_string_Sl_string : Nat := 97
abbrev uint64_error : Nat := 98
abbrev func_string_int_int_uint64_error : Nat := 99
abbrev func_Sl_uint8_uint64_int_Sl_uint8 : Nat := 100
abbrev strconv_Error : Nat := 101
abbrev int64_error : Nat := 102
abbrev func_string_int_int_int64_error : Nat := 103
abbrev P_strconv_NumError : Nat := 104
abbrev func_string_string_P_strconv_NumError : Nat := 105
abbrev func_string_string_int_P_strconv_NumError : Nat := 106
abbrev P_strings_Builder : Nat := 107
abbrev struct_addr_P_strings_Builder_buf_Sl_uint8 : Nat := 108
abbrev strings_Builder : Nat := 109
abbrev func_int : Nat := 110
abbrev func_string : Nat := 111
abbrev Sl_uint8_bool : Nat := 112
abbrev func_Sl_uint8_int_int_Sl_uint8_bool : Nat := 113
abbrev func_int_bool : Nat := 114
abbrev func_string_string_int_int_Sl_string : Nat := 115
abbrev func_Sl_uint8_Sl_uint8_2 : Nat := 116
abbrev func_string_uint8_int : Nat := 117
abbrev func_int_int : Nat := 118
abbrev func_string_string : Nat := 119
abbrev struct_Func_string_Num_string_Err_error : Nat := 120
abbrev strconv_NumError : Nat := 121
abbrev func_string_error : Nat := 122
abbrev func_int64_int_string : Nat := 123
abbrev P_uint8 : Nat := 124
abbrev n24_uint8 : Nat := 125
abbrev func_uint64_int : Nat := 126
abbrev func_Sl_uint8_uint64 : Nat := 127
abbrev Sl_uint8_string : Nat := 128
abbrev func_Sl_uint8_uint64_int_bool_bool_Sl_uint8_string : Nat := 129
abbrev func_string_int_Sl_string : Nat := 130
abbrev func_uint8_uint8 : Nat := 131
abbrev uint32 : Nat := 132
abbrev uint32_uint32 : Nat := 133
abbrev func_string_uint32_uint32 : Nat := 134
abbrev P_errors_errorString : Nat := 135
abbrev struct_s_string : Nat := 136
abbrev errors_errorString : Nat := 137
abbrev unsafe_Pointer : Nat := 138
abbrev func_unsafe_Pointer_unsafe_Pointer : Nat := 139
abbrev func_int_Sl_uint8 : Nat := 140
abbrev func_bool_int : Nat := 141
abbrev n20_uint64 : Nat := 142
abbrev n65_uint8 : Nat := 143
abbrev func_uint_int : Nat := 144
abbrev func_string_int : Nat := 145
abbrev int32_int : Nat := 146
abbrev func_string_int32_int : Nat := 147
abbrev func_uint32_int : Nat := 148
abbrev n32_uint8 : Nat := 149
abbrev n64_uint8 : Nat := 150
abbrev n256_uint8 : Nat := 151
abbrev struct_lo_uint8_hi_uint8 : Nat := 152
abbrev utf8_acceptRange : Nat := 153
abbrev n16_utf8_acceptRange : Nat := 154
abbrev struct_interface_P_abi_Type_concrete_P_abi_Type_asserted_P_a : Nat := 155
abbrev runtime_TypeAssertionError : Nat := 156
abbrev n0_P_runtime_PanicNilError : Nat := 157
abbrev struct_0_P_runtime_PanicNilError : Nat := 158
abbrev runtime_PanicNilError : Nat := 159
abbrev func_int_2 : Nat := 160
abbrev abi_TFlag : Nat := 161
abbrev abi_Kind : Nat := 162
abbrev func_unsafe_Pointer_unsafe_Pointer_bool : Nat := 163
abbrev abi_NameOff : Nat := 164
abbrev abi_TypeOff : Nat := 165
abbrev struct_Size_uintptr_PtrBytes_uintptr_Hash_uint32_TFlag_abi_T : Nat := 166
abbrev abi_Type : Nat := 167
end Ty
namespace G
abbrev internal_bytealg_MaxLen : Nat := 0
abbrev strconv_ErrSyntax : Nat := 1
abbrev strconv_ErrRange : Nat := 2
abbrev internal_strconv_uint64pow10 : Nat := 3
abbrev math_bits_deBruijn32tab : Nat := 4
abbrev math_bits_deBruijn64tab : Nat := 5
abbrev unicode_utf8_first : Nat := 6
abbrev unicode_utf8_acceptRanges : Nat := 7
end G
def tkL : List RK := [(.tup []),
  (.one (.one .fn)),
  (.one (.one (.int .i64))),
  (.one (.one (.int .i64))),
  (.one (.one .bool)),
  (.one (.one (.int .u8))),
  (.one (.one (.int .u8))),
  (.one (.flat [(.int .i64), (.int .i64), .bool, (.int .u8)])),
  (.one (.flat [(.int .i64), (.int .i64), .bool, (.int .u8)])),
  (.one (.one .str)),
  (.one (.one .str)),
  (.one (.one .str)),
  (.one (.one (.int .u64))),
  (.one (.flat [.str, (.int .u64)])),
  (.one (.flat [.str, (.int .u64)])),
  (.one (.one .ptr)),
  (.one (.one .ptr)),
  (.one (.one .ptr)),
  (.one (.flat [.ptr])),
  (.one (.flat [.ptr])),
  (.one (.one .any)),
  (.one (.one (.int .i32))),
  (.one (.one .slice)),
  (.one (.one .agg)),
  (.one (.one .agg)),
  (.one (.one .agg)),
  (.one (.one (.int .u16))),
  (.one (.one .agg)),
  (.one (.one .agg)),
  (.one (.one .fn)),
  (.tup [(.one (.int .i64)), (.one .bool)]),
  (.one (.one .fn)),
  (.one (.one .fn)),
  (.one (.one .agg)),
  (.one (.one .agg)),
  (.one (.one .agg)),
  (.one (.one .agg)),
  (.one (.one .fn)),
  (.one (.one .fn)),
  (.one (.one .fn)),
  (.one (.one .fn)),
  (.one (.one .fn)),
  (.one (.one .fn)),
  (.one (.one .slice)),
  (.one (.one .fn)),
  (.one (.one .fn)),
  (.one (.one .fn)),
  (.one (.one .slice)),
  (.one (.one .agg)),
  (.one (.one .fn)),
  (.tup [(.one .agg), (.one .bool)]),
  (.one (.one .fn)),
  (.one (.one .fn)),
  (.one (.one .fn)),
  (.one (.one .fn)),
  (.one (.one .fn)),
  (.tup [(.one .agg), (.one .bool)]),
  (.one (.one .fn)),
  (.one (.one .fn)),
  (.one (.one .fn)),
  (.one (.one .fn)),
  (.one (.one .fn)),
  (.one (.one .fn)),
  (.one (.one .fn)),
  (.one (.one .fn)),
  (.one (.one .fn)),
  (.one (.one .fn)),
  (.one (.one .fn)),
  (.one (.one .fn)),
  (.one (.one .fn)),
  (.one (.one .fn)),
  (.one (.one .fn)),
  (.one (.one .fn)),
  (.one (.one (.int .u64))),
  (.one (.one .fn)),
  (.tup [(.one .str), (.one .str), (.one .bool)]),
  (.one (.one .fn)),
  (.one (.one .any)),
  (.one (.one .any)),
  (.tup [(.one (.int .i64)), (.one .any)]),
  (.one (.one .fn)),
  (.one (.one .fn)),
  (.one (.one .fn)),
  (.one (.one .slice)),
  (.one (.one .agg)),
  (.one (.one .fn)),
  (.one (.one .fn)),
  (.one (.one .fn)),
  (.one (.one .fn)),
  (.one (.one .slice)),
  (.one (.one .fn)),
  (.one (.one (.int .u64))),
  (.tup [(.one (.int .u64)), (.one .bool)]),
  (.one (.one .fn)),
  (.one (.one .fn)),
  (.one (.one .fn)),
  (.one (.one .fn)),
  (.one (.one .fn)),
  (.tup [(.one (.int .u64)), (.one .any)]),
  (.one (.one .fn)),
  (.one (.one .fn)),
  (.one (.one (.int .i64))),
  (.tup [(.one (.int .i64)), (.one .any)]),
  (.one (.one .fn)),
  (.one (.one .ptr)),
  (.one (.one .fn)),
  (.one (.one .fn)),
  (.one (.one .ptr)),
  (.one (.flat [.ptr, .slice])),
  (.one (.flat [.ptr, .slice])),
  (.one (.one .fn)),
  (.one (.one .fn)),
  (.tup [(.one .slice), (.one .bool)]),
  (.one (.one .fn)),
  (.one (.one .fn)),
  (.one (.one .fn)),
  (.one (.one .fn)),
  (.one (.one .fn)),
  (.one (.one .fn)),
  (.one (.one .fn)),
  (.one (.one .agg)),
  (.one (.one .agg)),
  (.one (.one .fn)),
  (.one (.one .fn)),
  (.one (.one .ptr)),
  (.one (.one .agg)),
  (.one (.one .fn)),
  (.one (.one .fn)),
  (.tup [(.one .slice), (.one .str)]),
  (.one (.one .fn)),
  (.one (.one .fn)),
  (.one (.one .fn)),
  (.one (.one (.int .u32))),
  (.tup [(.one (.int .u32)), (.one (.int .u32))]),
  (.one (.one .fn)),
  (.one (.one .ptr)),
  (.one (.flat [.str])),
  (.one (.flat [.str])),
  (.one (.one .ptr)),
  (.one (.one .fn)),
  (.one (.one .fn)),
  (.one (.one .fn)),
  (.one (.one .agg)),
  (.one (.one .agg)),
  (.one (.one .fn)),
  (.one (.one .fn)),
  (.tup [(.one (.int .i32)), (.one (.int .i64))]),
  (.one (.one .fn)),
  (.one (.one .fn)),
  (.one (.one .agg)),
  (.one (.one .agg)),
  (.one (.one .agg)),
  (.one (.flat [(.int .u8), (.int .u8)])),
  (.one (.flat [(.int .u8), (.int .u8)])),
  (.one (.one .agg)),
  (.one (.flat [.ptr, .ptr, .ptr, .str])),
  (.one (.flat [.ptr, .ptr, .ptr, .str])),
  (.one (.one .agg)),
  (.one (.one .agg)),
  (.one (.one .agg)),
  (.one (.one .fn)),
  (.one (.one (.int .u8))),
  (.one (.one (.int .u8))),
  (.one (.one .fn)),
  (.one (.one (.int .i32))),
  (.one (.one (.int .i32))),
  (.one (.one .agg)),
  (.one (.one .agg))]
def tk : TypeId → RK := fun t => tkL.getD t (.one (.one .any))
theorem hmix : Tryd.prog.follows .mixedOrders = true := by kernel_rfl
end Go.Proofs.YtcjpgabpihkcjaaDoor
