/- Printed by gen.py. -/
import Derived.Test.YtgljoledlhmhnaaGreatDoorProg
import Derived.Test.YtgljoledlhmhnaaGreatDoorGc
namespace Go.Proofs.YtgljoledlhmhnaaGreatDoor
open Go Gx

namespace F
abbrev main_main : Nat := 0
abbrev gosem_cut : Nat := 1
abbrev gosem_cut_init : Nat := 2
abbrev law29_ScriptShows : Nat := 3
abbrev law29_ScriptParses : Nat := 4
abbrev law29_ScriptReads : Nat := 5
abbrev law29_ScriptPrints : Nat := 6
abbrev law29_ScriptLong : Nat := 7
abbrev law39_ConfDiffs : Nat := 8
abbrev law29_Few : Nat := 9
abbrev script_Show : Nat := 10
abbrev ref29_Show : Nat := 11
abbrev script_Parse : Nat := 12
abbrev ref29_Same : Nat := 13
abbrev law29_lives : Nat := 14
abbrev script_Read : Nat := 15
abbrev script_Print : Nat := 16
abbrev law39_Few : Nat := 17
abbrev conf_Diff : Nat := 18
abbrev conf_Steps : Nat := 19
abbrev conf_Text : Nat := 20
abbrev conf_Good : Nat := 21
abbrev ref39_Good : Nat := 22
abbrev conf_Same : Nat := 23
abbrev ref39_Same : Nat := 24
abbrev law39_lives : Nat := 25
abbrev ref39_Diff : Nat := 26
abbrev law39_ops : Nat := 27
abbrev law01_Few : Nat := 28
abbrev script_show : Nat := 29
abbrev ref29_Bare : Nat := 30
abbrev ref12_Good : Nat := 31
abbrev ref29_int0 : Nat := 32
abbrev ref29_hex : Nat := 33
abbrev ref29_num : Nat := 34
abbrev ref12_Show : Nat := 35
abbrev ref29_on : Nat := 36
abbrev script_parse : Nat := 37
abbrev strings_Count : Nat := 38
abbrev strings_Cut : Nat := 39
abbrev strings_Builder_WriteString : Nat := 40
abbrev strings_Builder_String : Nat := 41
abbrev conf_diff : Nat := 42
abbrev conf_good : Nat := 43
abbrev ref20_May : Nat := 44
abbrev ref20_Can : Nat := 45
abbrev slices_EqualFunc_Sl_api_Service_Sl_api_Service_api_Service_a : Nat := 46
abbrev conf_Same_1 : Nat := 47
abbrev conf_alike : Nat := 48
abbrev slices_Equal_Sl_api_Backend_api_Backend : Nat := 49
abbrev ref20_Same : Nat := 50
abbrev farm_New : Nat := 51
abbrev conf_Apply : Nat := 52
abbrev conf_Of : Nat := 53
abbrev ref39_find : Nat := 54
abbrev ref39_at : Nat := 55
abbrev strings_Join : Nat := 56
abbrev script_written : Nat := 57
abbrev script_parsed : Nat := 58
abbrev script_same : Nat := 59
abbrev ref12_Num : Nat := 60
abbrev unicode_utf8_RuneCountInString : Nat := 61
abbrev internal_bytealg_CountString : Nat := 62
abbrev strings_Index : Nat := 63
abbrev internal_stringslite_Cut : Nat := 64
abbrev strings_Builder_copyCheck : Nat := 65
abbrev conf_of : Nat := 66
abbrev conf_differ_put : Nat := 67
abbrev conf_differ_service : Nat := 68
abbrev conf_lays : Nat := 69
abbrev conf_rises : Nat := 70
abbrev conf_does : Nat := 71
abbrev farm_Farm_IDs : Nat := 72
abbrev farm_Farm_Service : Nat := 73
abbrev ref39_alike : Nat := 74
abbrev strings_Builder_Grow : Nat := 75
abbrev script_line_text : Nat := 76
abbrev script_names : Nat := 77
abbrev script_hex : Nat := 78
abbrev script_line_long : Nat := 79
abbrev script_line_ints : Nat := 80
abbrev addr_Show : Nat := 81
abbrev script_on : Nat := 82
abbrev strings_Split : Nat := 83
abbrev script_reader_step : Nat := 84
abbrev internal_stringslite_Index : Nat := 85
abbrev internal_abi_NoEscape : Nat := 86
abbrev slices_IndexFunc_Sl_api_Service_api_Service : Nat := 87
abbrev conf_of_1 : Nat := 88
abbrev conf_bare : Nat := 89
abbrev conf_at : Nat := 90
abbrev conf_differ_backend : Nat := 91
abbrev farm_Farm_AddService : Nat := 92
abbrev farm_Farm_AddBackend : Nat := 93
abbrev farm_Farm_DropService : Nat := 94
abbrev farm_Farm_DropBackend : Nat := 95
abbrev farm_Farm_Drain : Nat := 96
abbrev farm_Farm_Weigh : Nat := 97
abbrev slices_Sorted_int : Nat := 98
abbrev maps_Keys_map_int_P_api_Service_int_P_api_Service : Nat := 99
abbrev slices_Clone_Sl_api_Backend_api_Backend : Nat := 100
abbrev strings_Builder_grow : Nat := 101
abbrev strings_Fields : Nat := 102
abbrev strings_Builder_WriteByte : Nat := 103
abbrev strconv_FormatUint : Nat := 104
abbrev strconv_Itoa : Nat := 105
abbrev addr_show : Nat := 106
abbrev strings_genSplit : Nat := 107
abbrev script_unhex : Nat := 108
abbrev script_reader_word : Nat := 109
abbrev script_reader_long : Nat := 110
abbrev script_reader_int : Nat := 111
abbrev script_reader_addr : Nat := 112
abbrev script_reader_small : Nat := 113
abbrev script_reader_on : Nat := 114
abbrev internal_stringslite_IndexByte : Nat := 115
abbrev internal_bytealg_IndexString : Nat := 116
abbrev internal_bytealg_Cutover : Nat := 117
abbrev internal_bytealg_IndexRabinKarp_string : Nat := 118
abbrev slices_IndexFunc_Sl_api_Backend_api_Backend : Nat := 119
abbrev conf_at_1 : Nat := 120
abbrev farm_may : Nat := 121
abbrev farm_of : Nat := 122
abbrev farm_at : Nat := 123
abbrev farm_id : Nat := 124
abbrev addr_Good : Nat := 125
abbrev farm_weight : Nat := 126
abbrev slices_Insert_Sl_api_Backend_api_Backend : Nat := 127
abbrev farm_Farm_find : Nat := 128
abbrev slices_Delete_Sl_api_Backend_api_Backend : Nat := 129
abbrev slices_Collect_int : Nat := 130
abbrev slices_Sort_Sl_int_int : Nat := 131
abbrev maps_Keys_map_int_P_api_Service_int_P_api_Service_1 : Nat := 132
abbrev internal_bytealg_MakeNoZero : Nat := 133
abbrev strings_FieldsFunc : Nat := 134
abbrev unicode_IsSpace : Nat := 135
abbrev internal_strconv_FormatUint : Nat := 136
abbrev internal_strconv_Itoa : Nat := 137
abbrev addr_good : Nat := 138
abbrev addr_raw : Nat := 139
abbrev num_Get : Nat := 140
abbrev strings_explode : Nat := 141
abbrev strconv_ParseUint : Nat := 142
abbrev strconv_Atoi : Nat := 143
abbrev addr_Parse : Nat := 144
abbrev internal_bytealg_IndexByteString : Nat := 145
abbrev internal_bytealg_hashStr_string : Nat := 146
abbrev slices_BinarySearchFunc_Sl_api_Backend_api_Backend_int : Nat := 147
abbrev farm_at_1 : Nat := 148
abbrev cmp_Compare_int : Nat := 149
abbrev slices_overlaps_api_Backend : Nat := 150
abbrev slices_rotateRight_api_Backend : Nat := 151
abbrev slices_AppendSeq_Sl_int_int : Nat := 152
abbrev slices_pdqsortOrdered_int : Nat := 153
abbrev math_bits_Len : Nat := 154
abbrev unicode_isExcludingLatin : Nat := 155
abbrev internal_strconv_small : Nat := 156
abbrev internal_strconv_numDigits : Nat := 157
abbrev internal_strconv_formatBase10 : Nat := 158
abbrev internal_strconv_formatBits : Nat := 159
abbrev internal_strconv_FormatInt : Nat := 160
abbrev num_cut : Nat := 161
abbrev num_good : Nat := 162
abbrev unicode_utf8_DecodeRuneInString : Nat := 163
abbrev internal_strconv_ParseUint : Nat := 164
abbrev strconv_toError : Nat := 165
abbrev internal_strconv_Atoi : Nat := 166
abbrev addr_parse : Nat := 167
abbrev cmp_isNaN_int : Nat := 168
abbrev slices_rotateLeft_api_Backend : Nat := 169
abbrev slices_insertionSortOrdered_int : Nat := 170
abbrev slices_heapSortOrdered_int : Nat := 171
abbrev slices_breakPatternsOrdered_int : Nat := 172
abbrev slices_choosePivotOrdered_int : Nat := 173
abbrev slices_reverseRangeOrdered_int : Nat := 174
abbrev slices_partialInsertionSortOrdered_int : Nat := 175
abbrev cmp_Less_int : Nat := 176
abbrev slices_partitionEqualOrdered_int : Nat := 177
abbrev slices_partitionOrdered_int : Nat := 178
abbrev math_bits_Len32 : Nat := 179
abbrev math_bits_Len64 : Nat := 180
abbrev unicode_is16 : Nat := 181
abbrev unicode_is32 : Nat := 182
abbrev internal_strconv_log10Pow2 : Nat := 183
abbrev internal_strconv_bool2_int : Nat := 184
abbrev internal_strconv_isPowerOfTwo : Nat := 185
abbrev math_bits_TrailingZeros : Nat := 186
abbrev unicode_utf8_decodeRuneInStringSlow : Nat := 187
abbrev internal_strconv_lower : Nat := 188
abbrev internal_strconv_underscoreOK : Nat := 189
abbrev strconv_syntaxError : Nat := 190
abbrev strconv_rangeError : Nat := 191
abbrev strconv_baseError : Nat := 192
abbrev strconv_bitSizeError : Nat := 193
abbrev internal_strconv_ParseInt : Nat := 194
abbrev strings_Contains : Nat := 195
abbrev addr_of : Nat := 196
abbrev addr_numbers : Nat := 197
abbrev slices_Reverse_Sl_api_Backend_api_Backend : Nat := 198
abbrev slices_siftDownOrdered_int : Nat := 199
abbrev slices_nextPowerOfTwo : Nat := 200
abbrev slices_xorshift_Next : Nat := 201
abbrev slices_medianAdjacentOrdered_int : Nat := 202
abbrev slices_medianOrdered_int : Nat := 203
abbrev math_bits_TrailingZeros32 : Nat := 204
abbrev math_bits_TrailingZeros64 : Nat := 205
abbrev internal_stringslite_Clone : Nat := 206
abbrev errors_New : Nat := 207
abbrev addr_last : Nat := 208
abbrev num_Put : Nat := 209
abbrev slices_order2Ordered_int : Nat := 210
abbrev slices_Clone_Sl_byte_byte : Nat := 211
abbrev runtime_boundsError_Error : Nat := 212
abbrev runtime_boundsError_RuntimeError : Nat := 213
abbrev runtime_errorString_Error : Nat := 214
abbrev runtime_errorString_RuntimeError : Nat := 215
abbrev runtime_plainError_Error : Nat := 216
abbrev runtime_plainError_RuntimeError : Nat := 217
abbrev runtime_errorAddressString_Error : Nat := 218
abbrev runtime_errorAddressString_RuntimeError : Nat := 219
abbrev runtime_TypeAssertionError_Error : Nat := 220
abbrev runtime_TypeAssertionError_RuntimeError : Nat := 221
abbrev runtime_PanicNilError_Error : Nat := 222
abbrev runtime_PanicNilError_RuntimeError : Nat := 223
abbrev internal_abi_Type_Align : Nat := 224
abbrev internal_runtime_maps_unhashableTypeError_Error : Nat := 225
abbrev internal_runtime_maps_unhashableTypeError_RuntimeError : Nat := 226
abbrev api_Errno_Error : Nat := 227
abbrev strings_Builder_Reset : Nat := 228
abbrev internal_strconv_Error_Error : Nat := 229
abbrev strconv_NumError_Error : Nat := 230
abbrev errors_errorString_Error : Nat := 231
abbrev internal_abi_Kind_String : Nat := 232
abbrev var_s_door_unicode_White_Space_holds_what_its_initialiser_la : Nat := 233
abbrev var_s_door_unicode_White_Space_holds_what_its_initialiser_la_2 : Nat := 234
abbrev var_s_door_gosem_cut_vars_holds_initialisers_alone_see_the_m : Nat := 235
abbrev var_s_door_internal_strconv_uint64pow10_is_laid_by_its_own_i : Nat := 236
abbrev var_s_door_math_bits_deBruijn32tab_is_laid_by_its_own_initia : Nat := 237
abbrev var_s_door_math_bits_deBruijn64tab_is_laid_by_its_own_initia : Nat := 238
abbrev var_s_door_strconv_ErrRange_is_laid_by_its_own_call_of_error : Nat := 239
abbrev var_s_door_strconv_ErrSyntax_is_laid_by_its_own_call_of_erro : Nat := 240
abbrev var_s_door_strings_asciiSpace_is_laid_by_its_own_initialiser : Nat := 241
abbrev var_s_door_the_look_of_gosem_cut_vars_went_over_the_folder_t : Nat := 242
abbrev var_s_door_unicode_White_Space_is_laid_by_its_own_initialise : Nat := 243
abbrev var_s_door_unicode_White_Space_is_laid_by_its_own_initialise_2 : Nat := 244
abbrev var_s_door_unicode_utf8_acceptRanges_is_laid_by_its_own_init : Nat := 245
abbrev var_s_door_unicode_utf8_first_is_laid_by_its_text_alone_pinn : Nat := 246
abbrev gosem_cut_vars : Nat := 247
end F
namespace Ty
abbrev t : Nat := 0
abbrev func : Nat := 1
abbrev int64 : Nat := 2
abbrev int : Nat := 3
abbrev bool : Nat := 4
abbrev uint8 : Nat := 5
abbrev abi_BoundsErrorCode : Nat := 6
abbrev struct_x_int64_y_int_signed_bool_code_abi_BoundsErrorCode : Nat := 7
abbrev runtime_boundsError : Nat := 8
abbrev string : Nat := 9
abbrev runtime_errorString : Nat := 10
abbrev runtime_plainError : Nat := 11
abbrev uintptr : Nat := 12
abbrev struct_msg_string_addr_uintptr : Nat := 13
abbrev runtime_errorAddressString : Nat := 14
abbrev P_runtime_TypeAssertionError : Nat := 15
abbrev P_runtime_PanicNilError : Nat := 16
abbrev P_abi_Type : Nat := 17
abbrev struct_typ_P_abi_Type : Nat := 18
abbrev maps_unhashableTypeError : Nat := 19
abbrev interface : Nat := 20
abbrev int32 : Nat := 21
abbrev Sl_uint8 : Nat := 22
abbrev uint64 : Nat := 23
abbrev n16_uint8 : Nat := 24
abbrev struct_Six_bool_B_16_uint8 : Nat := 25
abbrev api_Addr : Nat := 26
abbrev uint16 : Nat := 27
abbrev Sl_api_Backend : Nat := 28
abbrev struct_ID_int_Addr_api_Addr_Port_uint16_Proto_uint8_Bits_int : Nat := 29
abbrev api_Service : Nat := 30
abbrev struct_ID_int_Addr_api_Addr_Port_uint16_Weight_int_Drained_b : Nat := 31
abbrev api_Backend : Nat := 32
abbrev Sl_int : Nat := 33
abbrev struct_Kind_int_Data_Sl_uint8_ID_int_Backend_int_N_uint64_On : Nat := 34
abbrev api_Op : Nat := 35
abbrev func_api_Op_api_Op : Nat := 36
abbrev func_api_Op_string : Nat := 37
abbrev api_Op_bool : Nat := 38
abbrev func_string_api_Op_bool : Nat := 39
abbrev func_api_Op_api_Op_bool : Nat := 40
abbrev func_bool : Nat := 41
abbrev func_api_Op_bool : Nat := 42
abbrev func_string_api_Op_bool_2 : Nat := 43
abbrev Sl_api_Op : Nat := 44
abbrev api_Errno : Nat := 45
abbrev Sl_api_Op_int_api_Errno : Nat := 46
abbrev func_string_Sl_api_Op_int_api_Errno : Nat := 47
abbrev func_string_bool : Nat := 48
abbrev string_api_Errno : Nat := 49
abbrev func_Sl_api_Op_string_api_Errno : Nat := 50
abbrev func_Sl_api_Op_bool : Nat := 51
abbrev func_uint8_bool : Nat := 52
abbrev Sl_api_Service : Nat := 53
abbrev func_Sl_api_Service_Sl_api_Service : Nat := 54
abbrev Sl_api_Op_api_Errno : Nat := 55
abbrev func_Sl_api_Service_Sl_api_Service_Sl_api_Op_api_Errno : Nat := 56
abbrev func_Sl_api_Service_Sl_api_Op_api_Errno : Nat := 57
abbrev func_Sl_api_Service_string_api_Errno : Nat := 58
abbrev func_Sl_api_Service_bool : Nat := 59
abbrev func_Sl_api_Service_Sl_api_Service_bool : Nat := 60
abbrev func_Sl_api_Service_Sl_api_Service_Sl_api_Op : Nat := 61
abbrev func_Sl_api_Op_Sl_api_Op_bool : Nat := 62
abbrev func_Sl_uint8_int_Sl_uint8 : Nat := 63
abbrev Sl_string : Nat := 64
abbrev func_api_Addr_bool : Nat := 65
abbrev func_int_string : Nat := 66
abbrev func_Sl_uint8_string : Nat := 67
abbrev func_uint64_string : Nat := 68
abbrev func_api_Addr_string : Nat := 69
abbrev func_bool_string : Nat := 70
abbrev func_string_string_int : Nat := 71
abbrev string_string_bool : Nat := 72
abbrev func_string_string_string_string_bool : Nat := 73
abbrev P_strings_Builder : Nat := 74
abbrev struct_addr_P_strings_Builder_buf_Sl_uint8 : Nat := 75
abbrev strings_Builder : Nat := 76
abbrev interface_Error_string : Nat := 77
abbrev error : Nat := 78
abbrev int_error : Nat := 79
abbrev func_string_int_error : Nat := 80
abbrev func_string : Nat := 81
abbrev func_api_Service_bool : Nat := 82
abbrev func_api_Service_api_Backend_bool : Nat := 83
abbrev func_Sl_api_Service_Sl_api_Service_func_api_Service_api_Serv : Nat := 84
abbrev func_api_Service_api_Service_bool : Nat := 85
abbrev func_Sl_api_Backend_Sl_api_Backend_bool : Nat := 86
abbrev P_farm_Farm : Nat := 87
abbrev func_P_farm_Farm : Nat := 88
abbrev int_api_Errno : Nat := 89
abbrev func_P_farm_Farm_Sl_api_Op_int_api_Errno : Nat := 90
abbrev func_P_farm_Farm_Sl_api_Service : Nat := 91
abbrev func_Sl_api_Service_api_Service_int : Nat := 92
abbrev func_Sl_api_Backend_api_Backend_int : Nat := 93
abbrev func_Sl_string_string_string : Nat := 94
abbrev func_api_Op_Sl_string : Nat := 95
abbrev func_int_int_string : Nat := 96
abbrev func_string_int : Nat := 97
abbrev func_string_uint8_int : Nat := 98
abbrev P_uint8 : Nat := 99
abbrev P_conf_differ : Nat := 100
abbrev struct_ops_Sl_api_Op : Nat := 101
abbrev conf_differ : Nat := 102
abbrev api_Service_bool : Nat := 103
abbrev func_Sl_api_Service_api_Service_api_Service_bool : Nat := 104
abbrev func_api_Op : Nat := 105
abbrev func_api_Service_bool_api_Service : Nat := 106
abbrev func_P_farm_Farm_api_Service_bool : Nat := 107
abbrev func_Sl_int_bool : Nat := 108
abbrev map_int_P_api_Service : Nat := 109
abbrev map_farm_door_int : Nat := 110
abbrev struct_l_map_int_P_api_Service_doors_map_farm_door_int : Nat := 111
abbrev farm_Farm : Nat := 112
abbrev func_P_farm_Farm_api_Op_api_Errno : Nat := 113
abbrev func_Sl_int : Nat := 114
abbrev func_int_api_Service_bool : Nat := 115
abbrev func_int : Nat := 116
abbrev P_script_line : Nat := 117
abbrev struct_words_Sl_string : Nat := 118
abbrev script_line : Nat := 119
abbrev func_string_2 : Nat := 120
abbrev func_Sl_string : Nat := 121
abbrev func_uint64 : Nat := 122
abbrev func_int_2 : Nat := 123
abbrev func_string_string_Sl_string : Nat := 124
abbrev P_script_reader : Nat := 125
abbrev struct_words_Sl_string_ok_bool : Nat := 126
abbrev script_reader : Nat := 127
abbrev func_int_api_Op : Nat := 128
abbrev unsafe_Pointer : Nat := 129
abbrev func_unsafe_Pointer_unsafe_Pointer : Nat := 130
abbrev func_Sl_api_Service_func_api_Service_bool_int : Nat := 131
abbrev func_api_Service_api_Service : Nat := 132
abbrev api_Backend_bool : Nat := 133
abbrev func_Sl_api_Backend_api_Backend_api_Backend_bool : Nat := 134
abbrev func_api_Service_int_api_Backend : Nat := 135
abbrev func_api_Service_api_Errno : Nat := 136
abbrev func_int_api_Backend_api_Errno : Nat := 137
abbrev func_int_api_Errno : Nat := 138
abbrev func_int_int_api_Errno : Nat := 139
abbrev func_int_int_bool_api_Errno : Nat := 140
abbrev func_int_int_int_api_Errno : Nat := 141
abbrev func_iter_Seq_int_Sl_int : Nat := 142
abbrev func_func_int_bool : Nat := 143
abbrev iter_Seq_int : Nat := 144
abbrev func_map_int_P_api_Service_iter_Seq_int : Nat := 145
abbrev P_api_Service : Nat := 146
abbrev P_api_Service_bool : Nat := 147
abbrev func_Sl_api_Backend_Sl_api_Backend : Nat := 148
abbrev func_string_Sl_string : Nat := 149
abbrev func_uint8_error : Nat := 150
abbrev uint : Nat := 151
abbrev func_uint64_int_string : Nat := 152
abbrev func_string_string_int_int_Sl_string : Nat := 153
abbrev Sl_uint8_bool : Nat := 154
abbrev func_string_Sl_uint8_bool : Nat := 155
abbrev func_uint64_2 : Nat := 156
abbrev func_int_3 : Nat := 157
abbrev func_api_Addr : Nat := 158
abbrev func_int_uint64 : Nat := 159
abbrev func_int_int : Nat := 160
abbrev func_Sl_api_Backend_func_api_Backend_bool_int : Nat := 161
abbrev func_api_Backend_bool : Nat := 162
abbrev int_bool : Nat := 163
abbrev struct_addr_api_Addr_port_uint16_proto_uint8 : Nat := 164
abbrev farm_door : Nat := 165
abbrev func_api_Service_farm_door : Nat := 166
abbrev func_P_api_Service_int_int_bool : Nat := 167
abbrev func_int_bool : Nat := 168
abbrev func_Sl_api_Backend_int_api_Backend_Sl_api_Backend : Nat := 169
abbrev P_api_Service_int_api_Errno : Nat := 170
abbrev func_int_int_P_api_Service_int_api_Errno : Nat := 171
abbrev func_Sl_api_Backend_int_int_Sl_api_Backend : Nat := 172
abbrev func_Sl_int_2 : Nat := 173
abbrev func_int_Sl_uint8 : Nat := 174
abbrev n256_uint8 : Nat := 175
abbrev func_string_func_int32_bool_Sl_string : Nat := 176
abbrev func_int32_bool : Nat := 177
abbrev func_api_Addr_Sl_uint8 : Nat := 178
abbrev uint64_bool : Nat := 179
abbrev func_Sl_uint8_int_int_uint64_bool : Nat := 180
abbrev func_string_int_Sl_string : Nat := 181
abbrev uint64_error : Nat := 182
abbrev func_string_int_int_uint64_error : Nat := 183
abbrev api_Addr_bool : Nat := 184
abbrev func_string_api_Addr_bool : Nat := 185
abbrev uint32 : Nat := 186
abbrev uint32_uint32 : Nat := 187
abbrev func_string_uint32_uint32 : Nat := 188
abbrev func_Sl_api_Backend_int_func_api_Backend_int_int_int_bool : Nat := 189
abbrev func_int_int_int : Nat := 190
abbrev func_api_Backend_int_int : Nat := 191
abbrev func_Sl_api_Backend_int : Nat := 192
abbrev func_Sl_int_iter_Seq_int_Sl_int : Nat := 193
abbrev func_Sl_int_int_int_int : Nat := 194
abbrev func_uint_int : Nat := 195
abbrev Sl_strings_span : Nat := 196
abbrev struct_start_int_end_int : Nat := 197
abbrev strings_span : Nat := 198
abbrev func_P_unicode_RangeTable_int32_bool : Nat := 199
abbrev P_unicode_RangeTable : Nat := 200
abbrev n24_uint8 : Nat := 201
abbrev func_uint64_int : Nat := 202
abbrev func_Sl_uint8_uint64 : Nat := 203
abbrev Sl_uint8_string : Nat := 204
abbrev func_Sl_uint8_uint64_int_bool_bool_Sl_uint8_string : Nat := 205
abbrev func_int64_int_string : Nat := 206
abbrev n12_uint8 : Nat := 207
abbrev func_Sl_uint8_int_int_Sl_uint8_bool : Nat := 208
abbrev int32_int : Nat := 209
abbrev func_string_int32_int : Nat := 210
abbrev func_string_string_int_int_error_error : Nat := 211
abbrev func_Sl_int_int_int : Nat := 212
abbrev slices_sortedHint : Nat := 213
abbrev int_slices_sortedHint : Nat := 214
abbrev func_Sl_int_int_int_int_slices_sortedHint : Nat := 215
abbrev func_Sl_int_int_int_bool : Nat := 216
abbrev func_int_int_bool : Nat := 217
abbrev func_Sl_int_int_int_int_int : Nat := 218
abbrev func_Sl_int_int_int_int_int_bool : Nat := 219
abbrev func_uint32_int : Nat := 220
abbrev Sl_unicode_Range16 : Nat := 221
abbrev Sl_unicode_Range32 : Nat := 222
abbrev struct_R16_Sl_unicode_Range16_R32_Sl_unicode_Range32_LatinOf : Nat := 223
abbrev unicode_RangeTable : Nat := 224
abbrev struct_Lo_uint16_Hi_uint16_Stride_uint16 : Nat := 225
abbrev unicode_Range16 : Nat := 226
abbrev func_Sl_unicode_Range16_uint16_bool : Nat := 227
abbrev struct_Lo_uint32_Hi_uint32_Stride_uint32 : Nat := 228
abbrev unicode_Range32 : Nat := 229
abbrev func_Sl_unicode_Range32_uint32_bool : Nat := 230
abbrev func_bool_int : Nat := 231
abbrev n20_uint64 : Nat := 232
abbrev n65_uint8 : Nat := 233
abbrev strconv_Error : Nat := 234
abbrev func_uint8_uint8 : Nat := 235
abbrev P_strconv_NumError : Nat := 236
abbrev func_string_string_P_strconv_NumError : Nat := 237
abbrev func_string_string_int_P_strconv_NumError : Nat := 238
abbrev int64_error : Nat := 239
abbrev func_string_int_int_int64_error : Nat := 240
abbrev func_string_string_bool : Nat := 241
abbrev func_Sl_uint8_api_Addr_bool : Nat := 242
abbrev func_string_string_int_int_Sl_uint8 : Nat := 243
abbrev func_Sl_api_Backend : Nat := 244
abbrev slices_xorshift : Nat := 245
abbrev func_int_uint : Nat := 246
abbrev func_Sl_int_int_P_int_int : Nat := 247
abbrev P_int : Nat := 248
abbrev func_Sl_int_int_int_int_P_int_int : Nat := 249
abbrev P_unicode_Range16 : Nat := 250
abbrev P_unicode_Range32 : Nat := 251
abbrev struct_lo_uint8_hi_uint8 : Nat := 252
abbrev utf8_acceptRange : Nat := 253
abbrev n16_utf8_acceptRange : Nat := 254
abbrev func_string_string : Nat := 255
abbrev struct_Func_string_Num_string_Err_error : Nat := 256
abbrev strconv_NumError : Nat := 257
abbrev func_string_error : Nat := 258
abbrev func_Sl_uint8_api_Addr : Nat := 259
abbrev func_Sl_uint8_uint64_int_Sl_uint8 : Nat := 260
abbrev P_slices_xorshift : Nat := 261
abbrev int_int : Nat := 262
abbrev func_Sl_int_int_int_P_int_int_int : Nat := 263
abbrev n32_uint8 : Nat := 264
abbrev n64_uint8 : Nat := 265
abbrev P_errors_errorString : Nat := 266
abbrev struct_s_string : Nat := 267
abbrev errors_errorString : Nat := 268
abbrev func_Sl_uint8_Sl_uint8 : Nat := 269
abbrev struct_interface_P_abi_Type_concrete_P_abi_Type_asserted_P_a : Nat := 270
abbrev runtime_TypeAssertionError : Nat := 271
abbrev n0_P_runtime_PanicNilError : Nat := 272
abbrev struct_0_P_runtime_PanicNilError : Nat := 273
abbrev runtime_PanicNilError : Nat := 274
abbrev abi_TFlag : Nat := 275
abbrev abi_Kind : Nat := 276
abbrev func_unsafe_Pointer_unsafe_Pointer_bool : Nat := 277
abbrev abi_NameOff : Nat := 278
abbrev abi_TypeOff : Nat := 279
abbrev struct_Size_uintptr_PtrBytes_uintptr_Hash_uint32_TFlag_abi_T : Nat := 280
abbrev abi_Type : Nat := 281
end Ty
namespace G
abbrev internal_bytealg_MaxLen : Nat := 0
abbrev strings_asciiSpace : Nat := 1
abbrev unicode_White_Space : Nat := 2
abbrev internal_strconv_uint64pow10 : Nat := 3
abbrev unicode_utf8_first : Nat := 4
abbrev unicode_utf8_acceptRanges : Nat := 5
abbrev strconv_ErrSyntax : Nat := 6
abbrev strconv_ErrRange : Nat := 7
abbrev math_bits_deBruijn32tab : Nat := 8
abbrev math_bits_deBruijn64tab : Nat := 9
abbrev unicode_White_Space_2 : Nat := 10
end G
def tkL : List RK := [(.tup []),
  (.one (.one .fn)),
  (.one (.one (.int .i64))),
  (.one (.one (.int .i64))),
  (.one (.one .bool)),
  (.one (.one (.int .u8))),
  (.one (.one (.int .u8))),
  (.one (.flat [(.int .i64), (.int .i64), .bool, (.int .u8)])),
  (.one (.flat [(.int .i64), (.int .i64), .bool, (.int .u8)])),
  (.one (.one .str)),
  (.one (.one .str)),
  (.one (.one .str)),
  (.one (.one (.int .u64))),
  (.one (.flat [.str, (.int .u64)])),
  (.one (.flat [.str, (.int .u64)])),
  (.one (.one .ptr)),
  (.one (.one .ptr)),
  (.one (.one .ptr)),
  (.one (.flat [.ptr])),
  (.one (.flat [.ptr])),
  (.one (.one .any)),
  (.one (.one (.int .i32))),
  (.one (.one .slice)),
  (.one (.one (.int .u64))),
  (.one (.one .agg)),
  (.one (.one .agg)),
  (.one (.one .agg)),
  (.one (.one (.int .u16))),
  (.one (.one .slice)),
  (.one (.one .agg)),
  (.one (.one .agg)),
  (.one (.one .agg)),
  (.one (.one .agg)),
  (.one (.one .slice)),
  (.one (.one .agg)),
  (.one (.one .agg)),
  (.one (.one .fn)),
  (.one (.one .fn)),
  (.tup [(.one .agg), (.one .bool)]),
  (.one (.one .fn)),
  (.one (.one .fn)),
  (.one (.one .fn)),
  (.one (.one .fn)),
  (.one (.one .fn)),
  (.one (.one .slice)),
  (.one (.one (.int .i64))),
  (.tup [(.one .slice), (.one (.int .i64)), (.one (.int .i64))]),
  (.one (.one .fn)),
  (.one (.one .fn)),
  (.tup [(.one .str), (.one (.int .i64))]),
  (.one (.one .fn)),
  (.one (.one .fn)),
  (.one (.one .fn)),
  (.one (.one .slice)),
  (.one (.one .fn)),
  (.tup [(.one .slice), (.one (.int .i64))]),
  (.one (.one .fn)),
  (.one (.one .fn)),
  (.one (.one .fn)),
  (.one (.one .fn)),
  (.one (.one .fn)),
  (.one (.one .fn)),
  (.one (.one .fn)),
  (.one (.one .fn)),
  (.one (.one .slice)),
  (.one (.one .fn)),
  (.one (.one .fn)),
  (.one (.one .fn)),
  (.one (.one .fn)),
  (.one (.one .fn)),
  (.one (.one .fn)),
  (.one (.one .fn)),
  (.tup [(.one .str), (.one .str), (.one .bool)]),
  (.one (.one .fn)),
  (.one (.one .ptr)),
  (.one (.flat [.ptr, .slice])),
  (.one (.flat [.ptr, .slice])),
  (.one (.one .any)),
  (.one (.one .any)),
  (.tup [(.one (.int .i64)), (.one .any)]),
  (.one (.one .fn)),
  (.one (.one .fn)),
  (.one (.one .fn)),
  (.one (.one .fn)),
  (.one (.one .fn)),
  (.one (.one .fn)),
  (.one (.one .fn)),
  (.one (.one .ptr)),
  (.one (.one .fn)),
  (.tup [(.one (.int .i64)), (.one (.int .i64))]),
  (.one (.one .fn)),
  (.one (.one .fn)),
  (.one (.one .fn)),
  (.one (.one .fn)),
  (.one (.one .fn)),
  (.one (.one .fn)),
  (.one (.one .fn)),
  (.one (.one .fn)),
  (.one (.one .fn)),
  (.one (.one .ptr)),
  (.one (.one .ptr)),
  (.one (.flat [.slice])),
  (.one (.flat [.slice])),
  (.tup [(.one .agg), (.one .bool)]),
  (.one (.one .fn)),
  (.one (.one .fn)),
  (.one (.one .fn)),
  (.one (.one .fn)),
  (.one (.one .fn)),
  (.one (.one .map)),
  (.one (.one .map)),
  (.one (.flat [.map, .map])),
  (.one (.flat [.map, .map])),
  (.one (.one .fn)),
  (.one (.one .fn)),
  (.one (.one .fn)),
  (.one (.one .fn)),
  (.one (.one .ptr)),
  (.one (.flat [.slice])),
  (.one (.flat [.slice])),
  (.one (.one .fn)),
  (.one (.one .fn)),
  (.one (.one .fn)),
  (.one (.one .fn)),
  (.one (.one .fn)),
  (.one (.one .ptr)),
  (.one (.flat [.slice, .bool])),
  (.one (.flat [.slice, .bool])),
  (.one (.one .fn)),
  (.one (.one .ptr)),
  (.one (.one .fn)),
  (.one (.one .fn)),
  (.one (.one .fn)),
  (.tup [(.one .agg), (.one .bool)]),
  (.one (.one .fn)),
  (.one (.one .fn)),
  (.one (.one .fn)),
  (.one (.one .fn)),
  (.one (.one .fn)),
  (.one (.one .fn)),
  (.one (.one .fn)),
  (.one (.one .fn)),
  (.one (.one .fn)),
  (.one (.one .fn)),
  (.one (.one .fn)),
  (.one (.one .fn)),
  (.one (.one .ptr)),
  (.tup [(.one .ptr), (.one .bool)]),
  (.one (.one .fn)),
  (.one (.one .fn)),
  (.one (.one .fn)),
  (.one (.one (.int .u64))),
  (.one (.one .fn)),
  (.one (.one .fn)),
  (.tup [(.one .slice), (.one .bool)]),
  (.one (.one .fn)),
  (.one (.one .fn)),
  (.one (.one .fn)),
  (.one (.one .fn)),
  (.one (.one .fn)),
  (.one (.one .fn)),
  (.one (.one .fn)),
  (.one (.one .fn)),
  (.tup [(.one (.int .i64)), (.one .bool)]),
  (.one (.one .agg)),
  (.one (.one .agg)),
  (.one (.one .fn)),
  (.one (.one .fn)),
  (.one (.one .fn)),
  (.one (.one .fn)),
  (.tup [(.one .ptr), (.one (.int .i64)), (.one (.int .i64))]),
  (.one (.one .fn)),
  (.one (.one .fn)),
  (.one (.one .fn)),
  (.one (.one .fn)),
  (.one (.one .agg)),
  (.one (.one .fn)),
  (.one (.one .fn)),
  (.one (.one .fn)),
  (.tup [(.one (.int .u64)), (.one .bool)]),
  (.one (.one .fn)),
  (.one (.one .fn)),
  (.tup [(.one (.int .u64)), (.one .any)]),
  (.one (.one .fn)),
  (.tup [(.one .agg), (.one .bool)]),
  (.one (.one .fn)),
  (.one (.one (.int .u32))),
  (.tup [(.one (.int .u32)), (.one (.int .u32))]),
  (.one (.one .fn)),
  (.one (.one .fn)),
  (.one (.one .fn)),
  (.one (.one .fn)),
  (.one (.one .fn)),
  (.one (.one .fn)),
  (.one (.one .fn)),
  (.one (.one .fn)),
  (.one (.one .slice)),
  (.one (.flat [(.int .i64), (.int .i64)])),
  (.one (.flat [(.int .i64), (.int .i64)])),
  (.one (.one .fn)),
  (.one (.one .ptr)),
  (.one (.one .agg)),
  (.one (.one .fn)),
  (.one (.one .fn)),
  (.tup [(.one .slice), (.one .str)]),
  (.one (.one .fn)),
  (.one (.one .fn)),
  (.one (.one .agg)),
  (.one (.one .fn)),
  (.tup [(.one (.int .i32)), (.one (.int .i64))]),
  (.one (.one .fn)),
  (.one (.one .fn)),
  (.one (.one .fn)),
  (.one (.one (.int .i64))),
  (.tup [(.one (.int .i64)), (.one (.int .i64))]),
  (.one (.one .fn)),
  (.one (.one .fn)),
  (.one (.one .fn)),
  (.one (.one .fn)),
  (.one (.one .fn)),
  (.one (.one .fn)),
  (.one (.one .slice)),
  (.one (.one .slice)),
  (.one (.flat [.slice, .slice, (.int .i64)])),
  (.one (.flat [.slice, .slice, (.int .i64)])),
  (.one (.flat [(.int .u16), (.int .u16), (.int .u16)])),
  (.one (.flat [(.int .u16), (.int .u16), (.int .u16)])),
  (.one (.one .fn)),
  (.one (.flat [(.int .u32), (.int .u32), (.int .u32)])),
  (.one (.flat [(.int .u32), (.int .u32), (.int .u32)])),
  (.one (.one .fn)),
  (.one (.one .fn)),
  (.one (.one .agg)),
  (.one (.one .agg)),
  (.one (.one (.int .i64))),
  (.one (.one .fn)),
  (.one (.one .ptr)),
  (.one (.one .fn)),
  (.one (.one .fn)),
  (.tup [(.one (.int .i64)), (.one .any)]),
  (.one (.one .fn)),
  (.one (.one .fn)),
  (.one (.one .fn)),
  (.one (.one .fn)),
  (.one (.one .fn)),
  (.one (.one (.int .u64))),
  (.one (.one .fn)),
  (.one (.one .fn)),
  (.one (.one .ptr)),
  (.one (.one .fn)),
  (.one (.one .ptr)),
  (.one (.one .ptr)),
  (.one (.flat [(.int .u8), (.int .u8)])),
  (.one (.flat [(.int .u8), (.int .u8)])),
  (.one (.one .agg)),
  (.one (.one .fn)),
  (.one (.one .agg)),
  (.one (.one .agg)),
  (.one (.one .fn)),
  (.one (.one .fn)),
  (.one (.one .fn)),
  (.one (.one .ptr)),
  (.tup [(.one (.int .i64)), (.one (.int .i64))]),
  (.one (.one .fn)),
  (.one (.one .agg)),
  (.one (.one .agg)),
  (.one (.one .ptr)),
  (.one (.flat [.str])),
  (.one (.flat [.str])),
  (.one (.one .fn)),
  (.one (.flat [.ptr, .ptr, .ptr, .str])),
  (.one (.flat [.ptr, .ptr, .ptr, .str])),
  (.one (.one .agg)),
  (.one (.one .agg)),
  (.one (.one .agg)),
  (.one (.one (.int .u8))),
  (.one (.one (.int .u8))),
  (.one (.one .fn)),
  (.one (.one (.int .i32))),
  (.one (.one (.int .i32))),
  (.one (.one .agg)),
  (.one (.one .agg))]
def tk : TypeId → RK := fun t => tkL.getD t (.one (.one .any))
theorem hmix : Tryz.prog.follows .mixedOrders = true := by kernel_rfl
end Go.Proofs.YtgljoledlhmhnaaGreatDoor
