/- Printed by gen.py. -/
import Derived.Test.YtldeegpcldhjaaaProg
import Derived.Test.YtldeegpcldhjaaaGc
namespace Go.Proofs.Ytldeegpcldhjaaa
open Go Gx

namespace F
abbrev main_main : Nat := 0
abbrev gosem_cut : Nat := 1
abbrev gosem_cut_init : Nat := 2
abbrev law39_ConfThere : Nat := 3
abbrev law39_ConfNoMore : Nat := 4
abbrev law39_ConfOf : Nat := 5
abbrev law39_Few : Nat := 6
abbrev farm_New : Nat := 7
abbrev conf_Steps : Nat := 8
abbrev conf_Diff : Nat := 9
abbrev law39_lives : Nat := 10
abbrev conf_Apply : Nat := 11
abbrev conf_Of : Nat := 12
abbrev ref39_Same : Nat := 13
abbrev ref20_Farm_At : Nat := 14
abbrev ref20_Same : Nat := 15
abbrev ref20_Has : Nat := 16
abbrev law20_Do : Nat := 17
abbrev conf_Good : Nat := 18
abbrev conf_diff : Nat := 19
abbrev conf_does : Nat := 20
abbrev farm_Farm_IDs : Nat := 21
abbrev farm_Farm_Service : Nat := 22
abbrev law20_Few : Nat := 23
abbrev farm_Farm_DropService : Nat := 24
abbrev ref20_Farm_DropService : Nat := 25
abbrev farm_Farm_AddBackend : Nat := 26
abbrev ref20_Farm_AddBackend : Nat := 27
abbrev farm_Farm_DropBackend : Nat := 28
abbrev ref20_Farm_Turn : Nat := 29
abbrev farm_Farm_Drain : Nat := 30
abbrev farm_Farm_Weigh : Nat := 31
abbrev farm_Farm_AddService : Nat := 32
abbrev ref20_Farm_AddService : Nat := 33
abbrev conf_good : Nat := 34
abbrev conf_of : Nat := 35
abbrev conf_differ_put : Nat := 36
abbrev conf_differ_service : Nat := 37
abbrev slices_Sorted_int : Nat := 38
abbrev maps_Keys_map_int_P_api_Service_int_P_api_Service : Nat := 39
abbrev slices_Clone_Sl_api_Backend_api_Backend : Nat := 40
abbrev farm_of : Nat := 41
abbrev farm_at : Nat := 42
abbrev farm_id : Nat := 43
abbrev addr_Good : Nat := 44
abbrev farm_weight : Nat := 45
abbrev slices_Insert_Sl_api_Backend_api_Backend : Nat := 46
abbrev ref20_Can : Nat := 47
abbrev farm_Farm_find : Nat := 48
abbrev slices_Delete_Sl_api_Backend_api_Backend : Nat := 49
abbrev farm_may : Nat := 50
abbrev ref20_May : Nat := 51
abbrev conf_lays : Nat := 52
abbrev conf_rises : Nat := 53
abbrev slices_IndexFunc_Sl_api_Service_api_Service : Nat := 54
abbrev conf_of_1 : Nat := 55
abbrev conf_alike : Nat := 56
abbrev conf_bare : Nat := 57
abbrev conf_at : Nat := 58
abbrev conf_differ_backend : Nat := 59
abbrev slices_Collect_int : Nat := 60
abbrev slices_Sort_Sl_int_int : Nat := 61
abbrev maps_Keys_map_int_P_api_Service_int_P_api_Service_1 : Nat := 62
abbrev slices_BinarySearchFunc_Sl_api_Backend_api_Backend_int : Nat := 63
abbrev farm_at_1 : Nat := 64
abbrev cmp_Compare_int : Nat := 65
abbrev addr_good : Nat := 66
abbrev slices_overlaps_api_Backend : Nat := 67
abbrev slices_rotateRight_api_Backend : Nat := 68
abbrev ref12_Good : Nat := 69
abbrev slices_IndexFunc_Sl_api_Backend_api_Backend : Nat := 70
abbrev conf_at_1 : Nat := 71
abbrev slices_AppendSeq_Sl_int_int : Nat := 72
abbrev slices_pdqsortOrdered_int : Nat := 73
abbrev math_bits_Len : Nat := 74
abbrev cmp_isNaN_int : Nat := 75
abbrev slices_rotateLeft_api_Backend : Nat := 76
abbrev slices_insertionSortOrdered_int : Nat := 77
abbrev slices_heapSortOrdered_int : Nat := 78
abbrev slices_breakPatternsOrdered_int : Nat := 79
abbrev slices_choosePivotOrdered_int : Nat := 80
abbrev slices_reverseRangeOrdered_int : Nat := 81
abbrev slices_partialInsertionSortOrdered_int : Nat := 82
abbrev cmp_Less_int : Nat := 83
abbrev slices_partitionEqualOrdered_int : Nat := 84
abbrev slices_partitionOrdered_int : Nat := 85
abbrev math_bits_Len32 : Nat := 86
abbrev math_bits_Len64 : Nat := 87
abbrev slices_Reverse_Sl_api_Backend_api_Backend : Nat := 88
abbrev slices_siftDownOrdered_int : Nat := 89
abbrev slices_nextPowerOfTwo : Nat := 90
abbrev slices_xorshift_Next : Nat := 91
abbrev slices_medianAdjacentOrdered_int : Nat := 92
abbrev slices_medianOrdered_int : Nat := 93
abbrev slices_order2Ordered_int : Nat := 94
abbrev runtime_boundsError_Error : Nat := 95
abbrev runtime_boundsError_RuntimeError : Nat := 96
abbrev runtime_errorString_Error : Nat := 97
abbrev runtime_errorString_RuntimeError : Nat := 98
abbrev runtime_plainError_Error : Nat := 99
abbrev runtime_plainError_RuntimeError : Nat := 100
abbrev runtime_errorAddressString_Error : Nat := 101
abbrev runtime_errorAddressString_RuntimeError : Nat := 102
abbrev runtime_TypeAssertionError_Error : Nat := 103
abbrev runtime_TypeAssertionError_RuntimeError : Nat := 104
abbrev runtime_PanicNilError_Error : Nat := 105
abbrev runtime_PanicNilError_RuntimeError : Nat := 106
abbrev internal_abi_Type_Align : Nat := 107
abbrev internal_runtime_maps_unhashableTypeError_Error : Nat := 108
abbrev internal_runtime_maps_unhashableTypeError_RuntimeError : Nat := 109
abbrev api_Errno_Error : Nat := 110
abbrev internal_abi_Kind_String : Nat := 111
end F
namespace Ty
abbrev t : Nat := 0
abbrev func : Nat := 1
abbrev int64 : Nat := 2
abbrev int : Nat := 3
abbrev bool : Nat := 4
abbrev uint8 : Nat := 5
abbrev abi_BoundsErrorCode : Nat := 6
abbrev struct_x_int64_y_int_signed_bool_code_abi_BoundsErrorCode : Nat := 7
abbrev runtime_boundsError : Nat := 8
abbrev string : Nat := 9
abbrev runtime_errorString : Nat := 10
abbrev runtime_plainError : Nat := 11
abbrev uintptr : Nat := 12
abbrev struct_msg_string_addr_uintptr : Nat := 13
abbrev runtime_errorAddressString : Nat := 14
abbrev P_runtime_TypeAssertionError : Nat := 15
abbrev P_runtime_PanicNilError : Nat := 16
abbrev P_abi_Type : Nat := 17
abbrev struct_typ_P_abi_Type : Nat := 18
abbrev maps_unhashableTypeError : Nat := 19
abbrev interface : Nat := 20
abbrev int32 : Nat := 21
abbrev Sl_api_Service : Nat := 22
abbrev func_Sl_api_Service_Sl_api_Service : Nat := 23
abbrev P_farm_Farm : Nat := 24
abbrev func_P_farm_Farm : Nat := 25
abbrev Sl_api_Op : Nat := 26
abbrev api_Errno : Nat := 27
abbrev Sl_api_Op_api_Errno : Nat := 28
abbrev func_Sl_api_Service_Sl_api_Op_api_Errno : Nat := 29
abbrev func_Sl_api_Service_Sl_api_Service_Sl_api_Op_api_Errno : Nat := 30
abbrev func_bool : Nat := 31
abbrev int_api_Errno : Nat := 32
abbrev func_P_farm_Farm_Sl_api_Op_int_api_Errno : Nat := 33
abbrev func_P_farm_Farm_Sl_api_Service : Nat := 34
abbrev func_Sl_api_Service_Sl_api_Service_bool : Nat := 35
abbrev P_ref20_Farm : Nat := 36
abbrev struct_L_Sl_api_Service : Nat := 37
abbrev ref20_Farm : Nat := 38
abbrev func_int_int : Nat := 39
abbrev Sl_uint8 : Nat := 40
abbrev uint64 : Nat := 41
abbrev n16_uint8 : Nat := 42
abbrev struct_Six_bool_B_16_uint8 : Nat := 43
abbrev api_Addr : Nat := 44
abbrev uint16 : Nat := 45
abbrev Sl_api_Backend : Nat := 46
abbrev struct_ID_int_Addr_api_Addr_Port_uint16_Proto_uint8_Bits_int : Nat := 47
abbrev api_Service : Nat := 48
abbrev struct_ID_int_Addr_api_Addr_Port_uint16_Weight_int_Drained_b : Nat := 49
abbrev api_Backend : Nat := 50
abbrev Sl_int : Nat := 51
abbrev struct_Kind_int_Data_Sl_uint8_ID_int_Backend_int_N_uint64_On : Nat := 52
abbrev api_Op : Nat := 53
abbrev func_api_Service_api_Service_bool : Nat := 54
abbrev func_api_Service_int_int : Nat := 55
abbrev Sl_law20_Act : Nat := 56
abbrev func_P_farm_Farm_P_ref20_Farm_law20_Act_bool : Nat := 57
abbrev struct_Kind_int_ID_int_Backend_int_Weight_int_S_api_Service_ : Nat := 58
abbrev law20_Act : Nat := 59
abbrev func_Sl_api_Service_bool : Nat := 60
abbrev func_Sl_law20_Act_bool : Nat := 61
abbrev map_int_P_api_Service : Nat := 62
abbrev map_farm_door_int : Nat := 63
abbrev struct_l_map_int_P_api_Service_doors_map_farm_door_int : Nat := 64
abbrev farm_Farm : Nat := 65
abbrev func_P_farm_Farm_api_Op_api_Errno : Nat := 66
abbrev func_Sl_int : Nat := 67
abbrev api_Service_bool : Nat := 68
abbrev func_int_api_Service_bool : Nat := 69
abbrev func_law20_Act_law20_Act : Nat := 70
abbrev func_int_api_Errno : Nat := 71
abbrev func_int_api_Backend_api_Errno : Nat := 72
abbrev func_int_int_api_Errno : Nat := 73
abbrev func_int_int_int_int_api_Errno : Nat := 74
abbrev func_int_int_bool_api_Errno : Nat := 75
abbrev func_int_int_int_api_Errno : Nat := 76
abbrev func_api_Service_api_Errno : Nat := 77
abbrev P_conf_differ : Nat := 78
abbrev struct_ops_Sl_api_Op : Nat := 79
abbrev conf_differ : Nat := 80
abbrev func_Sl_api_Service_api_Service_api_Service_bool : Nat := 81
abbrev func_api_Op : Nat := 82
abbrev func_api_Service_bool_api_Service : Nat := 83
abbrev func_iter_Seq_int_Sl_int : Nat := 84
abbrev func_func_int_bool : Nat := 85
abbrev iter_Seq_int : Nat := 86
abbrev func_map_int_P_api_Service_iter_Seq_int : Nat := 87
abbrev P_api_Service : Nat := 88
abbrev P_api_Service_bool : Nat := 89
abbrev func_Sl_api_Backend_Sl_api_Backend : Nat := 90
abbrev struct_addr_api_Addr_port_uint16_proto_uint8 : Nat := 91
abbrev farm_door : Nat := 92
abbrev func_api_Service_farm_door : Nat := 93
abbrev int_bool : Nat := 94
abbrev func_P_api_Service_int_int_bool : Nat := 95
abbrev func_int_bool : Nat := 96
abbrev func_api_Addr_bool : Nat := 97
abbrev func_Sl_api_Backend_int_api_Backend_Sl_api_Backend : Nat := 98
abbrev func_api_Service_api_Backend_bool : Nat := 99
abbrev P_api_Service_int_api_Errno : Nat := 100
abbrev func_int_int_P_api_Service_int_api_Errno : Nat := 101
abbrev func_Sl_api_Backend_int_int_Sl_api_Backend : Nat := 102
abbrev func_api_Service_bool : Nat := 103
abbrev func_P_farm_Farm_api_Service_bool : Nat := 104
abbrev func_Sl_int_bool : Nat := 105
abbrev func_Sl_api_Service_func_api_Service_bool_int : Nat := 106
abbrev func_api_Service_api_Service : Nat := 107
abbrev api_Backend_bool : Nat := 108
abbrev func_Sl_api_Backend_api_Backend_api_Backend_bool : Nat := 109
abbrev func_api_Service_int_api_Backend : Nat := 110
abbrev func_Sl_int_2 : Nat := 111
abbrev func_Sl_api_Backend_int_func_api_Backend_int_int_int_bool : Nat := 112
abbrev func_int_int_int : Nat := 113
abbrev func_api_Backend_int_int : Nat := 114
abbrev func_Sl_api_Backend_Sl_api_Backend_bool : Nat := 115
abbrev func_Sl_api_Backend_int : Nat := 116
abbrev func_Sl_api_Backend_func_api_Backend_bool_int : Nat := 117
abbrev func_api_Backend_bool : Nat := 118
abbrev func_Sl_int_iter_Seq_int_Sl_int : Nat := 119
abbrev func_Sl_int_int_int_int : Nat := 120
abbrev func_uint_int : Nat := 121
abbrev uint : Nat := 122
abbrev n12_uint8 : Nat := 123
abbrev func_Sl_int_int_int : Nat := 124
abbrev slices_sortedHint : Nat := 125
abbrev int_slices_sortedHint : Nat := 126
abbrev func_Sl_int_int_int_int_slices_sortedHint : Nat := 127
abbrev func_Sl_int_int_int_bool : Nat := 128
abbrev func_int_int_bool : Nat := 129
abbrev func_Sl_int_int_int_int_int : Nat := 130
abbrev func_Sl_int_int_int_int_int_bool : Nat := 131
abbrev func_uint32_int : Nat := 132
abbrev uint32 : Nat := 133
abbrev func_uint64_int : Nat := 134
abbrev func_Sl_api_Backend : Nat := 135
abbrev slices_xorshift : Nat := 136
abbrev func_int_uint : Nat := 137
abbrev func_uint64 : Nat := 138
abbrev func_Sl_int_int_P_int_int : Nat := 139
abbrev P_int : Nat := 140
abbrev func_Sl_int_int_int_int_P_int_int : Nat := 141
abbrev P_slices_xorshift : Nat := 142
abbrev int_int : Nat := 143
abbrev func_Sl_int_int_int_P_int_int_int : Nat := 144
abbrev func_string : Nat := 145
abbrev struct_interface_P_abi_Type_concrete_P_abi_Type_asserted_P_a : Nat := 146
abbrev runtime_TypeAssertionError : Nat := 147
abbrev n0_P_runtime_PanicNilError : Nat := 148
abbrev struct_0_P_runtime_PanicNilError : Nat := 149
abbrev runtime_PanicNilError : Nat := 150
abbrev func_int : Nat := 151
abbrev abi_TFlag : Nat := 152
abbrev abi_Kind : Nat := 153
abbrev func_unsafe_Pointer_unsafe_Pointer_bool : Nat := 154
abbrev P_uint8 : Nat := 155
abbrev abi_NameOff : Nat := 156
abbrev abi_TypeOff : Nat := 157
abbrev struct_Size_uintptr_PtrBytes_uintptr_Hash_uint32_TFlag_abi_T : Nat := 158
abbrev abi_Type : Nat := 159
abbrev unsafe_Pointer : Nat := 160
end Ty
namespace G
end G
def tkL : List RK := [(.tup []),
  (.one (.one .fn)),
  (.one (.one (.int .i64))),
  (.one (.one (.int .i64))),
  (.one (.one .bool)),
  (.one (.one (.int .u8))),
  (.one (.one (.int .u8))),
  (.one (.flat [(.int .i64), (.int .i64), .bool, (.int .u8)])),
  (.one (.flat [(.int .i64), (.int .i64), .bool, (.int .u8)])),
  (.one (.one .str)),
  (.one (.one .str)),
  (.one (.one .str)),
  (.one (.one (.int .u64))),
  (.one (.flat [.str, (.int .u64)])),
  (.one (.flat [.str, (.int .u64)])),
  (.one (.one .ptr)),
  (.one (.one .ptr)),
  (.one (.one .ptr)),
  (.one (.flat [.ptr])),
  (.one (.flat [.ptr])),
  (.one (.one .any)),
  (.one (.one (.int .i32))),
  (.one (.one .slice)),
  (.one (.one .fn)),
  (.one (.one .ptr)),
  (.one (.one .fn)),
  (.one (.one .slice)),
  (.one (.one (.int .i64))),
  (.tup [(.one .slice), (.one (.int .i64))]),
  (.one (.one .fn)),
  (.one (.one .fn)),
  (.one (.one .fn)),
  (.tup [(.one (.int .i64)), (.one (.int .i64))]),
  (.one (.one .fn)),
  (.one (.one .fn)),
  (.one (.one .fn)),
  (.one (.one .ptr)),
  (.one (.flat [.slice])),
  (.one (.flat [.slice])),
  (.one (.one .fn)),
  (.one (.one .slice)),
  (.one (.one (.int .u64))),
  (.one (.one .agg)),
  (.one (.one .agg)),
  (.one (.one .agg)),
  (.one (.one (.int .u16))),
  (.one (.one .slice)),
  (.one (.one .agg)),
  (.one (.one .agg)),
  (.one (.one .agg)),
  (.one (.one .agg)),
  (.one (.one .slice)),
  (.one (.one .agg)),
  (.one (.one .agg)),
  (.one (.one .fn)),
  (.one (.one .fn)),
  (.one (.one .slice)),
  (.one (.one .fn)),
  (.one (.one .agg)),
  (.one (.one .agg)),
  (.one (.one .fn)),
  (.one (.one .fn)),
  (.one (.one .map)),
  (.one (.one .map)),
  (.one (.flat [.map, .map])),
  (.one (.flat [.map, .map])),
  (.one (.one .fn)),
  (.one (.one .fn)),
  (.tup [(.one .agg), (.one .bool)]),
  (.one (.one .fn)),
  (.one (.one .fn)),
  (.one (.one .fn)),
  (.one (.one .fn)),
  (.one (.one .fn)),
  (.one (.one .fn)),
  (.one (.one .fn)),
  (.one (.one .fn)),
  (.one (.one .fn)),
  (.one (.one .ptr)),
  (.one (.flat [.slice])),
  (.one (.flat [.slice])),
  (.one (.one .fn)),
  (.one (.one .fn)),
  (.one (.one .fn)),
  (.one (.one .fn)),
  (.one (.one .fn)),
  (.one (.one .fn)),
  (.one (.one .fn)),
  (.one (.one .ptr)),
  (.tup [(.one .ptr), (.one .bool)]),
  (.one (.one .fn)),
  (.one (.one .agg)),
  (.one (.one .agg)),
  (.one (.one .fn)),
  (.tup [(.one (.int .i64)), (.one .bool)]),
  (.one (.one .fn)),
  (.one (.one .fn)),
  (.one (.one .fn)),
  (.one (.one .fn)),
  (.one (.one .fn)),
  (.tup [(.one .ptr), (.one (.int .i64)), (.one (.int .i64))]),
  (.one (.one .fn)),
  (.one (.one .fn)),
  (.one (.one .fn)),
  (.one (.one .fn)),
  (.one (.one .fn)),
  (.one (.one .fn)),
  (.one (.one .fn)),
  (.tup [(.one .agg), (.one .bool)]),
  (.one (.one .fn)),
  (.one (.one .fn)),
  (.one (.one .fn)),
  (.one (.one .fn)),
  (.one (.one .fn)),
  (.one (.one .fn)),
  (.one (.one .fn)),
  (.one (.one .fn)),
  (.one (.one .fn)),
  (.one (.one .fn)),
  (.one (.one .fn)),
  (.one (.one .fn)),
  (.one (.one .fn)),
  (.one (.one (.int .u64))),
  (.one (.one .agg)),
  (.one (.one .fn)),
  (.one (.one (.int .i64))),
  (.tup [(.one (.int .i64)), (.one (.int .i64))]),
  (.one (.one .fn)),
  (.one (.one .fn)),
  (.one (.one .fn)),
  (.one (.one .fn)),
  (.one (.one .fn)),
  (.one (.one .fn)),
  (.one (.one (.int .u32))),
  (.one (.one .fn)),
  (.one (.one .fn)),
  (.one (.one (.int .u64))),
  (.one (.one .fn)),
  (.one (.one .fn)),
  (.one (.one .fn)),
  (.one (.one .ptr)),
  (.one (.one .fn)),
  (.one (.one .ptr)),
  (.tup [(.one (.int .i64)), (.one (.int .i64))]),
  (.one (.one .fn)),
  (.one (.one .fn)),
  (.one (.flat [.ptr, .ptr, .ptr, .str])),
  (.one (.flat [.ptr, .ptr, .ptr, .str])),
  (.one (.one .agg)),
  (.one (.one .agg)),
  (.one (.one .agg)),
  (.one (.one .fn)),
  (.one (.one (.int .u8))),
  (.one (.one (.int .u8))),
  (.one (.one .fn)),
  (.one (.one .ptr)),
  (.one (.one (.int .i32))),
  (.one (.one (.int .i32))),
  (.one (.one .agg)),
  (.one (.one .agg)),
  (.one (.one .ptr))]
def tk : TypeId → RK := fun t => tkL.getD t (.one (.one .any))
theorem hmix : Try.prog.follows .mixedOrders = true := by kernel_rfl
end Go.Proofs.Ytldeegpcldhjaaa
