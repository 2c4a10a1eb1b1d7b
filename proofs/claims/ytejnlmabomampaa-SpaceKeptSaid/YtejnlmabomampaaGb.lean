/- Printed by gen.py. -/
import Derived.Test.YtejnlmabomampaaProg
import Derived.Test.YtejnlmabomampaaGc
namespace Go.Proofs.Ytejnlmabomampaa
open Go Gx

namespace F
abbrev main_main : Nat := 0
abbrev gosem_cut : Nat := 1
abbrev gosem_cut_init : Nat := 2
abbrev law06_SpaceAll : Nat := 3
abbrev law22_ConnNexts : Nat := 4
abbrev law22_ConnLasts : Nat := 5
abbrev law22_ConnWalks : Nat := 6
abbrev law06_SpaceKept : Nat := 7
abbrev law06_SpaceLoads : Nat := 8
abbrev law06_SpacePlays : Nat := 9
abbrev space_New : Nat := 10
abbrev space_Space_Room : Nat := 11
abbrev space_Space_Alloc : Nat := 12
abbrev law06_lives : Nat := 13
abbrev conn_Next : Nat := 14
abbrev ref22_Next : Nat := 15
abbrev law22_lives : Nat := 16
abbrev conn_Lasts : Nat := 17
abbrev ref22_Lasts : Nat := 18
abbrev conn_Open : Nat := 19
abbrev conn_UDP : Nat := 20
abbrev space_Space_Free : Nat := 21
abbrev space_Space_Commit : Nat := 22
abbrev space_Space_Abort : Nat := 23
abbrev law01_Few : Nat := 24
abbrev space_Load : Nat := 25
abbrev ref06_Load : Nat := 26
abbrev law06_alike : Nat := 27
abbrev space_Space_Bytes : Nat := 28
abbrev ref06_New : Nat := 29
abbrev ref06_Space_Free : Nat := 30
abbrev ref06_Space_Commit : Nat := 31
abbrev ref06_Space_Abort : Nat := 32
abbrev ref06_Space_Alloc : Nat := 33
abbrev space_good : Nat := 34
abbrev space_size : Nat := 35
abbrev space_set_put : Nat := 36
abbrev math_bits_OnesCount8 : Nat := 37
abbrev space_Space_taken : Nat := 38
abbrev conn_none : Nat := 39
abbrev conn_segment_begins : Nat := 40
abbrev conn_segment_has : Nat := 41
abbrev conn_fin : Nat := 42
abbrev space_Space_has : Nat := 43
abbrev space_set_has : Nat := 44
abbrev space_set_take : Nat := 45
abbrev slices_Clone_space_set_byte : Nat := 46
abbrev slices_Clone_Sl_byte_byte : Nat := 47
abbrev ref06_Space_Room : Nat := 48
abbrev ref03_Ints : Nat := 49
abbrev space_Space_Used : Nat := 50
abbrev ref06_Space_Used : Nat := 51
abbrev ref06_Space_Bytes : Nat := 52
abbrev space_Space_Taken : Nat := 53
abbrev space_Space_Fresh : Nat := 54
abbrev runtime_boundsError_Error : Nat := 55
abbrev runtime_boundsError_RuntimeError : Nat := 56
abbrev runtime_errorString_Error : Nat := 57
abbrev runtime_errorString_RuntimeError : Nat := 58
abbrev runtime_plainError_Error : Nat := 59
abbrev runtime_plainError_RuntimeError : Nat := 60
abbrev runtime_errorAddressString_Error : Nat := 61
abbrev runtime_errorAddressString_RuntimeError : Nat := 62
abbrev runtime_TypeAssertionError_Error : Nat := 63
abbrev runtime_TypeAssertionError_RuntimeError : Nat := 64
abbrev runtime_PanicNilError_Error : Nat := 65
abbrev runtime_PanicNilError_RuntimeError : Nat := 66
abbrev internal_abi_Type_Align : Nat := 67
abbrev internal_runtime_maps_unhashableTypeError_Error : Nat := 68
abbrev internal_runtime_maps_unhashableTypeError_RuntimeError : Nat := 69
abbrev api_Errno_Error : Nat := 70
abbrev internal_abi_Kind_String : Nat := 71
end F
namespace Ty
abbrev t : Nat := 0
abbrev func : Nat := 1
abbrev int64 : Nat := 2
abbrev int : Nat := 3
abbrev bool : Nat := 4
abbrev uint8 : Nat := 5
abbrev abi_BoundsErrorCode : Nat := 6
abbrev struct_x_int64_y_int_signed_bool_code_abi_BoundsErrorCode : Nat := 7
abbrev runtime_boundsError : Nat := 8
abbrev string : Nat := 9
abbrev runtime_errorString : Nat := 10
abbrev runtime_plainError : Nat := 11
abbrev uintptr : Nat := 12
abbrev struct_msg_string_addr_uintptr : Nat := 13
abbrev runtime_errorAddressString : Nat := 14
abbrev P_runtime_TypeAssertionError : Nat := 15
abbrev P_runtime_PanicNilError : Nat := 16
abbrev P_abi_Type : Nat := 17
abbrev struct_typ_P_abi_Type : Nat := 18
abbrev maps_unhashableTypeError : Nat := 19
abbrev interface : Nat := 20
abbrev int32 : Nat := 21
abbrev P_space_Space : Nat := 22
abbrev api_Errno : Nat := 23
abbrev P_space_Space_api_Errno : Nat := 24
abbrev func_int_int_P_space_Space_api_Errno : Nat := 25
abbrev func_int : Nat := 26
abbrev int_api_Errno : Nat := 27
abbrev func_int_api_Errno : Nat := 28
abbrev func_bool : Nat := 29
abbrev func_uint8_uint8_bool : Nat := 30
abbrev func_int_uint8_bool_int : Nat := 31
abbrev func_int_uint8_bool_bool : Nat := 32
abbrev uint64 : Nat := 33
abbrev func_int_uint64 : Nat := 34
abbrev func_int_bool : Nat := 35
abbrev func_int_int : Nat := 36
abbrev Sl_uint8 : Nat := 37
abbrev Sl_bool : Nat := 38
abbrev func_Sl_uint8_Sl_bool_bool : Nat := 39
abbrev Sl_law06_Act : Nat := 40
abbrev n60_bool : Nat := 41
abbrev struct_Kind_int_No_int : Nat := 42
abbrev law06_Act : Nat := 43
abbrev func_int_api_Errno_2 : Nat := 44
abbrev func_Sl_law06_Act_bool : Nat := 45
abbrev func_Sl_uint8_int_Sl_uint8 : Nat := 46
abbrev func_Sl_uint8_int_P_space_Space_api_Errno : Nat := 47
abbrev P_ref06_Space : Nat := 48
abbrev func_Sl_uint8_int_P_ref06_Space : Nat := 49
abbrev func_P_space_Space_P_ref06_Space_int_bool : Nat := 50
abbrev func_Sl_uint8 : Nat := 51
abbrev func_Sl_uint8_int_bool : Nat := 52
abbrev func_int_int_P_ref06_Space : Nat := 53
abbrev func_int_int_Sl_law06_Act_bool : Nat := 54
abbrev space_set : Nat := 55
abbrev struct_n_int_now_space_set_sure_space_set : Nat := 56
abbrev space_Space : Nat := 57
abbrev func_int_2 : Nat := 58
abbrev func_uint8_int : Nat := 59
abbrev struct_flags_uint8_client_bool : Nat := 60
abbrev conn_segment : Nat := 61
abbrev func_conn_segment_int : Nat := 62
abbrev func_uint8_bool : Nat := 63
abbrev Sl_uint64 : Nat := 64
abbrev func_space_set_space_set : Nat := 65
abbrev func_Sl_uint8_Sl_uint8 : Nat := 66
abbrev uint : Nat := 67
abbrev struct_Now_Sl_bool_Sure_Sl_bool : Nat := 68
abbrev ref06_Space : Nat := 69
abbrev func_Sl_int_Sl_int_bool : Nat := 70
abbrev Sl_int : Nat := 71
abbrev func_Sl_int : Nat := 72
abbrev func_string : Nat := 73
abbrev struct_interface_P_abi_Type_concrete_P_abi_Type_asserted_P_a : Nat := 74
abbrev runtime_TypeAssertionError : Nat := 75
abbrev n0_P_runtime_PanicNilError : Nat := 76
abbrev struct_0_P_runtime_PanicNilError : Nat := 77
abbrev runtime_PanicNilError : Nat := 78
abbrev uint32 : Nat := 79
abbrev abi_TFlag : Nat := 80
abbrev abi_Kind : Nat := 81
abbrev func_unsafe_Pointer_unsafe_Pointer_bool : Nat := 82
abbrev P_uint8 : Nat := 83
abbrev abi_NameOff : Nat := 84
abbrev abi_TypeOff : Nat := 85
abbrev struct_Size_uintptr_PtrBytes_uintptr_Hash_uint32_TFlag_abi_T : Nat := 86
abbrev abi_Type : Nat := 87
abbrev unsafe_Pointer : Nat := 88
end Ty
def tkL : List RK := [(.tup []),
  (.one (.one .any)),
  (.one (.one (.int .i64))),
  (.one (.one (.int .i64))),
  (.one (.one .bool)),
  (.one (.one (.int .u8))),
  (.one (.one (.int .u8))),
  (.one (.flat [(.int .i64), (.int .i64), .bool, (.int .u8)])),
  (.one (.flat [(.int .i64), (.int .i64), .bool, (.int .u8)])),
  (.one (.one .str)),
  (.one (.one .str)),
  (.one (.one .str)),
  (.one (.one (.int .u64))),
  (.one (.flat [.str, (.int .u64)])),
  (.one (.flat [.str, (.int .u64)])),
  (.one (.one .ptr)),
  (.one (.one .ptr)),
  (.one (.one .ptr)),
  (.one (.flat [.ptr])),
  (.one (.flat [.ptr])),
  (.one (.one .any)),
  (.one (.one (.int .i32))),
  (.one (.one .ptr)),
  (.one (.one (.int .i64))),
  (.tup [(.one .ptr), (.one (.int .i64))]),
  (.one (.one .any)),
  (.one (.one .any)),
  (.tup [(.one (.int .i64)), (.one (.int .i64))]),
  (.one (.one .any)),
  (.one (.one .any)),
  (.one (.one .any)),
  (.one (.one .any)),
  (.one (.one .any)),
  (.one (.one (.int .u64))),
  (.one (.one .any)),
  (.one (.one .any)),
  (.one (.one .any)),
  (.one (.one .slice)),
  (.one (.one .slice)),
  (.one (.one .any)),
  (.one (.one .slice)),
  (.one (.one .agg)),
  (.one (.flat [(.int .i64), (.int .i64)])),
  (.one (.flat [(.int .i64), (.int .i64)])),
  (.one (.one .any)),
  (.one (.one .any)),
  (.one (.one .any)),
  (.one (.one .any)),
  (.one (.one .ptr)),
  (.one (.one .any)),
  (.one (.one .any)),
  (.one (.one .any)),
  (.one (.one .any)),
  (.one (.one .any)),
  (.one (.one .any)),
  (.one (.one .slice)),
  (.one (.flat [(.int .i64), .slice, .slice])),
  (.one (.flat [(.int .i64), .slice, .slice])),
  (.one (.one .any)),
  (.one (.one .any)),
  (.one (.flat [(.int .u8), .bool])),
  (.one (.flat [(.int .u8), .bool])),
  (.one (.one .any)),
  (.one (.one .any)),
  (.one (.one .slice)),
  (.one (.one .any)),
  (.one (.one .any)),
  (.one (.one (.int .u64))),
  (.one (.flat [.slice, .slice])),
  (.one (.flat [.slice, .slice])),
  (.one (.one .any)),
  (.one (.one .slice)),
  (.one (.one .any)),
  (.one (.one .any)),
  (.one (.flat [.ptr, .ptr, .ptr, .str])),
  (.one (.flat [.ptr, .ptr, .ptr, .str])),
  (.one (.one .agg)),
  (.one (.one .agg)),
  (.one (.one .agg)),
  (.one (.one (.int .u32))),
  (.one (.one (.int .u8))),
  (.one (.one (.int .u8))),
  (.one (.one .any)),
  (.one (.one .ptr)),
  (.one (.one (.int .i32))),
  (.one (.one (.int .i32))),
  (.one (.one .agg)),
  (.one (.one .agg)),
  (.one (.one .any))]
def tk : TypeId → RK := fun t => tkL.getD t (.one (.one .any))
theorem hmix : Try.prog.follows .mixedOrders = true := by kernel_rfl
end Go.Proofs.Ytejnlmabomampaa
