/- Printed by gen.py: functions of the program, each as what must be shown of it. -/
import Derived.Test.YtgljoledlhmhnaaGreatDoorProg
import Derived.Test.YtgljoledlhmhnaaGreatDoorKDiffs2
namespace Gx
abbrev AT.s := AT.seq
abbrev AT.l := AT.leaf
abbrev AT.c := AT.cond
abbrev AT.r := AT.reg []
end Gx
namespace Go.Proofs.YtgljoledlhmhnaaGreatDoor
open Go Gx
namespace F
abbrev law39_ConfDiffs : Nat := 8
abbrev ref29_Show : Nat := 11
abbrev ref29_Same : Nat := 13
abbrev script_Print : Nat := 16
abbrev law39_Few : Nat := 17
abbrev conf_Diff : Nat := 18
abbrev conf_Steps : Nat := 19
abbrev conf_Text : Nat := 20
abbrev conf_Good : Nat := 21
abbrev ref39_Good : Nat := 22
abbrev conf_Same : Nat := 23
abbrev ref39_Same : Nat := 24
abbrev law39_lives : Nat := 25
abbrev ref39_Diff : Nat := 26
abbrev law39_ops : Nat := 27
abbrev script_show : Nat := 29
abbrev ref29_Bare : Nat := 30
abbrev ref12_Good : Nat := 31
abbrev ref29_int0 : Nat := 32
abbrev ref29_hex : Nat := 33
abbrev ref29_num : Nat := 34
abbrev ref12_Show : Nat := 35
abbrev ref29_on : Nat := 36
abbrev strings_Count : Nat := 38
abbrev strings_Builder_WriteString : Nat := 40
abbrev strings_Builder_String : Nat := 41
abbrev conf_diff : Nat := 42
abbrev conf_good : Nat := 43
abbrev ref20_May : Nat := 44
abbrev ref20_Can : Nat := 45
abbrev slices_EqualFunc_Sl_api_Service_Sl_api_Service_api_Service_a : Nat := 46
abbrev conf_Same_1 : Nat := 47
abbrev conf_alike : Nat := 48
abbrev slices_Equal_Sl_api_Backend_api_Backend : Nat := 49
abbrev ref20_Same : Nat := 50
abbrev farm_New : Nat := 51
abbrev conf_Apply : Nat := 52
abbrev conf_Of : Nat := 53
abbrev ref39_find : Nat := 54
abbrev ref39_at : Nat := 55
abbrev strings_Join : Nat := 56
abbrev script_written : Nat := 57
abbrev script_parsed : Nat := 58
abbrev script_same : Nat := 59
abbrev ref12_Num : Nat := 60
abbrev unicode_utf8_RuneCountInString : Nat := 61
abbrev internal_bytealg_CountString : Nat := 62
abbrev strings_Index : Nat := 63
abbrev strings_Builder_copyCheck : Nat := 65
abbrev conf_of : Nat := 66
abbrev conf_differ_put : Nat := 67
abbrev conf_differ_service : Nat := 68
abbrev conf_lays : Nat := 69
abbrev conf_rises : Nat := 70
abbrev conf_does : Nat := 71
abbrev farm_Farm_IDs : Nat := 72
abbrev farm_Farm_Service : Nat := 73
abbrev ref39_alike : Nat := 74
abbrev strings_Builder_Grow : Nat := 75
abbrev script_line_text : Nat := 76
abbrev script_names : Nat := 77
abbrev script_hex : Nat := 78
abbrev script_line_long : Nat := 79
abbrev script_line_ints : Nat := 80
abbrev addr_Show : Nat := 81
abbrev script_on : Nat := 82
abbrev strings_Split : Nat := 83
abbrev script_reader_step : Nat := 84
abbrev internal_stringslite_Index : Nat := 85
abbrev internal_abi_NoEscape : Nat := 86
abbrev slices_IndexFunc_Sl_api_Service_api_Service : Nat := 87
abbrev conf_of_1 : Nat := 88
abbrev conf_bare : Nat := 89
abbrev conf_at : Nat := 90
abbrev conf_differ_backend : Nat := 91
abbrev farm_Farm_AddService : Nat := 92
abbrev farm_Farm_AddBackend : Nat := 93
abbrev farm_Farm_DropService : Nat := 94
abbrev farm_Farm_DropBackend : Nat := 95
abbrev farm_Farm_Drain : Nat := 96
abbrev farm_Farm_Weigh : Nat := 97
abbrev slices_Sorted_int : Nat := 98
abbrev maps_Keys_map_int_P_api_Service_int_P_api_Service : Nat := 99
abbrev slices_Clone_Sl_api_Backend_api_Backend : Nat := 100
abbrev strings_Builder_grow : Nat := 101
abbrev strings_Fields : Nat := 102
abbrev strings_Builder_WriteByte : Nat := 103
abbrev strconv_FormatUint : Nat := 104
abbrev strconv_Itoa : Nat := 105
abbrev addr_show : Nat := 106
abbrev strings_genSplit : Nat := 107
abbrev script_unhex : Nat := 108
abbrev script_reader_word : Nat := 109
abbrev script_reader_long : Nat := 110
abbrev script_reader_int : Nat := 111
abbrev script_reader_addr : Nat := 112
abbrev script_reader_small : Nat := 113
abbrev script_reader_on : Nat := 114
abbrev internal_stringslite_IndexByte : Nat := 115
abbrev internal_bytealg_IndexString : Nat := 116
abbrev internal_bytealg_Cutover : Nat := 117
abbrev internal_bytealg_IndexRabinKarp_string : Nat := 118
abbrev slices_IndexFunc_Sl_api_Backend_api_Backend : Nat := 119
abbrev conf_at_1 : Nat := 120
abbrev farm_may : Nat := 121
abbrev farm_of : Nat := 122
abbrev farm_at : Nat := 123
abbrev farm_id : Nat := 124
abbrev addr_Good : Nat := 125
abbrev farm_weight : Nat := 126
abbrev slices_Insert_Sl_api_Backend_api_Backend : Nat := 127
abbrev farm_Farm_find : Nat := 128
abbrev slices_Delete_Sl_api_Backend_api_Backend : Nat := 129
abbrev maps_Keys_map_int_P_api_Service_int_P_api_Service_1 : Nat := 132
abbrev internal_bytealg_MakeNoZero : Nat := 133
abbrev strings_FieldsFunc : Nat := 134
abbrev unicode_IsSpace : Nat := 135
abbrev internal_strconv_FormatUint : Nat := 136
abbrev internal_strconv_Itoa : Nat := 137
abbrev addr_good : Nat := 138
abbrev addr_raw : Nat := 139
abbrev num_Get : Nat := 140
abbrev strings_explode : Nat := 141
abbrev strconv_ParseUint : Nat := 142
abbrev strconv_Atoi : Nat := 143
abbrev addr_Parse : Nat := 144
abbrev internal_bytealg_IndexByteString : Nat := 145
abbrev slices_BinarySearchFunc_Sl_api_Backend_api_Backend_int : Nat := 147
abbrev farm_at_1 : Nat := 148
abbrev cmp_Compare_int : Nat := 149
abbrev slices_overlaps_api_Backend : Nat := 150
abbrev slices_rotateRight_api_Backend : Nat := 151
abbrev internal_strconv_small : Nat := 156
abbrev internal_strconv_numDigits : Nat := 157
abbrev internal_strconv_formatBase10 : Nat := 158
abbrev internal_strconv_formatBits : Nat := 159
abbrev internal_strconv_FormatInt : Nat := 160
abbrev num_cut : Nat := 161
abbrev num_good : Nat := 162
abbrev internal_strconv_ParseUint : Nat := 164
abbrev strconv_toError : Nat := 165
abbrev internal_strconv_Atoi : Nat := 166
abbrev addr_parse : Nat := 167
abbrev cmp_isNaN_int : Nat := 168
abbrev math_bits_Len64 : Nat := 180
abbrev internal_strconv_log10Pow2 : Nat := 183
abbrev internal_strconv_bool2_int : Nat := 184
abbrev internal_strconv_isPowerOfTwo : Nat := 185
abbrev math_bits_TrailingZeros : Nat := 186
abbrev internal_strconv_lower : Nat := 188
abbrev internal_strconv_underscoreOK : Nat := 189
abbrev strconv_syntaxError : Nat := 190
abbrev strconv_rangeError : Nat := 191
abbrev strconv_baseError : Nat := 192
abbrev strconv_bitSizeError : Nat := 193
abbrev internal_strconv_ParseInt : Nat := 194
abbrev strings_Contains : Nat := 195
abbrev addr_of : Nat := 196
abbrev addr_numbers : Nat := 197
abbrev math_bits_TrailingZeros32 : Nat := 204
abbrev math_bits_TrailingZeros64 : Nat := 205
abbrev internal_stringslite_Clone : Nat := 206
abbrev addr_last : Nat := 208
abbrev num_Put : Nat := 209
abbrev slices_Clone_Sl_byte_byte : Nat := 211
end F
namespace Ty
abbrev t : Nat := 0
abbrev int : Nat := 3
abbrev bool : Nat := 4
abbrev uint8 : Nat := 5
abbrev string : Nat := 9
abbrev int32 : Nat := 21
abbrev Sl_uint8 : Nat := 22
abbrev uint64 : Nat := 23
abbrev api_Addr : Nat := 26
abbrev uint16 : Nat := 27
abbrev Sl_api_Backend : Nat := 28
abbrev api_Service : Nat := 30
abbrev api_Backend : Nat := 32
abbrev Sl_int : Nat := 33
abbrev api_Op : Nat := 35
abbrev Sl_api_Op : Nat := 44
abbrev Sl_api_Service : Nat := 53
abbrev Sl_string : Nat := 64
abbrev P_strings_Builder : Nat := 74
abbrev strings_Builder : Nat := 76
abbrev error : Nat := 78
abbrev P_uint8 : Nat := 99
abbrev conf_differ : Nat := 102
abbrev map_int_P_api_Service : Nat := 109
abbrev map_farm_door_int : Nat := 110
abbrev farm_Farm : Nat := 112
abbrev script_line : Nat := 119
abbrev script_reader : Nat := 127
abbrev unsafe_Pointer : Nat := 129
abbrev P_api_Service : Nat := 146
abbrev farm_door : Nat := 165
abbrev n24_uint8 : Nat := 201
abbrev n12_uint8 : Nat := 207
abbrev n65_uint8 : Nat := 233
abbrev strconv_Error : Nat := 234
abbrev P_strconv_NumError : Nat := 236
abbrev strconv_NumError : Nat := 257
end Ty
namespace G
abbrev internal_bytealg_MaxLen : Nat := 0
abbrev strings_asciiSpace : Nat := 1
abbrev internal_strconv_uint64pow10 : Nat := 3
abbrev strconv_ErrSyntax : Nat := 6
abbrev strconv_ErrRange : Nat := 7
abbrev math_bits_deBruijn64tab : Nat := 9
end G
def tkL : List RK := [(.tup []),
  (.one (.one .fn)),
  (.one (.one (.int .i64))),
  (.one (.one (.int .i64))),
  (.one (.one .bool)),
  (.one (.one (.int .u8))),
  (.one (.one (.int .u8))),
  (.one (.flat [(.int .i64), (.int .i64), .bool, (.int .u8)])),
  (.one (.flat [(.int .i64), (.int .i64), .bool, (.int .u8)])),
  (.one (.one .str)),
  (.one (.one .str)),
  (.one (.one .str)),
  (.one (.one (.int .u64))),
  (.one (.flat [.str, (.int .u64)])),
  (.one (.flat [.str, (.int .u64)])),
  (.one (.one .ptr)),
  (.one (.one .ptr)),
  (.one (.one .ptr)),
  (.one (.flat [.ptr])),
  (.one (.flat [.ptr])),
  (.one (.one .any)),
  (.one (.one (.int .i32))),
  (.one (.one .slice)),
  (.one (.one (.int .u64))),
  (.one (.one .agg)),
  (.one (.one .agg)),
  (.one (.one .agg)),
  (.one (.one (.int .u16))),
  (.one (.one .slice)),
  (.one (.one .agg)),
  (.one (.one .agg)),
  (.one (.one .agg)),
  (.one (.one .agg)),
  (.one (.one .slice)),
  (.one (.one .agg)),
  (.one (.one .agg)),
  (.one (.one .fn)),
  (.one (.one .fn)),
  (.tup [(.one .agg), (.one .bool)]),
  (.one (.one .fn)),
  (.one (.one .fn)),
  (.one (.one .fn)),
  (.one (.one .fn)),
  (.one (.one .fn)),
  (.one (.one .slice)),
  (.one (.one (.int .i64))),
  (.tup [(.one .slice), (.one (.int .i64)), (.one (.int .i64))]),
  (.one (.one .fn)),
  (.one (.one .fn)),
  (.tup [(.one .str), (.one (.int .i64))]),
  (.one (.one .fn)),
  (.one (.one .fn)),
  (.one (.one .fn)),
  (.one (.one .slice)),
  (.one (.one .fn)),
  (.tup [(.one .slice), (.one (.int .i64))]),
  (.one (.one .fn)),
  (.one (.one .fn)),
  (.one (.one .fn)),
  (.one (.one .fn)),
  (.one (.one .fn)),
  (.one (.one .fn)),
  (.one (.one .fn)),
  (.one (.one .fn)),
  (.one (.one .slice)),
  (.one (.one .fn)),
  (.one (.one .fn)),
  (.one (.one .fn)),
  (.one (.one .fn)),
  (.one (.one .fn)),
  (.one (.one .fn)),
  (.one (.one .fn)),
  (.tup [(.one .str), (.one .str), (.one .bool)]),
  (.one (.one .fn)),
  (.one (.one .ptr)),
  (.one (.flat [.ptr, .slice])),
  (.one (.flat [.ptr, .slice])),
  (.one (.one .any)),
  (.one (.one .any)),
  (.tup [(.one (.int .i64)), (.one .any)]),
  (.one (.one .fn)),
  (.one (.one .fn)),
  (.one (.one .fn)),
  (.one (.one .fn)),
  (.one (.one .fn)),
  (.one (.one .fn)),
  (.one (.one .fn)),
  (.one (.one .ptr)),
  (.one (.one .fn)),
  (.tup [(.one (.int .i64)), (.one (.int .i64))]),
  (.one (.one .fn)),
  (.one (.one .fn)),
  (.one (.one .fn)),
  (.one (.one .fn)),
  (.one (.one .fn)),
  (.one (.one .fn)),
  (.one (.one .fn)),
  (.one (.one .fn)),
  (.one (.one .fn)),
  (.one (.one .ptr)),
  (.one (.one .ptr)),
  (.one (.flat [.slice])),
  (.one (.flat [.slice])),
  (.tup [(.one .agg), (.one .bool)]),
  (.one (.one .fn)),
  (.one (.one .fn)),
  (.one (.one .fn)),
  (.one (.one .fn)),
  (.one (.one .fn)),
  (.one (.one .map)),
  (.one (.one .map)),
  (.one (.flat [.map, .map])),
  (.one (.flat [.map, .map])),
  (.one (.one .fn)),
  (.one (.one .fn)),
  (.one (.one .fn)),
  (.one (.one .fn)),
  (.one (.one .ptr)),
  (.one (.flat [.slice])),
  (.one (.flat [.slice])),
  (.one (.one .fn)),
  (.one (.one .fn)),
  (.one (.one .fn)),
  (.one (.one .fn)),
  (.one (.one .fn)),
  (.one (.one .ptr)),
  (.one (.flat [.slice, .bool])),
  (.one (.flat [.slice, .bool])),
  (.one (.one .fn)),
  (.one (.one .ptr)),
  (.one (.one .fn)),
  (.one (.one .fn)),
  (.one (.one .fn)),
  (.tup [(.one .agg), (.one .bool)]),
  (.one (.one .fn)),
  (.one (.one .fn)),
  (.one (.one .fn)),
  (.one (.one .fn)),
  (.one (.one .fn)),
  (.one (.one .fn)),
  (.one (.one .fn)),
  (.one (.one .fn)),
  (.one (.one .fn)),
  (.one (.one .fn)),
  (.one (.one .fn)),
  (.one (.one .fn)),
  (.one (.one .ptr)),
  (.tup [(.one .ptr), (.one .bool)]),
  (.one (.one .fn)),
  (.one (.one .fn)),
  (.one (.one .fn)),
  (.one (.one (.int .u64))),
  (.one (.one .fn)),
  (.one (.one .fn)),
  (.tup [(.one .slice), (.one .bool)]),
  (.one (.one .fn)),
  (.one (.one .fn)),
  (.one (.one .fn)),
  (.one (.one .fn)),
  (.one (.one .fn)),
  (.one (.one .fn)),
  (.one (.one .fn)),
  (.one (.one .fn)),
  (.tup [(.one (.int .i64)), (.one .bool)]),
  (.one (.one .agg)),
  (.one (.one .agg)),
  (.one (.one .fn)),
  (.one (.one .fn)),
  (.one (.one .fn)),
  (.one (.one .fn)),
  (.tup [(.one .ptr), (.one (.int .i64)), (.one (.int .i64))]),
  (.one (.one .fn)),
  (.one (.one .fn)),
  (.one (.one .fn)),
  (.one (.one .fn)),
  (.one (.one .agg)),
  (.one (.one .fn)),
  (.one (.one .fn)),
  (.one (.one .fn)),
  (.tup [(.one (.int .u64)), (.one .bool)]),
  (.one (.one .fn)),
  (.one (.one .fn)),
  (.tup [(.one (.int .u64)), (.one .any)]),
  (.one (.one .fn)),
  (.tup [(.one .agg), (.one .bool)]),
  (.one (.one .fn)),
  (.one (.one (.int .u32))),
  (.tup [(.one (.int .u32)), (.one (.int .u32))]),
  (.one (.one .fn)),
  (.one (.one .fn)),
  (.one (.one .fn)),
  (.one (.one .fn)),
  (.one (.one .fn)),
  (.one (.one .fn)),
  (.one (.one .fn)),
  (.one (.one .fn)),
  (.one (.one .slice)),
  (.one (.flat [(.int .i64), (.int .i64)])),
  (.one (.flat [(.int .i64), (.int .i64)])),
  (.one (.one .fn)),
  (.one (.one .ptr)),
  (.one (.one .agg)),
  (.one (.one .fn)),
  (.one (.one .fn)),
  (.tup [(.one .slice), (.one .str)]),
  (.one (.one .fn)),
  (.one (.one .fn)),
  (.one (.one .agg)),
  (.one (.one .fn)),
  (.tup [(.one (.int .i32)), (.one (.int .i64))]),
  (.one (.one .fn)),
  (.one (.one .fn)),
  (.one (.one .fn)),
  (.one (.one (.int .i64))),
  (.tup [(.one (.int .i64)), (.one (.int .i64))]),
  (.one (.one .fn)),
  (.one (.one .fn)),
  (.one (.one .fn)),
  (.one (.one .fn)),
  (.one (.one .fn)),
  (.one (.one .fn)),
  (.one (.one .slice)),
  (.one (.one .slice)),
  (.one (.flat [.slice, .slice, (.int .i64)])),
  (.one (.flat [.slice, .slice, (.int .i64)])),
  (.one (.flat [(.int .u16), (.int .u16), (.int .u16)])),
  (.one (.flat [(.int .u16), (.int .u16), (.int .u16)])),
  (.one (.one .fn)),
  (.one (.flat [(.int .u32), (.int .u32), (.int .u32)])),
  (.one (.flat [(.int .u32), (.int .u32), (.int .u32)])),
  (.one (.one .fn)),
  (.one (.one .fn)),
  (.one (.one .agg)),
  (.one (.one .agg)),
  (.one (.one (.int .i64))),
  (.one (.one .fn)),
  (.one (.one .ptr)),
  (.one (.one .fn)),
  (.one (.one .fn)),
  (.tup [(.one (.int .i64)), (.one .any)]),
  (.one (.one .fn)),
  (.one (.one .fn)),
  (.one (.one .fn)),
  (.one (.one .fn)),
  (.one (.one .fn)),
  (.one (.one (.int .u64))),
  (.one (.one .fn)),
  (.one (.one .fn)),
  (.one (.one .ptr)),
  (.one (.one .fn)),
  (.one (.one .ptr)),
  (.one (.one .ptr)),
  (.one (.flat [(.int .u8), (.int .u8)])),
  (.one (.flat [(.int .u8), (.int .u8)])),
  (.one (.one .agg)),
  (.one (.one .fn)),
  (.one (.one .agg)),
  (.one (.one .agg)),
  (.one (.one .fn)),
  (.one (.one .fn)),
  (.one (.one .fn)),
  (.one (.one .ptr)),
  (.tup [(.one (.int .i64)), (.one (.int .i64))]),
  (.one (.one .fn)),
  (.one (.one .agg)),
  (.one (.one .agg)),
  (.one (.one .ptr)),
  (.one (.flat [.str])),
  (.one (.flat [.str])),
  (.one (.one .fn)),
  (.one (.flat [.ptr, .ptr, .ptr, .str])),
  (.one (.flat [.ptr, .ptr, .ptr, .str])),
  (.one (.one .agg)),
  (.one (.one .agg)),
  (.one (.one .agg)),
  (.one (.one (.int .u8))),
  (.one (.one (.int .u8))),
  (.one (.one .fn)),
  (.one (.one (.int .i32))),
  (.one (.one (.int .i32))),
  (.one (.one .agg)),
  (.one (.one .agg))]
def tk : TypeId → RK := fun t => tkL.getD t (.one (.one .any))
theorem hmix : Tryz.prog.follows .mixedOrders = true := by kernel_rfl
def nA (w : World) : Addr := ⟨w.heap.size, 0, none⟩
def wI (n : Int) : Int := IntKind.wrap .i64 n
def bd (n : Int) (k : Nat) : Prop := (0 : Int) ≤ n ∧ n < ((k : Nat) : Int)
def Br (c : Bool) (A B : Prop) : Prop := (c = true → A) ∧ (c = false → B)
def mI : Int := 9223372036854775807
def st (w : World) (A : Addr) (v : Value) (K : World → Prop) : Prop := (∃ u : Value, w.cell? A = some u) ∧ w.frozen? A = false ∧ Nx (w.setCell A v) fun w1 => K w1
def al (w : World) (z : Obj) (l : List Value) (k : Nat) (K : World → Prop) : Prop := Nx (w.alloc z) fun w1 => StoreOk w1 (nA w) (Array.toList l.toArray) ∧ Array.size l.toArray = k ∧ Nx (setCells w1 (nA w) 0 (Array.toList l.toArray)) fun w2 => K w2
def ix (s : Sl) (n : Int) (w : World) (k : Nat) (K : List Value → Prop) : Prop := ∃ a : Addr, s.a = some a ∧ bd n s.len ∧ ∃ l : List Value, rdCells w (a.add (Int.toNat n * k)) 0 k = some l ∧ K l
def c1 (f : Nat) (a : Array Value) (w : World) (K : Int → World → Prop) : Prop := Calls Tryz.prog f a w fun e w' => ∃ x0 : Int, e = .returned (.int .i64 x0) ∧ K x0 w'
def c2 (f : Nat) (a : Array Value) (w : World) (K : World → Prop) : Prop := Calls Tryz.prog f a w fun e w' => e = .returned (.tuple #[]) ∧ K w'
def c3 (f : Nat) (a : Array Value) (w : World) (K : Int → Value → World → Prop) : Prop := Calls Tryz.prog f a w fun e w' => ∃ x0 : Int, ∃ x1 : Value, e = .returned (.tuple #[.int .i64 x0, x1]) ∧ K x0 x1 w'
def c4 (f : Nat) (a : Array Value) (w : World) (K : ByteArray → World → Prop) : Prop := Calls Tryz.prog f a w fun e w' => ∃ x0 : ByteArray, e = .returned (.string x0) ∧ K x0 w'
def c5 (f : Nat) (a : Array Value) (w : World) (K : Sl → World → Prop) : Prop := Calls Tryz.prog f a w fun e w' => ∃ x0 : Sl, e = .returned (.slice x0.a x0.len x0.cap) ∧ K x0 w'
def c6 (f : Nat) (a : Array Value) (w : World) (K : Sl → ByteArray → World → Prop) : Prop := Calls Tryz.prog f a w fun e w' => ∃ x0 : Sl, ∃ x1 : ByteArray, e = .returned (.tuple #[.slice x0.a x0.len x0.cap, .string x1]) ∧ K x0 x1 w'
def c7 (f : Nat) (a : Array Value) (w : World) (K : Int → Value → World → Prop) : Prop := Calls Tryz.prog f a w fun e w' => ∃ x0 : Int, ∃ x1 : Value, e = .returned (.tuple #[.int .u64 x0, x1]) ∧ K x0 x1 w'
def c8 (f : Nat) (a : Array Value) (w : World) (K : Value → World → Prop) : Prop := Calls Tryz.prog f a w fun e w' => ∃ x0 : Value, e = .returned (x0) ∧ K x0 w'
def c9 (f : Nat) (a : Array Value) (w : World) (K : Bool → World → Prop) : Prop := Calls Tryz.prog f a w fun e w' => ∃ x0 : Bool, e = .returned (.bool x0) ∧ K x0 w'
def c10 (f : Nat) (a : Array Value) (w : World) (K : Int → World → Prop) : Prop := Calls Tryz.prog f a w fun e w' => ∃ x0 : Int, e = .returned (.int .u8 x0) ∧ K x0 w'
def c11 (f : Nat) (a : Array Value) (w : World) (K : Option Addr → World → Prop) : Prop := Calls Tryz.prog f a w fun e w' => ∃ x0 : Option Addr, e = .returned (.pointer x0) ∧ K x0 w'
def c12 (f : Nat) (a : Array Value) (w : World) (K : Sl → Int → World → Prop) : Prop := Calls Tryz.prog f a w fun e w' => ∃ x0 : Sl, ∃ x1 : Int, e = .returned (.tuple #[.slice x0.a x0.len x0.cap, .int .i64 x1]) ∧ K x0 x1 w'
def c13 (f : Nat) (a : Array Value) (w : World) (K : ByteArray → Int → World → Prop) : Prop := Calls Tryz.prog f a w fun e w' => ∃ x0 : ByteArray, ∃ x1 : Int, e = .returned (.tuple #[.string x0, .int .i64 x1]) ∧ K x0 x1 w'
def c14 (f : Nat) (a : Array Value) (w : World) (K : Array Value → Bool → World → Prop) : Prop := Calls Tryz.prog f a w fun e w' => ∃ x0 : Array Value, ∃ x1 : Bool, e = .returned (.tuple #[.agg x0, .bool x1]) ∧ K x0 x1 w'
def c15 (f : Nat) (a : Array Value) (w : World) (K : Array Value → World → Prop) : Prop := Calls Tryz.prog f a w fun e w' => ∃ x0 : Array Value, e = .returned (.agg x0) ∧ K x0 w'
def c16 (f : Nat) (a : Array Value) (w : World) (K : Fv → World → Prop) : Prop := Calls Tryz.prog f a w fun e w' => ∃ x0 : Fv, e = .returned (.func (.func x0.f) x0.pre x0.cap) ∧ K x0 w'
def c17 (f : Nat) (a : Array Value) (w : World) (K : Sl → Bool → World → Prop) : Prop := Calls Tryz.prog f a w fun e w' => ∃ x0 : Sl, ∃ x1 : Bool, e = .returned (.tuple #[.slice x0.a x0.len x0.cap, .bool x1]) ∧ K x0 x1 w'
def c18 (f : Nat) (a : Array Value) (w : World) (K : Int → World → Prop) : Prop := Calls Tryz.prog f a w fun e w' => ∃ x0 : Int, e = .returned (.int .u64 x0) ∧ K x0 w'
def c19 (f : Nat) (a : Array Value) (w : World) (K : Int → Bool → World → Prop) : Prop := Calls Tryz.prog f a w fun e w' => ∃ x0 : Int, ∃ x1 : Bool, e = .returned (.tuple #[.int .i64 x0, .bool x1]) ∧ K x0 x1 w'
def c20 (f : Nat) (a : Array Value) (w : World) (K : Option Addr → Int → Int → World → Prop) : Prop := Calls Tryz.prog f a w fun e w' => ∃ x0 : Option Addr, ∃ x1 : Int, ∃ x2 : Int, e = .returned (.tuple #[.pointer x0, .int .i64 x1, .int .i64 x2]) ∧ K x0 x1 x2 w'
def c21 (f : Nat) (a : Array Value) (w : World) (K : Int → Bool → World → Prop) : Prop := Calls Tryz.prog f a w fun e w' => ∃ x0 : Int, ∃ x1 : Bool, e = .returned (.tuple #[.int .u64 x0, .bool x1]) ∧ K x0 x1 w'
def c22 (f : Nat) (a : Array Value) (w : World) (K : Int → Int → World → Prop) : Prop := Calls Tryz.prog f a w fun e w' => ∃ x0 : Int, ∃ x1 : Int, e = .returned (.tuple #[.int .i64 x0, .int .i64 x1]) ∧ K x0 x1 w'
def r1 (w : World) (A : Addr) (K : Sl → Prop) : Prop := ∃ x : Sl, w.cell? A = some (.slice x.a x.len x.cap) ∧ K x
def r2 (w : World) (A : Addr) (K : ByteArray → Prop) : Prop := ∃ x : ByteArray, w.cell? A = some (.string x) ∧ K x
def r3 (w : World) (A : Addr) (K : Int → Prop) : Prop := ∃ x : Int, w.cell? A = some (.int .i64 x) ∧ K x
def r4 (w : World) (A : Addr) (K : Int → Prop) : Prop := ∃ x : Int, w.cell? A = some (.int .u8 x) ∧ K x
def r5 (w : World) (A : Addr) (K : Int → Prop) : Prop := ∃ x : Int, w.cell? A = some (.int .u64 x) ∧ K x
def r6 (w : World) (A : Addr) (K : Value → Prop) : Prop := ∃ x : Value, w.cell? A = some (x) ∧ K x
def r7 (w : World) (A : Addr) (K : Int → Prop) : Prop := ∃ x : Int, w.cell? A = some (.int .u16 x) ∧ K x
def r8 (w : World) (A : Addr) (K : Bool → Prop) : Prop := ∃ x : Bool, w.cell? A = some (.bool x) ∧ K x
def z1 : Obj := .cells #[.int .i64 0, .bool false, .int .u8 0, .int .u8 0, .int .u8 0, .int .u8 0, .int .u8 0, .int .u8 0, .int .u8 0, .int .u8 0, .int .u8 0, .int .u8 0, .int .u8 0, .int .u8 0, .int .u8 0, .int .u8 0, .int .u8 0, .int .u8 0, .int .u16 0, .int .u8 0, .int .i64 0, .int .u64 0, .slice none 0 0] Ty.api_Service
def z2 : Obj := .cells #[.pointer none, .slice none 0 0] Ty.strings_Builder
def z3 : Obj := .cells #[.int .u8 0, .int .u8 0, .int .u8 0, .int .u8 0, .int .u8 0, .int .u8 0, .int .u8 0, .int .u8 0, .int .u8 0, .int .u8 0, .int .u8 0, .int .u8 0, .int .u8 0, .int .u8 0, .int .u8 0, .int .u8 0, .int .u8 0, .int .u8 0, .int .u8 0, .int .u8 0, .int .u8 0, .int .u8 0, .int .u8 0, .int .u8 0] Ty.n24_uint8
def z4 : Obj := .cells #[.int .i64 0, .slice none 0 0, .int .i64 0, .int .i64 0, .int .u64 0, .bool false, .int .i64 0, .bool false, .int .u8 0, .int .u8 0, .int .u8 0, .int .u8 0, .int .u8 0, .int .u8 0, .int .u8 0, .int .u8 0, .int .u8 0, .int .u8 0, .int .u8 0, .int .u8 0, .int .u8 0, .int .u8 0, .int .u8 0, .int .u8 0, .int .u16 0, .int .u8 0, .int .i64 0, .int .u64 0, .slice none 0 0, .int .i64 0, .bool false, .int .u8 0, .int .u8 0, .int .u8 0, .int .u8 0, .int .u8 0, .int .u8 0, .int .u8 0, .int .u8 0, .int .u8 0, .int .u8 0, .int .u8 0, .int .u8 0, .int .u8 0, .int .u8 0, .int .u8 0, .int .u8 0, .int .u16 0, .int .i64 0, .bool false, .slice none 0 0] Ty.api_Op
def z5 : Obj := .cells #[.int .i64 0, .bool false, .int .u8 0, .int .u8 0, .int .u8 0, .int .u8 0, .int .u8 0, .int .u8 0, .int .u8 0, .int .u8 0, .int .u8 0, .int .u8 0, .int .u8 0, .int .u8 0, .int .u8 0, .int .u8 0, .int .u8 0, .int .u8 0, .int .u16 0, .int .i64 0, .bool false] Ty.api_Backend
def z6 : Obj := .cells #[.bool false, .int .u8 0, .int .u8 0, .int .u8 0, .int .u8 0, .int .u8 0, .int .u8 0, .int .u8 0, .int .u8 0, .int .u8 0, .int .u8 0, .int .u8 0, .int .u8 0, .int .u8 0, .int .u8 0, .int .u8 0, .int .u8 0] Ty.api_Addr
def a1 : AT := (.s .r (.c (.s .r .l) .l))
def a17 : AT := (.s .r (.s a1 (.s .r .l)))
def a18 : AT := (.s .r (.s (.c .l .l) (.s (.blk (.s .r (.s .r (.s a1 .r)))) .r)))
def a19 : AT := (.s .r (.s (.s .r (.blk (.loop [(8, (.int .i64))] [0, 1, 7] (.s .r (.s (.c .l .l) (.s (.blk (.s .r a1)) .r)))))) (.s .r .l)))
def a20 : AT := (.s .r (.c (.s .r .l) a1))
def a21 : AT := (.s .r (.s (.c .l .l) (.s (.blk (.s .r (.s .r a1))) .r)))
def a22 : AT := (.s (.reg [.run, .run, .run, .run, .run, .split 6]) (.c .l .l))
def a2 : AT := (.s (.s .r (.blk (.loop [(5, (.int .i64))] [0, 1] (.s (.s .r (.c .l .l)) (.s (.blk (.s (.drw 8 false ⟨[0, 0, 3, 4, 0, 0, 48, 64, 136, 256], [0, 0, 3, 4, 0, 0, 48, 64, 136, 256]⟩ [131072, 262144, 524288, 1048576, 2097152, 4194304, 8388608, 16777216, 33554432, 67108864] [1, 32, 393216, 524288, 2, 32, 6291456, 8388608, 17825792, 33554432] (.take 0 (.take 1 (.take 2 (.take 3 (.take 4 (.take 5 (.take 6 (.take 7 (.tail [.run, .run])))))))))) (.c (.s .r .l) .l))) .r))))) (.s .r .l))
def a3 : AT := (.s (.reg [.run, .run, .run, .run, .run, .run, .split 5, .run, .run, .run, .run, .run, .run, .split 5, .run, .run, .run, .run, .run, .run, .split 5, .run, .run, .run, .run, .run, .run, .split 5, .run, .run, .run, .run, .run, .run, .split 5, .run, .run, .run, .run, .run, .run, .split 7]) (.c (.s .r .l) .l))
def a4 : AT := (.s .r (.s (.reg [.run, .run, .run, .run, .run, .run, .split 5, .run, .run, .run, .run, .run, .run, .split 5, .run, .run, .run, .run, .run, .run, .split 5, .run, .run, .run, .run, .run, .run, .split 5, .run, .run, .run, .run, .run, .run, .split 5]) .l))
def a5 : AT := (.s .r (.s (.c .l .l) (.s (.blk (.s .r (.s .r .r))) .r)))
def a6 : AT := (.s .r (.s (.drw 4 true ⟨[0, 0, 2, 0, 13, 16, 63], [0, 0, 2, 0, 13, 16, 32]⟩ [32, 64, 128, 256, 512, 1024, 16] [1, 2, 64, 0, 416, 512, 1024] (.take 0 (.take 1 (.take 3 (.eff 2 (.tail [.run, .run, .run])))))) .l))
def a7 : AT := (.s .r (.s .r (.s .r .l)))
def a8 : AT := (.s .r (.s (.c .l .l) (.s (.blk (.s .r .r)) .r)))
def a9 : AT := (.blk (.loop [(12, (.int .i64))] [0, 9, 10] (.s a22 (.blk .r))))
def a10 : AT := (.s (.reg [.run, .run, .run, .split 3]) (.c (.s .r .l) .l))
def a11 : AT := (.s .r (.s (.reg [.run, .run, .run, .pure 2]) .l))
def a12 : AT := (.s .r (.c (.s .r .r) .l))
def a13 : AT := (.s .r (.s .r (.s (.reg [.run, .run, .run, .run, .run, .run, .split 2]) (.s .r .l))))
def a14 : AT := (.s (.s .r (.c .l .l)) (.s (.blk .r) .r))
def a15 : AT := (.s (.reg [.run, .run, .run, .run, .pure 3]) (.c (.s .r .l) .l))
def a16 : AT := (.s (.reg [.run, .run, .run, .pure 2]) (.c (.s .r .l) .l))
theorem okF {f : Nat} {fn : Func} (A : AT) {args : List Value} {w : World} {Q : Value → World → Prop} {p : Prop} (hf : Tryz.prog.funcs[f]? = some fn) (h1 : dfOk fn args.length = true) (h2 : p = DF Tryz.prog tk A fn args w Q) (h : p) : Ret Tryz.prog f args.toArray w Q := calls_of_DF hmix hf h1 (Eq.mp h2 h)
def T1 (w15 : World) (n3 : Int) (l : Sl) (w4 : World) (Q : Value → World → Prop) (I1 : Int → World → Prop) (μ2 : Int → World → Nat) : Prop := ∃ (I19 : Int → World → Prop) (μ20 : Int → World → Nat), I19 0 w15 ∧ ∀ (n21 : Int) (w22 : World),
 I19 n21 w22 → Br (decide (n21 < n3)) (Nx (w22.drew) fun w23 => ∃ a24 : Addr, l.a = some a24 ∧ bd n21 l.len ∧ ¬ False ∧ ∃ l25 : List Value, rdCells w23 ((a24.add (Int.toNat n21 * 23)).add 1) 0 17 = some l25 ∧ ¬ False ∧ ∃ l26 : List Value,
 rdCells w23 (Addr.add (nA w4) 1) 0 17 = some l26 ∧ ∃ b27 : Bool, AggEq Tryz.prog Ty.api_Addr l25.toArray l26.toArray b27 ∧ Br b27 (∃ a28 : Addr, l.a = some a28 ∧ bd n21 l.len ∧ ¬ False ∧ r7 w23 ((a28.add (Int.toNat n21 * 23)).add 18) fun
 n29 => ¬ False ∧ r7 w23 (Addr.add (nA w4) 18) fun n30 => Br (n29 == n30) (∃ a31 : Addr, l.a = some a31 ∧ bd n21 l.len ∧ ¬ False ∧ r4 w23 ((a31.add (Int.toNat n21 * 23)).add 19) fun n32 => ¬ False ∧ r4 w23 (Addr.add (nA w4) 19) fun n33 => Br
 (n32 == n33) (Q (.bool false) w23) (I19 (wI (n21 + 1)) w23 ∧ μ20 (wI (n21 + 1)) w23 < μ20 n21 w22)) (Br false (Q (.bool false) w23) (I19 (wI (n21 + 1)) w23 ∧ μ20 (wI (n21 + 1)) w23 < μ20 n21 w22))) (Br false (Q (.bool false) w23) (I19 (wI
 (n21 + 1)) w23 ∧ μ20 (wI (n21 + 1)) w23 < μ20 n21 w22))) (∃ (I34 : Int → World → Prop) (μ35 : Int → World → Nat), I34 0 w22 ∧ ∀ (n36 : Int) (w37 : World), I34 n36 w37 → ∃ a38 : Addr, l.a = some a38 ∧ bd n3 l.len ∧ r1 w37 ((a38.add
 (Int.toNat n3 * 23)).add 22) fun s39 => Br (decide (n36 < (s39.len:Int))) (∃ a40 : Addr, l.a = some a40 ∧ bd n3 l.len ∧ r1 w37 ((a40.add (Int.toNat n3 * 23)).add 22) fun s41 => ix s41 n36 w37 21 fun l43 => al w37 z5 l43 21 fun w45 => st w45
 (Addr.add (nA w37) 20) (.bool false) fun w46 => Nx (w46.drew) fun w47 => ∃ W48 : Nat → Prop, ¬ W48 ((nA w4) : Addr).block ∧ ∃ l49 : List Value, rdCells w47 (nA w4) 0 23 = some l49 ∧ ¬ W48 ((nA w37) : Addr).block ∧ ∃ l50 : List Value,
 rdCells w47 (nA w37) 0 21 = some l50 ∧ c9 F.ref20_Can #[.agg l49.toArray, .agg l50.toArray] w47 fun b53 w51 => ∃ W54 : Nat → Prop, Br (!b53) (Br true (Q (.bool false) w51) (I34 (wI (n36 + 1)) w51 ∧ μ35 (wI (n36 + 1)) w51 < μ35 n36 w37)) (Br
 (decide (n36 > 0)) (∃ a55 : Addr, l.a = some a55 ∧ bd n3 l.len ∧ ¬ W54 ((a55.add (Int.toNat n3 * 23)).add 22).block ∧ r1 w51 ((a55.add (Int.toNat n3 * 23)).add 22) fun s56 => ∃ a57 : Addr, s56.a = some a57 ∧ bd (wI (n36 - 1)) s56.len ∧ ¬
 W54 (a57.add (Int.toNat (wI (n36 - 1)) * 21)).block ∧ r3 w51 (a57.add (Int.toNat (wI (n36 - 1)) * 21)) fun n58 => ¬ W54 ((nA w37) : Addr).block ∧ r3 w51 (nA w37) fun n59 => Br (decide (n58 ≥ n59)) (Q (.bool false) w51) (I34 (wI (n36 + 1))
 w51 ∧ μ35 (wI (n36 + 1)) w51 < μ35 n36 w37)) (Br false (Q (.bool false) w51) (I34 (wI (n36 + 1)) w51 ∧ μ35 (wI (n36 + 1)) w51 < μ35 n36 w37)))) (I1 (wI (n3 + 1)) w37 ∧ μ2 (wI (n3 + 1)) w37 < μ2 n3 w4))
def T2 (w30 : World) (w : World) (s24 : ByteArray) (k33 : ByteArray → World → Prop) : Prop := ∃ l43 : List Value, rdCells w30 (Addr.add (nA w) 6) 0 23 = some l43 ∧ al w30 z1 l43 23 fun w45 => Nx (w45.drew) fun w46 => ∃ W47 : Nat → Prop,
 ((ByteArray.size s24 + ByteArray.size (ByteArray.mk #[32]) : Nat) : Int) ≤ mI ∧ ¬ W47 ((nA w30) : Addr).block ∧ r3 w46 (nA w30) fun n48 => ¬ W47 (Addr.add (nA w30) 1).block ∧ ∃ l49 : List Value, rdCells w46 (Addr.add (nA w30) 1) 0 17 = some
 l49 ∧ ¬ W47 (Addr.add (nA w30) 18).block ∧ r7 w46 (Addr.add (nA w30) 18) fun n50 => ¬ W47 (Addr.add (nA w30) 19).block ∧ r4 w46 (Addr.add (nA w30) 19) fun n51 => ¬ W47 (Addr.add (nA w30) 20).block ∧ r3 w46 (Addr.add (nA w30) 20) fun n52 =>
 ¬ W47 (Addr.add (nA w30) 21).block ∧ r5 w46 (Addr.add (nA w30) 21) fun n53 => c4 F.ref29_int0 #[.int .i64 n48] w46 fun s56 w54 => Chg W47 w46 w54 ∧ ((ByteArray.size (s24 ++ (ByteArray.mk #[32])) + ByteArray.size s56 : Nat) : Int) ≤ mI ∧
 ((ByteArray.size ((s24 ++ (ByteArray.mk #[32])) ++ s56) + ByteArray.size (ByteArray.mk #[32]) : Nat) : Int) ≤ mI ∧ c4 F.ref12_Show #[.agg l49.toArray] w54 fun s59 w57 => Chg W47 w54 w57 ∧ ((ByteArray.size (((s24 ++ (ByteArray.mk #[32])) ++
 s56) ++ (ByteArray.mk #[32])) + ByteArray.size s59 : Nat) : Int) ≤ mI ∧ ((ByteArray.size ((((s24 ++ (ByteArray.mk #[32])) ++ s56) ++ (ByteArray.mk #[32])) ++ s59) + ByteArray.size (ByteArray.mk #[32]) : Nat) : Int) ≤ mI ∧ c4 F.ref29_num
 #[.int .u64 (IntKind.wrap .u64 n50)] w57 fun s62 w60 => Chg W47 w57 w60 ∧ ((ByteArray.size (((((s24 ++ (ByteArray.mk #[32])) ++ s56) ++ (ByteArray.mk #[32])) ++ s59) ++ (ByteArray.mk #[32])) + ByteArray.size s62 : Nat) : Int) ≤ mI ∧
 ((ByteArray.size ((((((s24 ++ (ByteArray.mk #[32])) ++ s56) ++ (ByteArray.mk #[32])) ++ s59) ++ (ByteArray.mk #[32])) ++ s62) + ByteArray.size (ByteArray.mk #[32]) : Nat) : Int) ≤ mI ∧ c4 F.ref29_num #[.int .u64 (IntKind.wrap .u64 n51)] w60
 fun s65 w63 => Chg W47 w60 w63 ∧ ((ByteArray.size (((((((s24 ++ (ByteArray.mk #[32])) ++ s56) ++ (ByteArray.mk #[32])) ++ s59) ++ (ByteArray.mk #[32])) ++ s62) ++ (ByteArray.mk #[32])) + ByteArray.size s65 : Nat) : Int) ≤ mI ∧
 ((ByteArray.size ((((((((s24 ++ (ByteArray.mk #[32])) ++ s56) ++ (ByteArray.mk #[32])) ++ s59) ++ (ByteArray.mk #[32])) ++ s62) ++ (ByteArray.mk #[32])) ++ s65) + ByteArray.size (ByteArray.mk #[32]) : Nat) : Int) ≤ mI ∧ c4 F.ref29_int0
 #[.int .i64 n52] w63 fun s68 w66 => Chg W47 w63 w66 ∧ ((ByteArray.size (((((((((s24 ++ (ByteArray.mk #[32])) ++ s56) ++ (ByteArray.mk #[32])) ++ s59) ++ (ByteArray.mk #[32])) ++ s62) ++ (ByteArray.mk #[32])) ++ s65) ++ (ByteArray.mk #[32]))
 + ByteArray.size s68 : Nat) : Int) ≤ mI ∧ ((ByteArray.size ((((((((((s24 ++ (ByteArray.mk #[32])) ++ s56) ++ (ByteArray.mk #[32])) ++ s59) ++ (ByteArray.mk #[32])) ++ s62) ++ (ByteArray.mk #[32])) ++ s65) ++ (ByteArray.mk #[32])) ++ s68) +
 ByteArray.size (ByteArray.mk #[32]) : Nat) : Int) ≤ mI ∧ c4 F.ref29_num #[.int .u64 n53] w66 fun s71 w69 => Chg W47 w66 w69 ∧ ((ByteArray.size (((((((((((s24 ++ (ByteArray.mk #[32])) ++ s56) ++ (ByteArray.mk #[32])) ++ s59) ++ (ByteArray.mk
 #[32])) ++ s62) ++ (ByteArray.mk #[32])) ++ s65) ++ (ByteArray.mk #[32])) ++ s68) ++ (ByteArray.mk #[32])) + ByteArray.size s71 : Nat) : Int) ≤ mI ∧ k33 ((((((((((((s24 ++ (ByteArray.mk #[32])) ++ s56) ++ (ByteArray.mk #[32])) ++ s59) ++
 (ByteArray.mk #[32])) ++ s62) ++ (ByteArray.mk #[32])) ++ s65) ++ (ByteArray.mk #[32])) ++ s68) ++ (ByteArray.mk #[32])) ++ s71) w69
def T3 (w30 : World) (s24 : ByteArray) (w : World) (k33 : ByteArray → World → Prop) : Prop := Nx (w30.drew) fun w76 => ∃ W77 : Nat → Prop, ((ByteArray.size s24 + ByteArray.size (ByteArray.mk #[32]) : Nat) : Int) ≤ mI ∧ ¬ W77 (Addr.add (nA
 w) 2).block ∧ r3 w76 (Addr.add (nA w) 2) fun n78 => ¬ W77 (Addr.add (nA w) 29).block ∧ r3 w76 (Addr.add (nA w) 29) fun n79 => ¬ W77 ((Addr.add (nA w) 29).add 1).block ∧ ∃ l80 : List Value, rdCells w76 ((Addr.add (nA w) 29).add 1) 0 17 =
 some l80 ∧ ¬ W77 ((Addr.add (nA w) 29).add 18).block ∧ r7 w76 ((Addr.add (nA w) 29).add 18) fun n81 => ¬ W77 ((Addr.add (nA w) 29).add 19).block ∧ r3 w76 ((Addr.add (nA w) 29).add 19) fun n82 => c4 F.ref29_int0 #[.int .i64 n78] w76 fun s85
 w83 => Chg W77 w76 w83 ∧ ((ByteArray.size (s24 ++ (ByteArray.mk #[32])) + ByteArray.size s85 : Nat) : Int) ≤ mI ∧ ((ByteArray.size ((s24 ++ (ByteArray.mk #[32])) ++ s85) + ByteArray.size (ByteArray.mk #[32]) : Nat) : Int) ≤ mI ∧ c4
 F.ref29_int0 #[.int .i64 n79] w83 fun s88 w86 => Chg W77 w83 w86 ∧ ((ByteArray.size (((s24 ++ (ByteArray.mk #[32])) ++ s85) ++ (ByteArray.mk #[32])) + ByteArray.size s88 : Nat) : Int) ≤ mI ∧ ((ByteArray.size ((((s24 ++ (ByteArray.mk #[32]))
 ++ s85) ++ (ByteArray.mk #[32])) ++ s88) + ByteArray.size (ByteArray.mk #[32]) : Nat) : Int) ≤ mI ∧ c4 F.ref12_Show #[.agg l80.toArray] w86 fun s91 w89 => Chg W77 w86 w89 ∧ ((ByteArray.size (((((s24 ++ (ByteArray.mk #[32])) ++ s85) ++
 (ByteArray.mk #[32])) ++ s88) ++ (ByteArray.mk #[32])) + ByteArray.size s91 : Nat) : Int) ≤ mI ∧ ((ByteArray.size ((((((s24 ++ (ByteArray.mk #[32])) ++ s85) ++ (ByteArray.mk #[32])) ++ s88) ++ (ByteArray.mk #[32])) ++ s91) + ByteArray.size
 (ByteArray.mk #[32]) : Nat) : Int) ≤ mI ∧ c4 F.ref29_num #[.int .u64 (IntKind.wrap .u64 n81)] w89 fun s94 w92 => Chg W77 w89 w92 ∧ ((ByteArray.size (((((((s24 ++ (ByteArray.mk #[32])) ++ s85) ++ (ByteArray.mk #[32])) ++ s88) ++
 (ByteArray.mk #[32])) ++ s91) ++ (ByteArray.mk #[32])) + ByteArray.size s94 : Nat) : Int) ≤ mI ∧ ((ByteArray.size ((((((((s24 ++ (ByteArray.mk #[32])) ++ s85) ++ (ByteArray.mk #[32])) ++ s88) ++ (ByteArray.mk #[32])) ++ s91) ++
 (ByteArray.mk #[32])) ++ s94) + ByteArray.size (ByteArray.mk #[32]) : Nat) : Int) ≤ mI ∧ c4 F.ref29_int0 #[.int .i64 n82] w92 fun s97 w95 => Chg W77 w92 w95 ∧ ((ByteArray.size (((((((((s24 ++ (ByteArray.mk #[32])) ++ s85) ++ (ByteArray.mk
 #[32])) ++ s88) ++ (ByteArray.mk #[32])) ++ s91) ++ (ByteArray.mk #[32])) ++ s94) ++ (ByteArray.mk #[32])) + ByteArray.size s97 : Nat) : Int) ≤ mI ∧ k33 ((((((((((s24 ++ (ByteArray.mk #[32])) ++ s85) ++ (ByteArray.mk #[32])) ++ s88) ++
 (ByteArray.mk #[32])) ++ s91) ++ (ByteArray.mk #[32])) ++ s94) ++ (ByteArray.mk #[32])) ++ s97) w95
def T4 (I115 : ByteArray → Int → World → Prop) (w : World) (μ116 : ByteArray → Int → World → Nat) (k33 : ByteArray → World → Prop) : Prop := ∀ (s117 : ByteArray) (n118 : Int) (w119 : World), I115 s117 n118 w119 → r1 w119 (Addr.add (nA w)
 50) fun s120 => Br (decide (n118 < (s120.len:Int))) (((ByteArray.size s117 + ByteArray.size (ByteArray.mk #[32]) : Nat) : Int) ≤ mI ∧ r1 w119 (Addr.add (nA w) 50) fun s121 => ∃ a122 : Addr, s121.a = some a122 ∧ bd n118 s121.len ∧ r3 w119
 (a122.add (Int.toNat n118 * 1)) fun n123 => c4 F.ref29_int0 #[.int .i64 n123] w119 fun s126 w124 => ((ByteArray.size (s117 ++ (ByteArray.mk #[32])) + ByteArray.size s126 : Nat) : Int) ≤ mI ∧ I115 ((s117 ++ (ByteArray.mk #[32])) ++ s126) (wI
 (n118 + 1)) w124 ∧ μ116 ((s117 ++ (ByteArray.mk #[32])) ++ s126) (wI (n118 + 1)) w124 < μ116 s117 n118 w119) (k33 s117 w119)
def T5 (n92 : Int) (s89 : Sl) (w93 : World) (w : World) (w1 : World) (Q : Value → World → Prop) (I90 : Int → World → Prop) (μ91 : Int → World → Nat) : Prop := Br (decide (n92 < (s89.len:Int))) (Nx (w93.drew) fun w94 => ¬ False ∧ r1 w94
 (Addr.add (nA w) 50) fun s95 => ∃ a96 : Addr, s95.a = some a96 ∧ bd n92 s95.len ∧ ¬ False ∧ r3 w94 (a96.add (Int.toNat n92 * 1)) fun n97 => ¬ False ∧ r1 w94 (Addr.add (nA w1) 50) fun s98 => ∃ a99 : Addr, s98.a = some a99 ∧ bd n92 s98.len ∧
 ¬ False ∧ r3 w94 (a99.add (Int.toNat n92 * 1)) fun n100 => Br (n97 != n100) (Q (.bool false) w94) (I90 (wI (n92 + 1)) w94 ∧ μ91 (wI (n92 + 1)) w94 < μ91 n92 w93)) (Q (.bool true) w93)
def T28 (w2 : World) (w : World) (w1 : World) (k5 : Bool → World → Prop) : Prop := ∃ l6 : List Value, rdCells w2 (Addr.add (nA w) 1) 0 17 = some l6 ∧ ∃ l7 : List Value, rdCells w2 (Addr.add (nA w1) 1) 0 17 = some l7 ∧ ∃ b8 : Bool, AggEq
 Tryz.prog Ty.api_Addr l6.toArray l7.toArray b8 ∧ k5 b8 w2
def T6 (w : World) (a : Array Value) (b : Array Value) (Q : Value → World → Prop) : Prop := Nx (w.alloc (.cells a Ty.api_Service)) fun w1 => Nx (w1.alloc (.cells b Ty.api_Service)) fun w2 => r3 w2 (nA w) fun n3 => r3 w2 (nA w1) fun n4 => Jn
 (fun k5 : Bool → World → Prop => Br (n3 == n4) (T28 w2 w w1 k5) (k5 false w2)) (fun (b9 : Bool) w10 => Jn (fun k11 : Bool → World → Prop => Br b9 (r7 w10 (Addr.add (nA w) 18) fun n12 => r7 w10 (Addr.add (nA w1) 18) fun n13 => k11 (n12 ==
 n13) w10) (k11 false w10)) (fun (b14 : Bool) w15 => Jn (fun k16 : Bool → World → Prop => Br b14 (r4 w15 (Addr.add (nA w) 19) fun n17 => r4 w15 (Addr.add (nA w1) 19) fun n18 => k16 (n17 == n18) w15) (k16 false w15)) (fun (b19 : Bool) w20 =>
 Jn (fun k21 : Bool → World → Prop => Br b19 (r3 w20 (Addr.add (nA w) 20) fun n22 => r3 w20 (Addr.add (nA w1) 20) fun n23 => k21 (n22 == n23) w20) (k21 false w20)) (fun (b24 : Bool) w25 => Jn (fun k26 : Bool → World → Prop => Br b24 (r5 w25
 (Addr.add (nA w) 21) fun n27 => r5 w25 (Addr.add (nA w1) 21) fun n28 => k26 (n27 == n28) w25) (k26 false w25)) (fun (b29 : Bool) w30 => Q (.bool b29) w30)))))
def T7 (s5 : Sl) (s17 : Sl) (w18 : World) (k8 : Sl → World → Prop) : Prop := ∃ s19 : Sl, ∃ w20 : World, Sem.run Tryz.prog (Builtin.append_ #[Ty.Sl_api_Op, Ty.Sl_api_Op] Ty.Sl_api_Op #[.slice s5.a s5.len s5.cap, .slice s17.a s17.len
 s17.cap]) w18 = .ok (.slice s19.a s19.len s19.cap) w20 ∧ k8 s19 w20
def T8 (w78 : World) (w1 : World) (k75 : Bool → World → Prop) (s77 : ByteArray) : Prop := r1 w78 (Addr.add (nA w1) 1) fun s79 => ∃ s80 : ByteArray, ∃ w81 : World, Sem.run Tryz.prog (convert Ty.Sl_uint8 Ty.string (.slice s79.a s79.len
 s79.cap)) w78 = .ok (.string s80) w81 ∧ k75 (!(ByteArray.toList s77 == ByteArray.toList s80)) w81
def T9 (w3 : World) (w1 : World) (Q : Value → World → Prop) : Prop := ∃ c6 : Array Value, Sem.run Tryz.prog (Instr.build Ty.api_Service #[]) w3 = .ok (.agg c6) w3 ∧ StoreOk w3 (nA w1) (Array.toList c6) ∧ Array.size c6 = 23 ∧ Nx (setCells w3
 (nA w1) 0 (Array.toList c6)) fun w7 => ∃ l8 : List Value, rdCells w7 (nA w1) 0 23 = some l8 ∧ Q (.tuple #[.agg l8.toArray, .bool false]) w7
def T10 (n11 : Int) (n12 : Int) (w10 : World) (w3 : World) (w7 : World) (k13 : Bool → World → Prop) : Prop := Br (n11 == n12) (T28 w10 w3 w7 k13) (k13 false w10)
def T11 (s24 : ByteArray) (w30 : World) (w : World) (k33 : ByteArray → World → Prop) : Prop := ((ByteArray.size s24 + ByteArray.size (ByteArray.mk #[32]) : Nat) : Int) ≤ mI ∧ r1 w30 (Addr.add (nA w) 1) fun s35 => c4 F.ref29_hex #[.slice
 s35.a s35.len s35.cap] w30 fun s38 w36 => ((ByteArray.size (s24 ++ (ByteArray.mk #[32])) + ByteArray.size s38 : Nat) : Int) ≤ mI ∧ k33 ((s24 ++ (ByteArray.mk #[32])) ++ s38) w36
def T12 (s24 : ByteArray) (w30 : World) (w : World) (k33 : ByteArray → World → Prop) : Prop := ((ByteArray.size s24 + ByteArray.size (ByteArray.mk #[32]) : Nat) : Int) ≤ mI ∧ r3 w30 (Addr.add (nA w) 2) fun n72 => c4 F.ref29_int0 #[.int .i64
 n72] w30 fun s75 w73 => ((ByteArray.size (s24 ++ (ByteArray.mk #[32])) + ByteArray.size s75 : Nat) : Int) ≤ mI ∧ k33 ((s24 ++ (ByteArray.mk #[32])) ++ s75) w73
def T13 (s24 : ByteArray) (w30 : World) (w : World) (k33 : ByteArray → World → Prop) : Prop := ((ByteArray.size s24 + ByteArray.size (ByteArray.mk #[32]) : Nat) : Int) ≤ mI ∧ r5 w30 (Addr.add (nA w) 4) fun n39 => c4 F.ref29_num #[.int .u64
 n39] w30 fun s42 w40 => ((ByteArray.size (s24 ++ (ByteArray.mk #[32])) + ByteArray.size s42 : Nat) : Int) ≤ mI ∧ k33 ((s24 ++ (ByteArray.mk #[32])) ++ s42) w40
def T14 (s24 : ByteArray) (s29 : ByteArray) (s32 : ByteArray) (s114 : ByteArray) (k33 : ByteArray → World → Prop) (w112 : World) : Prop := ((ByteArray.size ((s24 ++ ((((ByteArray.mk #[32]) ++ s29) ++ (ByteArray.mk #[32])) ++ s32)) ++
 (ByteArray.mk #[32])) + ByteArray.size s114 : Nat) : Int) ≤ mI ∧ k33 (((s24 ++ ((((ByteArray.mk #[32]) ++ s29) ++ (ByteArray.mk #[32])) ++ s32)) ++ (ByteArray.mk #[32])) ++ s114) w112
def T15 (n11 : Int) (n12 : Int) (k13 : Bool → World → Prop) (w10 : World) (w3 : World) (w7 : World) : Prop := Br (n11 != n12) (k13 true w10) (∃ l14 : List Value, rdCells w10 (Addr.add (nA w3) 1) 0 17 = some l14 ∧ ∃ l15 : List Value, rdCells
 w10 (Addr.add (nA w7) 1) 0 17 = some l15 ∧ ∃ b16 : Bool, AggEq Tryz.prog Ty.api_Addr l14.toArray l15.toArray b16 ∧ k13 (!b16) w10)
def T16 (n16 : Int) (n17 : Int) (w18 : World) (w2 : World) (k7 : Int → World → Prop) : Prop := (0 : Int) ≤ n16 ∧ ∃ b21 : UInt8, byteAt (ByteArray.mk #[48, 49, 50, 51, 52, 53, 54, 55, 56, 57, 97, 98, 99, 100, 101, 102, 103, 104, 105, 106,
 107, 108, 109, 110, 111, 112, 113, 114, 115, 116, 117, 118, 119, 120, 121, 122]) (Int.toNat n16) = some b21 ∧ ((0 : Int) ≤ (wI (n17 - 1)) ∧ (wI (n17 - 1)) < ((65 : Nat) : Int)) ∧ st w18 (Addr.add (nA w2) (Int.toNat (wI (n17 - 1)) * 1))
 (.int .u8 ((b21.toNat : Nat) : Int)) fun w22 => k7 (wI (n17 - 1)) w22
def T17 (l17 : List Value) (w16 : World) (s6 : Sl) (I4 : Sl → Int → World → Prop) (n7 : Int) (μ5 : Sl → Int → World → Nat) (w8 : World) : Prop := ∃ s18 : Sl, ∃ w19 : World, Sem.run Tryz.prog (Instr.buildSlice Ty.Sl_api_Service 1 #[(0, .agg
 l17.toArray)]) w16 = .ok (.slice s18.a s18.len s18.cap) w19 ∧ ∃ s20 : Sl, ∃ w21 : World, Sem.run Tryz.prog (Builtin.append_ #[Ty.Sl_api_Service, Ty.Sl_api_Service] Ty.Sl_api_Service #[.slice s6.a s6.len s6.cap, .slice s18.a s18.len
 s18.cap]) w19 = .ok (.slice s20.a s20.len s20.cap) w21 ∧ I4 s20 (wI (n7 + 1)) w21 ∧ μ5 s20 (wI (n7 + 1)) w21 < μ5 s6 n7 w8
def T18 (s24 : ByteArray) (s29 : ByteArray) (s32 : ByteArray) (s107 : ByteArray) (k33 : ByteArray → World → Prop) (w105 : World) : Prop := ((ByteArray.size (s24 ++ ((((ByteArray.mk #[32]) ++ s29) ++ (ByteArray.mk #[32])) ++ s32)) +
 ByteArray.size s107 : Nat) : Int) ≤ mI ∧ k33 ((s24 ++ ((((ByteArray.mk #[32]) ++ s29) ++ (ByteArray.mk #[32])) ++ s32)) ++ s107) w105
def T19 (n16 : Int) (s : ByteArray) (w17 : World) (k18 : Bool → World → Prop) : Prop := Br (decide (n16 < ((ByteArray.size s : Nat) : Int))) ((0 : Int) ≤ n16 ∧ ∃ b19 : UInt8, byteAt s (Int.toNat n16) = some b19 ∧ ((0 : Int) ≤ ((b19.toNat :
 Nat) : Int) ∧ ((b19.toNat : Nat) : Int) < ((256 : Nat) : Int)) ∧ r4 w17 (Addr.add ⟨1, 0, none⟩ (Int.toNat ((b19.toNat : Nat) : Int) * 1)) fun n20 => k18 (n20 != 0) w17) (k18 false w17)
def T20 (n14 : Int) (substr : ByteArray) (s9 : ByteArray) (I7 : ByteArray → Int → World → Prop) (n10 : Int) (w12 : World) (μ8 : ByteArray → Int → World → Nat) (w11 : World) : Prop := ((0 : Int) ≤ (wI (n14 + ((ByteArray.size substr : Nat) :
 Int))) ∧ (wI (n14 + ((ByteArray.size substr : Nat) : Int))) ≤ (((ByteArray.size s9) : Nat) : Int)) ∧ I7 (ByteArray.extract s9 (Int.toNat (wI (n14 + ((ByteArray.size substr : Nat) : Int)))) (ByteArray.size s9)) (wI (n10 + 1)) w12 ∧ μ8
 (ByteArray.extract s9 (Int.toNat (wI (n14 + ((ByteArray.size substr : Nat) : Int)))) (ByteArray.size s9)) (wI (n10 + 1)) w12 < μ8 s9 n10 w11
def T21 (w18 : World) (s20 : ByteArray) (s13 : Sl) (I11 : Sl → Int → World → Prop) (n14 : Int) (μ12 : Sl → Int → World → Nat) (w15 : World) : Prop := Nx (w18.alloc (.cells #[.string s20] Ty.string)) fun w21 => ∃ s22 : Sl, ∃ w23 : World,
 Sem.run Tryz.prog (Builtin.append_ #[Ty.Sl_string, Ty.Sl_string] Ty.Sl_string #[.slice s13.a s13.len s13.cap, .slice (some (nA w18)) 1 1]) w21 = .ok (.slice s22.a s22.len s22.cap) w23 ∧ I11 s22 (wI (n14 + 1)) w23 ∧ μ12 s22 (wI (n14 + 1))
 w23 < μ12 s13 n14 w15
def T22 (str : ByteArray) (w1 : World) (W2 : Nat → Prop) (fn : ByteArray) (v3 : Value) (Q : Value → World → Prop) : Prop := c4 F.internal_stringslite_Clone #[.string str] w1 fun s6 w4 => Chg W2 w1 w4 ∧ ∃ c7 : Array Value, Sem.run Tryz.prog
 (Instr.build Ty.strconv_NumError #[(0, .string fn), (1, .string s6), (2, v3)]) w4 = .ok (.agg c7) w4 ∧ Nx (w4.alloc (.cells c7 Ty.strconv_NumError)) fun w8 => Q (.pointer (some (nA w4))) w8
def T23 (w3 : World) (w1 : World) (l10 : List Value) (Q : Value → World → Prop) : Prop := StoreOk w3 (nA w1) (Array.toList l10.toArray) ∧ Array.size l10.toArray = 23 ∧ Nx (setCells w3 (nA w1) 0 (Array.toList l10.toArray)) fun w11 => ∃ l12 :
 List Value, rdCells w11 (nA w1) 0 23 = some l12 ∧ Q (.tuple #[.agg l12.toArray, .bool true]) w11
def T24 (s1 : Sl) (s : Sl) (w2 : World) (Q : Value → World → Prop) : Prop := ∃ s3 : Sl, ∃ w4 : World, Sem.run Tryz.prog (Builtin.append_ #[Ty.Sl_api_Backend, Ty.Sl_api_Backend] Ty.Sl_api_Backend #[.slice s1.a s1.len s1.cap, .slice s.a s.len
 s.cap]) w2 = .ok (.slice s3.a s3.len s3.cap) w4 ∧ Q (.slice s3.a s3.len s3.cap) w4
def T25 (w123 : World) (w : World) (l124 : List Value) (Q : Value → World → Prop) : Prop := StoreOk w123 (nA w) (Array.toList l124.toArray) ∧ Array.size l124.toArray = 51 ∧ Nx (setCells w123 (nA w) 0 (Array.toList l124.toArray)) fun w125 =>
 ∃ l126 : List Value, rdCells w125 (nA w) 0 51 = some l126 ∧ Q (.agg l126.toArray) w125
def T26 (w14 : World) (w : World) (l15 : List Value) (Q : Value → World → Prop) : Prop := StoreOk w14 (nA w) (Array.toList l15.toArray) ∧ Array.size l15.toArray = 17 ∧ Nx (setCells w14 (nA w) 0 (Array.toList l15.toArray)) fun w16 => ∃ l17 :
 List Value, rdCells w16 (nA w) 0 17 = some l17 ∧ Q (.agg l17.toArray) w16
def T27 (w2 : World) (w : World) (c4 : Array Value) (Q : Value → World → Prop) : Prop := StoreOk w2 (nA w) (Array.toList c4) ∧ Array.size c4 = 17 ∧ Nx (setCells w2 (nA w) 0 (Array.toList c4)) fun w5 => ∃ l6 : List Value, rdCells w5 (nA w) 0
 17 = some l6 ∧ Q (.tuple #[.agg l6.toArray, .bool true]) w5
end Go.Proofs.YtgljoledlhmhnaaGreatDoor
namespace Go.Proofs.YtgljoledlhmhnaaGreatDoor
open Go Gx
set_option maxRecDepth 100000
def W.strings_Count (s : ByteArray) (substr : ByteArray) (w : World) (Q : Value → World → Prop) : Prop := Br ((((ByteArray.size substr : Nat) : Int) : Int) == 0) (c1 F.unicode_utf8_RuneCountInString #[.string s] w fun n3 w1 => Q (.int .i64
 (wI (n3 + 1))) w1) (Br ((((ByteArray.size substr : Nat) : Int) : Int) == 1) ((0 : Int) ≤ 0 ∧ ∃ b4 : UInt8, byteAt substr (Int.toNat 0) = some b4 ∧ ∃ n5 : Int, ∃ w6 : World, Sem.run Tryz.prog (callFunc F.internal_bytealg_CountString
 #[.string s, .int .u8 ((b4.toNat : Nat) : Int)]) w = .ok (.value (.int .i64 n5)) w6 ∧ Q (.int .i64 n5) w6) (∃ (I7 : ByteArray → Int → World → Prop) (μ8 : ByteArray → Int → World → Nat), I7 s 0 w ∧ ∀ (s9 : ByteArray) (n10 : Int) (w11 :
 World), I7 s9 n10 w11 → c1 F.strings_Index #[.string s9, .string substr] w11 fun n14 w12 => Br (n14 == (-1)) (Q (.int .i64 n10) w12) (T20 n14 substr s9 I7 n10 w12 μ8 w11)))
def A.strings_Count : AT := (.s .r (.s a1 (.s a1 (.s .r (.blk (.loop [(0, .str), (5, (.int .i64))] [1] (.blk (.s .r (.s a1 (.s .r .r))))))))))
theorem W.strings_Count_ok (s : ByteArray) (substr : ByteArray) (w : World) (Q : Value → World → Prop) (h : W.strings_Count s substr w Q) : Ret Tryz.prog F.strings_Count #[.string s, .string substr] w Q := okF A.strings_Count Tryz.func38 (by kernel_rfl) (by kernel_rfl) h
def W.strings_Builder_WriteString (b : Option Addr) (s : ByteArray) (w : World) (Q : Value → World → Prop) : Prop := c2 F.strings_Builder_copyCheck #[.pointer b] w fun w1 => ∃ a3 : Addr, b = some a3 ∧ r1 w1 (a3.add 1) fun s4 => ∃ s5 : Sl, ∃
 w6 : World, Sem.run Tryz.prog (Builtin.append_ #[Ty.Sl_uint8, Ty.string] Ty.Sl_uint8 #[.slice s4.a s4.len s4.cap, .string s]) w1 = .ok (.slice s5.a s5.len s5.cap) w6 ∧ ∃ a7 : Addr, b = some a7 ∧ st w6 (a7.add 1) (.slice s5.a s5.len s5.cap)
 fun w8 => Q (.tuple #[.int .i64 ((ByteArray.size s : Nat) : Int), .nilIface]) w8
def A.strings_Builder_WriteString : AT := (.s .r a7)
theorem W.strings_Builder_WriteString_ok (b : Option Addr) (s : ByteArray) (w : World) (Q : Value → World → Prop) (h : W.strings_Builder_WriteString b s w Q) : Ret Tryz.prog F.strings_Builder_WriteString #[.pointer b, .string s] w Q := okF A.strings_Builder_WriteString Tryz.func40 (by kernel_rfl) (by kernel_rfl) h
def W.strings_Builder_String (b : Option Addr) (w : World) (Q : Value → World → Prop) : Prop := Nx (w.drew) fun w1 => ∃ W2 : Nat → Prop, ∃ a3 : Addr, b = some a3 ∧ ¬ W2 (a3.add 1).block ∧ r1 w1 (a3.add 1) fun s4 => ∃ a5 : Addr, b = some a5
 ∧ ¬ W2 (a5.add 1).block ∧ r1 w1 (a5.add 1) fun s6 => ∃ p7 : Option Addr, ∃ w8 : World, Sem.run Tryz.prog (Builtin.unsafeSliceData_ #[Ty.Sl_uint8] Ty.P_uint8 #[.slice s4.a s4.len s4.cap]) w1 = .ok (.pointer p7) w8 ∧ Chg W2 w1 w8 ∧ ∃ s9 :
 ByteArray, ∃ w10 : World, Sem.run Tryz.prog (Builtin.unsafeString_ #[Ty.P_uint8, Ty.int] Ty.string #[.pointer p7, .int .i64 (s6.len:Int)]) w8 = .ok (.string s9) w10 ∧ Q (.string s9) w10
def A.strings_Builder_String : AT := (.s .r (.s (.drw 10 true ⟨[0, 1, 2, 4, 8, 0, 32, 64, 128, 256, 528, 2047], [0, 1, 2, 4, 8, 0, 32, 64, 128, 256, 528, 1024]⟩ [8, 16, 32, 64, 128, 256, 512, 1024, 2048, 4096, 8192, 4] [1, 8, 16, 32, 64, 1,
 256, 512, 1024, 2048, 4224, 8192] (.take 0 (.take 1 (.take 2 (.take 3 (.take 5 (.take 6 (.take 7 (.take 8 (.take 9 (.eff 4 (.tail [.run, .run])))))))))))) .l))
theorem W.strings_Builder_String_ok (b : Option Addr) (w : World) (Q : Value → World → Prop) (h : W.strings_Builder_String b w Q) : Ret Tryz.prog F.strings_Builder_String #[.pointer b] w Q := okF A.strings_Builder_String Tryz.func41 (by kernel_rfl) (by kernel_rfl) h
def W.slices_EqualFunc_Sl_api_Service_Sl_api_Service_api_Service_a (v_s1 : Sl) (v_s2 : Sl) (eq : Fv) (w : World) (Q : Value → World → Prop) : Prop := Br ((v_s1.len:Int) != (v_s2.len:Int)) (Q (.bool false) w) (∃ (I1 : Int → World → Prop) (μ2
 : Int → World → Nat), I1 0 w ∧ ∀ (n3 : Int) (w4 : World), I1 n3 w4 → Br (decide (n3 < (v_s1.len:Int))) (ix v_s1 n3 w4 23 fun l6 => al w4 z1 l6 23 fun w8 => ix v_s2 n3 w8 23 fun l10 => al w8 z1 l10 23 fun w12 => ∃ l13 : List Value, rdCells
 w12 (nA w4) 0 23 = some l13 ∧ ∃ l14 : List Value, rdCells w12 (nA w8) 0 23 = some l14 ∧ Callable Tryz.prog eq.f ∧ Calls Tryz.prog eq.f (eq.pre ++ #[.agg l13.toArray, .agg l14.toArray] ++ eq.cap) w12 fun e16 w15 => ∃ b17 : Bool, e16 =
 .returned (.bool b17) ∧ Br (!b17) (Q (.bool false) w15) (I1 (wI (n3 + 1)) w15 ∧ μ2 (wI (n3 + 1)) w15 < μ2 n3 w4)) (Q (.bool true) w4))
def A.slices_EqualFunc_Sl_api_Service_Sl_api_Service_api_Service_a : AT := (.s .r (.s a1 (.s (.s .r (.blk (.loop [(17, (.int .i64))] [1, 2, 15, 16] a21))) (.s .r .l))))
theorem W.slices_EqualFunc_Sl_api_Service_Sl_api_Service_api_Service_a_ok (v_s1 : Sl) (v_s2 : Sl) (eq : Fv) (w : World) (Q : Value → World → Prop) (h : W.slices_EqualFunc_Sl_api_Service_Sl_api_Service_api_Service_a v_s1 v_s2 eq w Q) : Ret Tryz.prog F.slices_EqualFunc_Sl_api_Service_Sl_api_Service_api_Service_a #[.slice v_s1.a v_s1.len v_s1.cap, .slice v_s2.a v_s2.len v_s2.cap, .func (.func eq.f) eq.pre eq.cap] w Q := okF A.slices_EqualFunc_Sl_api_Service_Sl_api_Service_api_Service_a Tryz.func46 (by kernel_rfl) (by kernel_rfl) h
def W.slices_Equal_Sl_api_Backend_api_Backend (v_s1 : Sl) (v_s2 : Sl) (w : World) (Q : Value → World → Prop) : Prop := Br ((v_s1.len:Int) != (v_s2.len:Int)) (Q (.bool false) w) (∃ (I1 : Int → World → Prop) (μ2 : Int → World → Nat), I1 0 w ∧
 ∀ (n3 : Int) (w4 : World), I1 n3 w4 → Br (decide (n3 < (v_s1.len:Int))) (Nx (w4.drew) fun w5 => ∃ a6 : Addr, v_s1.a = some a6 ∧ bd n3 v_s1.len ∧ ¬ False ∧ ∃ l7 : List Value, rdCells w5 (a6.add (Int.toNat n3 * 21)) 0 21 = some l7 ∧ ∃ a8 :
 Addr, v_s2.a = some a8 ∧ bd n3 v_s2.len ∧ ¬ False ∧ ∃ l9 : List Value, rdCells w5 (a8.add (Int.toNat n3 * 21)) 0 21 = some l9 ∧ ∃ b10 : Bool, AggEq Tryz.prog Ty.api_Backend l7.toArray l9.toArray b10 ∧ Br (!b10) (Q (.bool false) w5) (I1 (wI
 (n3 + 1)) w5 ∧ μ2 (wI (n3 + 1)) w5 < μ2 n3 w4)) (Q (.bool true) w4))
def A.slices_Equal_Sl_api_Backend_api_Backend : AT := (.s .r (.s a1 (.s (.s .r (.blk (.loop [(13, (.int .i64))] [0, 1, 12] (.s .r (.s (.c .l .l) (.s (.blk (.s .r (.s (.drw 8 false ⟨[0, 0, 3, 4, 0, 0, 48, 64, 136], [0, 0, 3, 4, 0, 0, 48, 64,
 136]⟩ [65536, 131072, 262144, 524288, 1048576, 2097152, 4194304, 8388608, 16777216] [1, 32, 196608, 262144, 2, 32, 3145728, 4194304, 8912896] (.take 0 (.take 1 (.take 2 (.take 3 (.take 4 (.take 5 (.take 6 (.take 7 (.tail [.run]))))))))))
 (.c (.s .r .l) .l)))) .r)))))) (.s .r .l))))
theorem W.slices_Equal_Sl_api_Backend_api_Backend_ok (v_s1 : Sl) (v_s2 : Sl) (w : World) (Q : Value → World → Prop) (h : W.slices_Equal_Sl_api_Backend_api_Backend v_s1 v_s2 w Q) : Ret Tryz.prog F.slices_Equal_Sl_api_Backend_api_Backend #[.slice v_s1.a v_s1.len v_s1.cap, .slice v_s2.a v_s2.len v_s2.cap] w Q := okF A.slices_Equal_Sl_api_Backend_api_Backend Tryz.func49 (by kernel_rfl) (by kernel_rfl) h
def W.strings_Join (elems : Sl) (sep : ByteArray) (w : World) (Q : Value → World → Prop) : Prop := Br ((elems.len:Int) == 0) (Q (.string (ByteArray.mk #[])) w) (Br ((elems.len:Int) == 1) (∃ a1 : Addr, elems.a = some a1 ∧ bd 0 elems.len ∧ r2
 w (a1.add (Int.toNat 0 * 1)) fun s2 => Q (.string s2) w) (Jn (fun k3 : Int → World → Prop => Br (decide ((((ByteArray.size sep : Nat) : Int) : Int) > 0)) (Jn (fun k4 : World → Prop => ((wI ((elems.len:Int) - 1)) : Int) ≠ 0 ∧ Br (decide
 ((((ByteArray.size sep : Nat) : Int) : Int) ≥ (wI (Int.tdiv mI (wI ((elems.len:Int) - 1)))))) (False) (k4 w)) (fun w5 => k3 (wI (0 + (wI (((ByteArray.size sep : Nat) : Int) * (wI ((elems.len:Int) - 1)))))) w5)) (k3 0 w)) (fun (n6 : Int) w7
 => ∃ (I8 : Int → Int → World → Prop) (μ9 : Int → Int → World → Nat), I8 n6 0 w7 ∧ ∀ (n10 : Int) (n11 : Int) (w12 : World), I8 n10 n11 w12 → Br (decide (n11 < (elems.len:Int))) (∃ a13 : Addr, elems.a = some a13 ∧ bd n11 elems.len ∧ r2 w12
 (a13.add (Int.toNat n11 * 1)) fun s14 => Jn (fun k15 : World → Prop => Br (decide ((((ByteArray.size s14 : Nat) : Int) : Int) > (wI (mI - n10)))) (False) (k15 w12)) (fun w16 => I8 (wI (n10 + ((ByteArray.size s14 : Nat) : Int))) (wI (n11 +
 1)) w16 ∧ μ9 (wI (n10 + ((ByteArray.size s14 : Nat) : Int))) (wI (n11 + 1)) w16 < μ9 n10 n11 w12)) (Nx (w12.alloc z2) fun w17 => c2 F.strings_Builder_Grow #[.pointer (some (nA w12)), .int .i64 n10] w17 fun w18 => ∃ a20 : Addr, elems.a =
 some a20 ∧ bd 0 elems.len ∧ r2 w18 (a20.add (Int.toNat 0 * 1)) fun s21 => c3 F.strings_Builder_WriteString #[.pointer (some (nA w12)), .string s21] w18 fun n24 v25 w22 => ((0 : Int) ≤ 1 ∧ 1 ≤ (elems.len:Int)) ∧ ∃ (I26 : Int → World → Prop)
 (μ27 : Int → World → Nat), I26 0 w22 ∧ ∀ (n28 : Int) (w29 : World), I26 n28 w29 → Br (decide (n28 < (((elems.len - (Int.toNat 1)) : Nat) : Int))) (∃ a30 : Addr, (cutA elems.a 1 (Int.toNat 1) elems.cap) = some a30 ∧ ((0 : Int) ≤ n28 ∧ n28 <
 (((elems.len - (Int.toNat 1)) : Nat) : Int)) ∧ r2 w29 (a30.add (Int.toNat n28 * 1)) fun s31 => c3 F.strings_Builder_WriteString #[.pointer (some (nA w12)), .string sep] w29 fun n34 v35 w32 => c3 F.strings_Builder_WriteString #[.pointer
 (some (nA w12)), .string s31] w32 fun n38 v39 w36 => I26 (wI (n28 + 1)) w36 ∧ μ27 (wI (n28 + 1)) w36 < μ27 n28 w29) (c4 F.strings_Builder_String #[.pointer (some (nA w12))] w29 fun s42 w40 => Q (.string s42) w40)))))
def A.strings_Join : AT := (.s .r (.s (.s .r (.blk a20)) (.s .r (.s (.jk [(5, (.int .i64))] [0, 1] (.s .r (.c (.s (.jk [] [0, 1, 5] (.s .r (.c .r .l))) .r) .l))) (.s (.s .r (.blk (.loop [(5, (.int .i64)), (41, (.int .i64))] [0, 1, 39, 40]
 (.s .r (.s (.c .l .l) (.s (.blk (.s .r (.s (.jk [] [0, 1, 5, 7, 39, 40, 41] (.s .r (.c .r .l))) .r))) .r)))))) (.s .r (.s .r (.s .r (.s (.s .r (.blk (.loop [(65, (.int .i64))] [1, 8, 63, 64] a5))) (.s .r .l))))))))))
theorem W.strings_Join_ok (elems : Sl) (sep : ByteArray) (w : World) (Q : Value → World → Prop) (h : W.strings_Join elems sep w Q) : Ret Tryz.prog F.strings_Join #[.slice elems.a elems.len elems.cap, .string sep] w Q := okF A.strings_Join Tryz.func56 (by kernel_rfl) (by kernel_rfl) h
def W.strings_Index (s : ByteArray) (substr : ByteArray) (w : World) (Q : Value → World → Prop) : Prop := c1 F.internal_stringslite_Index #[.string s, .string substr] w fun n3 w1 => Q (.int .i64 n3) w1
def A.strings_Index : AT := (.s .r (.s .r .l))
theorem W.strings_Index_ok (s : ByteArray) (substr : ByteArray) (w : World) (Q : Value → World → Prop) (h : W.strings_Index s substr w Q) : Ret Tryz.prog F.strings_Index #[.string s, .string substr] w Q := okF A.strings_Index Tryz.func63 (by kernel_rfl) (by kernel_rfl) h
def W.strings_Builder_copyCheck (b : Option Addr) (w : World) (Q : Value → World → Prop) : Prop := ∃ a1 : Addr, b = some a1 ∧ ∃ p2 : Option Addr, w.cell? a1 = some (.pointer p2) ∧ Br (Option.isNone p2) (∃ p3 : Option Addr, ∃ w4 : World,
 Sem.run Tryz.prog (convert Ty.P_strings_Builder Ty.unsafe_Pointer (.pointer b)) w = .ok (.pointer p3) w4 ∧ ∃ p5 : Option Addr, ∃ w6 : World, Sem.run Tryz.prog (callFunc F.internal_abi_NoEscape #[.pointer p3]) w4 = .ok (.value (.pointer p5))
 w6 ∧ ∃ p7 : Option Addr, ∃ w8 : World, Sem.run Tryz.prog (convert Ty.unsafe_Pointer Ty.P_strings_Builder (.pointer p5)) w6 = .ok (.pointer p7) w8 ∧ ∃ a9 : Addr, b = some a9 ∧ (∃ u : Value, w8.cell? a9 = some u) ∧ w8.frozen? a9 = false ∧ Nx
 (w8.setCell a9 (.pointer p7)) fun w10 => Q (.tuple #[]) w10) (∃ a11 : Addr, b = some a11 ∧ ∃ p12 : Option Addr, w.cell? a11 = some (.pointer p12) ∧ ∃ b13 : Bool, OpqEq Tryz.prog .neq Ty.P_strings_Builder (.tmp 17) (.tmp 18) (.pointer p12)
 (.pointer b) b13 ∧ Br b13 (False) (Q (.tuple #[]) w))
def A.strings_Builder_copyCheck : AT := (.s .r (.c .r (.s .r (.c .l .l))))
theorem W.strings_Builder_copyCheck_ok (b : Option Addr) (w : World) (Q : Value → World → Prop) (h : W.strings_Builder_copyCheck b w Q) : Ret Tryz.prog F.strings_Builder_copyCheck #[.pointer b] w Q := okF A.strings_Builder_copyCheck Tryz.func65 (by kernel_rfl) (by kernel_rfl) h
def W.strings_Builder_Grow (b : Option Addr) (n : Int) (w : World) (Q : Value → World → Prop) : Prop := c2 F.strings_Builder_copyCheck #[.pointer b] w fun w1 => Jn (fun k3 : World → Prop => Br (decide (n < 0)) (False) (k3 w1)) (fun w4 => Nx
 (w4.drew) fun w5 => ∃ a6 : Addr, b = some a6 ∧ ¬ False ∧ r1 w5 (a6.add 1) fun s7 => ∃ a8 : Addr, b = some a8 ∧ ¬ False ∧ r1 w5 (a8.add 1) fun s9 => Br (decide (((wI (((s7.cap : Nat) : Int) - (s9.len:Int))) : Int) < n)) (c2
 F.strings_Builder_grow #[.pointer b, .int .i64 n] w5 fun w10 => Q (.tuple #[]) w10) (Q (.tuple #[]) w5))
def A.strings_Builder_Grow : AT := (.s .r (.s (.jk [] [0, 1] (.s .r (.c .r .l))) (.s (.drw 12 false ⟨[0, 1, 2, 4, 8, 0, 32, 64, 128, 256, 528, 0, 3072], [0, 1, 2, 4, 8, 0, 32, 64, 128, 256, 528, 0, 3072]⟩ [512, 1024, 2048, 4096, 8192,
 16384, 32768, 65536, 131072, 262144, 524288, 1048576, 2097152] [1, 512, 1024, 2048, 4096, 1, 16384, 32768, 65536, 131072, 270336, 2, 1572864] (.take 0 (.take 1 (.take 2 (.take 3 (.take 4 (.take 5 (.take 6 (.take 7 (.take 8 (.take 9 (.take
 10 (.take 11 (.tail [.run])))))))))))))) (.c .r .l))))
theorem W.strings_Builder_Grow_ok (b : Option Addr) (n : Int) (w : World) (Q : Value → World → Prop) (h : W.strings_Builder_Grow b n w Q) : Ret Tryz.prog F.strings_Builder_Grow #[.pointer b, .int .i64 n] w Q := okF A.strings_Builder_Grow Tryz.func75 (by kernel_rfl) (by kernel_rfl) h
def W.strings_Split (s : ByteArray) (sep : ByteArray) (w : World) (Q : Value → World → Prop) : Prop := c5 F.strings_genSplit #[.string s, .string sep, .int .i64 0, .int .i64 (-1)] w fun s3 w1 => Q (.slice s3.a s3.len s3.cap) w1
def A.strings_Split : AT := (.s .r (.s .r .l))
theorem W.strings_Split_ok (s : ByteArray) (sep : ByteArray) (w : World) (Q : Value → World → Prop) (h : W.strings_Split s sep w Q) : Ret Tryz.prog F.strings_Split #[.string s, .string sep] w Q := okF A.strings_Split Tryz.func83 (by kernel_rfl) (by kernel_rfl) h
def W.internal_stringslite_Index (s : ByteArray) (substr : ByteArray) (w : World) (Q : Value → World → Prop) : Prop := Br (((((ByteArray.size substr : Nat) : Int) : Int) == 0) || (ByteArray.toList substr == ByteArray.toList s)) (Q (.int
 .i64 0) w) (Br ((((ByteArray.size substr : Nat) : Int) : Int) == 1) ((0 : Int) ≤ 0 ∧ ∃ b1 : UInt8, byteAt substr (Int.toNat 0) = some b1 ∧ c1 F.internal_stringslite_IndexByte #[.string s, .int .u8 ((b1.toNat : Nat) : Int)] w fun n4 w2 => Q
 (.int .i64 n4) w2) (Br (decide ((((ByteArray.size substr : Nat) : Int) : Int) ≥ ((ByteArray.size s : Nat) : Int))) (Q (.int .i64 (-1)) w) (r3 w ⟨0, 0, none⟩ fun n5 => Br ((decide ((((ByteArray.size substr : Nat) : Int) : Int) ≤ n5)) &&
 (decide ((((ByteArray.size s : Nat) : Int) : Int) ≤ 64))) (∃ n6 : Int, ∃ w7 : World, Sem.run Tryz.prog (callFunc F.internal_bytealg_IndexString #[.string s, .string substr]) w = .ok (.value (.int .i64 n6)) w7 ∧ Q (.int .i64 n6) w7) ((0 :
 Int) ≤ 0 ∧ ∃ b8 : UInt8, byteAt substr (Int.toNat 0) = some b8 ∧ (0 : Int) ≤ 1 ∧ ∃ b9 : UInt8, byteAt substr (Int.toNat 1) = some b9 ∧ ∃ (I10 : Int → Int → World → Prop) (μ11 : Int → Int → World → Nat), I10 0 0 w ∧ ∀ (n12 : Int) (n13 : Int)
 (w14 : World), I10 n12 n13 w14 → Br (decide (n12 < (wI ((wI (((ByteArray.size s : Nat) : Int) - ((ByteArray.size substr : Nat) : Int))) + 1)))) (Jn (fun k15 : Int → World → Prop => (0 : Int) ≤ n12 ∧ ∃ b16 : UInt8, byteAt s (Int.toNat n12) =
 some b16 ∧ Br ((((b16.toNat : Nat) : Int) : Int) != ((b8.toNat : Nat) : Int)) (((0 : Int) ≤ (wI ((wI (((ByteArray.size s : Nat) : Int) - ((ByteArray.size substr : Nat) : Int))) + 1)) ∧ (wI ((wI (((ByteArray.size s : Nat) : Int) -
 ((ByteArray.size substr : Nat) : Int))) + 1)) ≤ (((ByteArray.size s) : Nat) : Int)) ∧ ((0 : Int) ≤ (wI (n12 + 1)) ∧ (wI (n12 + 1)) ≤ (((Int.toNat (wI ((wI (((ByteArray.size s : Nat) : Int) - ((ByteArray.size substr : Nat) : Int))) + 1))) :
 Nat) : Int)) ∧ c1 F.internal_stringslite_IndexByte #[.string (ByteArray.extract s (Int.toNat (wI (n12 + 1))) (Int.toNat (wI ((wI (((ByteArray.size s : Nat) : Int) - ((ByteArray.size substr : Nat) : Int))) + 1)))) , .int .u8 ((b8.toNat :
 Nat) : Int)] w14 fun n19 w17 => Br (decide (n19 < 0)) (Q (.int .i64 (-1)) w17) (k15 (wI (n12 + (wI (n19 + 1)))) w17)) (k15 n12 w14)) (fun (n20 : Int) w21 => (0 : Int) ≤ (wI (n20 + 1)) ∧ ∃ b22 : UInt8, byteAt s (Int.toNat (wI (n20 + 1))) =
 some b22 ∧ Jn (fun k23 : Bool → World → Prop => Br ((((b22.toNat : Nat) : Int) : Int) == ((b9.toNat : Nat) : Int)) (((0 : Int) ≤ (wI (n20 + ((ByteArray.size substr : Nat) : Int))) ∧ (wI (n20 + ((ByteArray.size substr : Nat) : Int))) ≤
 (((ByteArray.size s) : Nat) : Int)) ∧ ((0 : Int) ≤ n20 ∧ n20 ≤ (((Int.toNat (wI (n20 + ((ByteArray.size substr : Nat) : Int)))) : Nat) : Int)) ∧ k23 (ByteArray.toList (ByteArray.extract s (Int.toNat n20) (Int.toNat (wI (n20 +
 ((ByteArray.size substr : Nat) : Int))))) == ByteArray.toList substr) w21) (k23 false w21)) (fun (b24 : Bool) w25 => Br b24 (Q (.int .i64 n20) w25) (r3 w25 ⟨0, 0, none⟩ fun n26 => Jn (fun k27 : Bool → World → Prop => Br (decide
 ((((ByteArray.size substr : Nat) : Int) : Int) ≤ n26)) (c1 F.internal_bytealg_Cutover #[.int .i64 (wI (n20 + 1))] w25 fun n30 w28 => k27 (decide (((wI (n13 + 1)) : Int) > n30)) w28) (k27 false w25)) (fun (b31 : Bool) w32 => Br b31 (((0 :
 Int) ≤ (wI (n20 + 1)) ∧ (wI (n20 + 1)) ≤ (((ByteArray.size s) : Nat) : Int)) ∧ ∃ n33 : Int, ∃ w34 : World, Sem.run Tryz.prog (callFunc F.internal_bytealg_IndexString #[.string (ByteArray.extract s (Int.toNat (wI (n20 + 1))) (ByteArray.size
 s)), .string substr]) w32 = .ok (.value (.int .i64 n33)) w34 ∧ Br (decide (n33 ≥ 0)) (Q (.int .i64 (wI (n33 + (wI (n20 + 1))))) w34) (Q (.int .i64 (-1)) w34)) (r3 w32 ⟨0, 0, none⟩ fun n35 => Jn (fun k36 : Bool → World → Prop => Br (decide
 ((((ByteArray.size substr : Nat) : Int) : Int) > n35)) ((0 : Int) ≤ 4 ∧ k36 (decide (((wI (n13 + 1)) : Int) ≥ (wI (4 + (Int.fdiv (wI (n20 + 1)) (2 ^ (min (Int.toNat 4) 64))))))) w32) (k36 false w32)) (fun (b37 : Bool) w38 => Br (b37 &&
 (decide (((wI (n20 + 1)) : Int) < (wI ((wI (((ByteArray.size s : Nat) : Int) - ((ByteArray.size substr : Nat) : Int))) + 1))))) (((0 : Int) ≤ (wI (n20 + 1)) ∧ (wI (n20 + 1)) ≤ (((ByteArray.size s) : Nat) : Int)) ∧ c1
 F.internal_bytealg_IndexRabinKarp_string #[.string (ByteArray.extract s (Int.toNat (wI (n20 + 1))) (ByteArray.size s)), .string substr] w38 fun n41 w39 => Br (decide (n41 < 0)) (Q (.int .i64 (-1)) w39) (Q (.int .i64 (wI ((wI (n20 + 1)) +
 n41))) w39)) (I10 (wI (n20 + 1)) (wI (n13 + 1)) w38 ∧ μ11 (wI (n20 + 1)) (wI (n13 + 1)) w38 < μ11 n12 n13 w14)))))))) (Q (.int .i64 (-1)) w14)))))
def A.internal_stringslite_Index : AT := (.s .r (.s .r (.s (.blk (.s (.reg [.run, .run, .run, .pure 3]) (.c (.s .r .l) (.s .r (.c (.s .r .l) (.s .r (.c (.s .r .l) a15))))))) (.s .r (.s .r (.s .r (.s .r (.s .r (.s (.blk (.loop [(8, (.int
 .i64)), (10, (.int .i64))] [0, 1, 5, 6, 7, 9] (.s (.s .r (.c .l .l)) (.blk (.s (.jk [(8, (.int .i64))] [0, 1, 5, 6, 7, 9, 10] (.s .r (.c (.s .r (.s a1 .r)) .l))) (.s (.s (.reg [.run, .run, .run, .run, .run, .run, .run, .split 8]) (.c (.s .r
 .l) .l)) (.s .r (.s .r (.s (.reg [.run, .run, .run, .run, .split 4]) (.c a17 (.s (.reg [.run, .run, .run, .run, .split 5, .run, .run, .run, .run, .run, .run, .pure 3]) (.c a17 .l)))))))))))) (.s .r .l))))))))))
theorem W.internal_stringslite_Index_ok (s : ByteArray) (substr : ByteArray) (w : World) (Q : Value → World → Prop) (h : W.internal_stringslite_Index s substr w Q) : Ret Tryz.prog F.internal_stringslite_Index #[.string s, .string substr] w Q := okF A.internal_stringslite_Index Tryz.func85 (by kernel_rfl) (by kernel_rfl) h
def W.slices_IndexFunc_Sl_api_Service_api_Service (s : Sl) (f : Fv) (w : World) (Q : Value → World → Prop) : Prop := ∃ (I1 : Int → World → Prop) (μ2 : Int → World → Nat), I1 0 w ∧ ∀ (n3 : Int) (w4 : World), I1 n3 w4 → Br (decide (n3 <
 (s.len:Int))) (ix s n3 w4 23 fun l6 => Callable Tryz.prog f.f ∧ Calls Tryz.prog f.f (f.pre ++ #[.agg l6.toArray] ++ f.cap) w4 fun e8 w7 => ∃ b9 : Bool, e8 = .returned (.bool b9) ∧ Br b9 (Q (.int .i64 n3) w7) (I1 (wI (n3 + 1)) w7 ∧ μ2 (wI
 (n3 + 1)) w7 < μ2 n3 w4)) (Q (.int .i64 (-1)) w4)
def A.slices_IndexFunc_Sl_api_Service_api_Service : AT := a19
theorem W.slices_IndexFunc_Sl_api_Service_api_Service_ok (s : Sl) (f : Fv) (w : World) (Q : Value → World → Prop) (h : W.slices_IndexFunc_Sl_api_Service_api_Service s f w Q) : Ret Tryz.prog F.slices_IndexFunc_Sl_api_Service_api_Service #[.slice s.a s.len s.cap, .func (.func f.f) f.pre f.cap] w Q := okF A.slices_IndexFunc_Sl_api_Service_api_Service Tryz.func87 (by kernel_rfl) (by kernel_rfl) h
def W.maps_Keys_map_int_P_api_Service_int_P_api_Service (m : Option Nat) (w : World) (Q : Value → World → Prop) : Prop := Nx (w.alloc (.cells #[.map m] Ty.map_int_P_api_Service)) fun w1 => Q (.func (.func
 F.maps_Keys_map_int_P_api_Service_int_P_api_Service_1) #[] #[.pointer (some (nA w))]) w1
def A.maps_Keys_map_int_P_api_Service_int_P_api_Service : AT := (.s .r (.s .r .l))
theorem W.maps_Keys_map_int_P_api_Service_int_P_api_Service_ok (m : Option Nat) (w : World) (Q : Value → World → Prop) (h : W.maps_Keys_map_int_P_api_Service_int_P_api_Service m w Q) : Ret Tryz.prog F.maps_Keys_map_int_P_api_Service_int_P_api_Service #[.map m] w Q := okF A.maps_Keys_map_int_P_api_Service_int_P_api_Service Tryz.func99 (by kernel_rfl) (by kernel_rfl) h
def W.slices_Clone_Sl_api_Backend_api_Backend (s : Sl) (w : World) (Q : Value → World → Prop) : Prop := Br (Option.isNone s.a) (Q (.slice none 0 0) w) (∃ s1 : Sl, ∃ w2 : World, Sem.run Tryz.prog (Instr.buildSlice Ty.Sl_api_Backend 0 #[]) w
 = .ok (.slice s1.a s1.len s1.cap) w2 ∧ T24 s1 s w2 Q)
def A.slices_Clone_Sl_api_Backend_api_Backend : AT := a17
theorem W.slices_Clone_Sl_api_Backend_api_Backend_ok (s : Sl) (w : World) (Q : Value → World → Prop) (h : W.slices_Clone_Sl_api_Backend_api_Backend s w Q) : Ret Tryz.prog F.slices_Clone_Sl_api_Backend_api_Backend #[.slice s.a s.len s.cap] w Q := okF A.slices_Clone_Sl_api_Backend_api_Backend Tryz.func100 (by kernel_rfl) (by kernel_rfl) h
def W.strings_Builder_grow (b : Option Addr) (n : Int) (w : World) (Q : Value → World → Prop) : Prop := Nx (w.drew) fun w1 => ∃ W2 : Nat → Prop, ∃ a3 : Addr, b = some a3 ∧ ¬ W2 (a3.add 1).block ∧ r1 w1 (a3.add 1) fun s4 => ∃ a5 : Addr, b =
 some a5 ∧ ¬ W2 (a5.add 1).block ∧ r1 w1 (a5.add 1) fun s6 => ∃ s7 : Sl, ∃ w8 : World, Sem.run Tryz.prog (callFunc F.internal_bytealg_MakeNoZero #[.int .i64 (wI ((wI (2 * ((s4.cap : Nat) : Int))) + n))]) w1 = .ok (.value (.slice s7.a s7.len
 s7.cap)) w8 ∧ Chg W2 w1 w8 ∧ ((0 : Int) ≤ (s6.len:Int) ∧ (s6.len:Int) ≤ ((s7.cap : Nat) : Int)) ∧ ∃ a9 : Addr, b = some a9 ∧ r1 w8 (a9.add 1) fun s10 => ∃ n11 : Int, ∃ w12 : World, Sem.run Tryz.prog (Builtin.copy_ #[Ty.Sl_uint8,
 Ty.Sl_uint8] Ty.int #[.slice (cutA s7.a 1 0 s7.cap) ((Int.toNat (s6.len:Int)) - 0) (s7.cap - 0), .slice s10.a s10.len s10.cap]) w8 = .ok (.int .i64 n11) w12 ∧ ∃ a13 : Addr, b = some a13 ∧ st w12 (a13.add 1) (.slice (cutA s7.a 1 0 s7.cap)
 ((Int.toNat (s6.len:Int)) - 0) (s7.cap - 0)) fun w14 => Q (.tuple #[]) w14
def A.strings_Builder_grow : AT := (.s (.drw 14 true ⟨[0, 1, 2, 4, 8, 16, 0, 96, 128, 0, 512, 1024, 2048, 4096, 8448, 32767], [0, 1, 2, 4, 8, 16, 0, 96, 128, 0, 512, 1024, 2048, 4096, 8448, 16384]⟩ [32, 64, 128, 256, 512, 1024, 2048, 4096,
 8192, 16384, 32768, 65536, 131072, 262144, 524288, 16] [1, 32, 64, 128, 256, 512, 2, 3072, 4096, 1, 16384, 32768, 65536, 131072, 270336, 524288] (.take 0 (.take 1 (.take 2 (.take 3 (.take 4 (.take 5 (.take 6 (.take 7 (.take 9 (.take 10
 (.take 11 (.take 12 (.take 13 (.eff 8 (.tail [.run, .run])))))))))))))))) (.s .r .r))
theorem W.strings_Builder_grow_ok (b : Option Addr) (n : Int) (w : World) (Q : Value → World → Prop) (h : W.strings_Builder_grow b n w Q) : Ret Tryz.prog F.strings_Builder_grow #[.pointer b, .int .i64 n] w Q := okF A.strings_Builder_grow Tryz.func101 (by kernel_rfl) (by kernel_rfl) h
def W.strings_Fields (s : ByteArray) (w : World) (Q : Value → World → Prop) : Prop := ∃ (I1 : Int → Int → Int → Int → World → Prop) (μ2 : Int → Int → Int → Int → World → Nat), I1 0 1 0 0 w ∧ ∀ (n3 : Int) (n4 : Int) (n5 : Int) (n6 : Int) (w7
 : World), I1 n3 n4 n5 n6 w7 → Br (decide (n6 < ((ByteArray.size s : Nat) : Int))) ((0 : Int) ≤ n6 ∧ ∃ b8 : UInt8, byteAt s (Int.toNat n6) = some b8 ∧ ((0 : Int) ≤ ((b8.toNat : Nat) : Int) ∧ ((b8.toNat : Nat) : Int) < ((256 : Nat) : Int)) ∧
 r4 w7 (Addr.add ⟨1, 0, none⟩ (Int.toNat ((b8.toNat : Nat) : Int) * 1)) fun n9 => I1 (wI (n3 + (bAnd .i64 n4 (bXor .i64 (-1) (wI n9))))) (wI n9) (bOr .u8 n5 ((b8.toNat : Nat) : Int)) (wI (n6 + 1)) w7 ∧ μ2 (wI (n3 + (bAnd .i64 n4 (bXor .i64
 (-1) (wI n9))))) (wI n9) (bOr .u8 n5 ((b8.toNat : Nat) : Int)) (wI (n6 + 1)) w7 < μ2 n3 n4 n5 n6 w7) (Br (decide (n5 ≥ 128)) (c5 F.strings_FieldsFunc #[.string s, .func (.func F.unicode_IsSpace) #[] #[]] w7 fun s12 w10 => Q (.slice s12.a
 s12.len s12.cap) w10) (((0 : Int) ≤ n3 ∧ n3 ≤ n3 ∧ n3 ≤ mI ∧ ((16 : Nat) : Int) * n3 ≤ 140737488355328) ∧ Nx (w7.alloc (.cells (zrow Tryz.prog Ty.string (Int.toNat n3)) Ty.string)) fun w13 => ∃ (I14 : Int → World → Prop) (μ15 : Int → World
 → Nat), I14 0 w13 ∧ ∀ (n16 : Int) (w17 : World), I14 n16 w17 → Jn (fun k18 : Bool → World → Prop => T19 n16 s w17 k18) (fun (b21 : Bool) w22 => Br b21 (I14 (wI (n16 + 1)) w22 ∧ μ15 (wI (n16 + 1)) w22 < μ15 n16 w17) (∃ (I23 : Int → Int → Int
 → World → Prop) (μ24 : Int → Int → Int → World → Nat), I23 0 n16 n16 w22 ∧ ∀ (n25 : Int) (n26 : Int) (n27 : Int) (w28 : World), I23 n25 n26 n27 w28 → Br (decide (n27 < ((ByteArray.size s : Nat) : Int))) ((0 : Int) ≤ n27 ∧ ∃ b29 : UInt8,
 byteAt s (Int.toNat n27) = some b29 ∧ ((0 : Int) ≤ ((b29.toNat : Nat) : Int) ∧ ((b29.toNat : Nat) : Int) < ((256 : Nat) : Int)) ∧ r4 w28 (Addr.add ⟨1, 0, none⟩ (Int.toNat ((b29.toNat : Nat) : Int) * 1)) fun n30 => Br (n30 == 0) (I23 n25 n26
 (wI (n27 + 1)) w28 ∧ μ24 n25 n26 (wI (n27 + 1)) w28 < μ24 n25 n26 n27 w28) (((0 : Int) ≤ n27 ∧ n27 ≤ (((ByteArray.size s) : Nat) : Int)) ∧ ((0 : Int) ≤ n26 ∧ n26 ≤ (((Int.toNat n27) : Nat) : Int)) ∧ ∃ a31 : Addr, (some (nA w7)) = some a31 ∧
 ((0 : Int) ≤ n25 ∧ n25 < (((Int.toNat n3) : Nat) : Int)) ∧ st w28 (a31.add (Int.toNat n25 * 1)) (.string (ByteArray.extract s (Int.toNat n26) (Int.toNat n27))) fun w32 => ∃ (I33 : Int → World → Prop) (μ34 : Int → World → Nat), I33 (wI (n27
 + 1)) w32 ∧ ∀ (n35 : Int) (w36 : World), I33 n35 w36 → Jn (fun k37 : Bool → World → Prop => T19 n35 s w36 k37) (fun (b40 : Bool) w41 => Br b40 (I33 (wI (n35 + 1)) w41 ∧ μ34 (wI (n35 + 1)) w41 < μ34 n35 w36) (I23 (wI (n25 + 1)) n35 n35 w41 ∧
 μ24 (wI (n25 + 1)) n35 n35 w41 < μ24 n25 n26 n27 w28)))) (Jn (fun k42 : World → Prop => Br (decide (n26 < ((ByteArray.size s : Nat) : Int))) (((0 : Int) ≤ n26 ∧ n26 ≤ (((ByteArray.size s) : Nat) : Int)) ∧ ∃ a43 : Addr, (some (nA w7)) = some
 a43 ∧ ((0 : Int) ≤ n25 ∧ n25 < (((Int.toNat n3) : Nat) : Int)) ∧ st w28 (a43.add (Int.toNat n25 * 1)) (.string (ByteArray.extract s (Int.toNat n26) (ByteArray.size s))) fun w44 => k42 w44) (k42 w28)) (fun w45 => Q (.slice (some (nA w7))
 (Int.toNat n3) (Int.toNat n3)) w45))))))
def A.strings_Fields : AT := (.s .r (.s .r (.s .r (.s .r (.s (.s .r (.blk (.loop [(3, (.int .i64)), (4, (.int .i64)), (5, (.int .u8)), (6, (.int .i64))] [0] (.s (.s .r (.c .l .l)) (.s (.blk (.s .r (.s .r (.s .r (.s .r .r))))) .r))))) (.s a1
 (.s .r (.s .r (.s .r (.s .r (.s a9 (.s .r (.s (.blk (.loop [(10, (.int .i64)), (11, (.int .i64)), (12, (.int .i64))] [0, 9] (.s (.s .r (.c .l .l)) (.blk (.s a1 (.s .r (.s .r (.s .r (.s a9 .r))))))))) (.s (.jk [] [9] (.s .r (.c .r .l))) (.s
 .r .l)))))))))))))))
theorem W.strings_Fields_ok (s : ByteArray) (w : World) (Q : Value → World → Prop) (h : W.strings_Fields s w Q) : Ret Tryz.prog F.strings_Fields #[.string s] w Q := okF A.strings_Fields Tryz.func102 (by kernel_rfl) (by kernel_rfl) h
def W.strings_Builder_WriteByte (b : Option Addr) (c : Int) (w : World) (Q : Value → World → Prop) : Prop := c2 F.strings_Builder_copyCheck #[.pointer b] w fun w1 => ∃ a3 : Addr, b = some a3 ∧ r1 w1 (a3.add 1) fun s4 => Nx (w1.alloc (.cells
 #[.int .u8 c] Ty.uint8)) fun w5 => ∃ s6 : Sl, ∃ w7 : World, Sem.run Tryz.prog (Builtin.append_ #[Ty.Sl_uint8, Ty.Sl_uint8] Ty.Sl_uint8 #[.slice s4.a s4.len s4.cap, .slice (some (nA w1)) 1 1]) w5 = .ok (.slice s6.a s6.len s6.cap) w7 ∧ ∃ a8 :
 Addr, b = some a8 ∧ st w7 (a8.add 1) (.slice s6.a s6.len s6.cap) fun w9 => Q (.nilIface) w9
def A.strings_Builder_WriteByte : AT := (.s .r a7)
theorem W.strings_Builder_WriteByte_ok (b : Option Addr) (c : Int) (w : World) (Q : Value → World → Prop) (h : W.strings_Builder_WriteByte b c w Q) : Ret Tryz.prog F.strings_Builder_WriteByte #[.pointer b, .int .u8 c] w Q := okF A.strings_Builder_WriteByte Tryz.func103 (by kernel_rfl) (by kernel_rfl) h
def W.strconv_FormatUint (i : Int) (base : Int) (w : World) (Q : Value → World → Prop) : Prop := c4 F.internal_strconv_FormatUint #[.int .u64 i, .int .i64 base] w fun s3 w1 => Q (.string s3) w1
def A.strconv_FormatUint : AT := (.s .r (.s .r .l))
theorem W.strconv_FormatUint_ok (i : Int) (base : Int) (w : World) (Q : Value → World → Prop) (h : W.strconv_FormatUint i base w Q) : Ret Tryz.prog F.strconv_FormatUint #[.int .u64 i, .int .i64 base] w Q := okF A.strconv_FormatUint Tryz.func104 (by kernel_rfl) (by kernel_rfl) h
def W.strconv_Itoa (i : Int) (w : World) (Q : Value → World → Prop) : Prop := c4 F.internal_strconv_Itoa #[.int .i64 i] w fun s3 w1 => Q (.string s3) w1
def A.strconv_Itoa : AT := (.s .r (.s .r .l))
theorem W.strconv_Itoa_ok (i : Int) (w : World) (Q : Value → World → Prop) (h : W.strconv_Itoa i w Q) : Ret Tryz.prog F.strconv_Itoa #[.int .i64 i] w Q := okF A.strconv_Itoa Tryz.func105 (by kernel_rfl) (by kernel_rfl) h
def W.strings_genSplit (s : ByteArray) (sep : ByteArray) (sepSave : Int) (n : Int) (w : World) (Q : Value → World → Prop) : Prop := Br (n == 0) (Q (.slice none 0 0) w) (Br (ByteArray.toList sep == ByteArray.toList (ByteArray.mk #[])) (c5
 F.strings_explode #[.string s, .int .i64 n] w fun s3 w1 => Q (.slice s3.a s3.len s3.cap) w1) (Jn (fun k4 : Int → World → Prop => Br (decide (n < 0)) (c1 F.strings_Count #[.string s, .string sep] w fun n7 w5 => k4 (wI (n7 + 1)) w5) (k4 n w))
 (fun (n8 : Int) w9 => ∃ n10 : Int, ∃ w11 : World, Sem.run Tryz.prog (Builtin.min_ #[Ty.int, Ty.int] Ty.int #[.int .i64 n8, .int .i64 (wI (((ByteArray.size s : Nat) : Int) + 1))]) w9 = .ok (.int .i64 n10) w11 ∧ ((0 : Int) ≤ n10 ∧ n10 ≤ n10 ∧
 n10 ≤ mI ∧ ((16 : Nat) : Int) * n10 ≤ 140737488355328) ∧ Nx (w11.alloc (.cells (zrow Tryz.prog Ty.string (Int.toNat n10)) Ty.string)) fun w12 => Jn (fun k13 : ByteArray → Int → World → Prop => ∃ (I14 : ByteArray → Int → World → Prop) (μ15 :
 ByteArray → Int → World → Nat), I14 s 0 w12 ∧ ∀ (s16 : ByteArray) (n17 : Int) (w18 : World), I14 s16 n17 w18 → Br (decide (n17 < (wI (n10 - 1)))) (c1 F.strings_Index #[.string s16, .string sep] w18 fun n21 w19 => Br (decide (n21 < 0)) (k13
 s16 n17 w19) (((0 : Int) ≤ (wI (n21 + sepSave)) ∧ (wI (n21 + sepSave)) ≤ (((ByteArray.size s16) : Nat) : Int)) ∧ ∃ a22 : Addr, (some (nA w11)) = some a22 ∧ ((0 : Int) ≤ n17 ∧ n17 < (((Int.toNat n10) : Nat) : Int)) ∧ st w19 (a22.add
 (Int.toNat n17 * 1)) (.string (ByteArray.extract s16 0 (Int.toNat (wI (n21 + sepSave))))) fun w23 => T20 n21 sep s16 I14 n17 w23 μ15 w18)) (k13 s16 n17 w18)) (fun (s24 : ByteArray) (n25 : Int) w26 => ∃ a27 : Addr, (some (nA w11)) = some a27
 ∧ ((0 : Int) ≤ n25 ∧ n25 < (((Int.toNat n10) : Nat) : Int)) ∧ st w26 (a27.add (Int.toNat n25 * 1)) (.string s24) fun w28 => ((0 : Int) ≤ (wI (n25 + 1)) ∧ (wI (n25 + 1)) ≤ (((Int.toNat n10) : Nat) : Int)) ∧ Q (.slice (cutA (some (nA w11)) 1
 0 (Int.toNat n10)) ((Int.toNat (wI (n25 + 1))) - 0) ((Int.toNat n10) - 0)) w28))))
def A.strings_genSplit : AT := (.s .r (.s a1 (.s a1 (.s (.jk [(3, (.int .i64))] [0, 1, 2] (.s .r (.c .r .l))) (.s .r (.s .r (.s .r (.s .r (.s (.jk [(0, .str), (10, (.int .i64))] [9] (.blk (.loop [(0, .str), (10, (.int .i64))] [1, 2, 3, 9]
 (.s (.s .r (.c .l .l)) (.blk (.s .r (.s (.s .r (.c .l .l)) (.s .r (.s .r .r))))))))) (.s .r (.s .r .l)))))))))))
theorem W.strings_genSplit_ok (s : ByteArray) (sep : ByteArray) (sepSave : Int) (n : Int) (w : World) (Q : Value → World → Prop) (h : W.strings_genSplit s sep sepSave n w Q) : Ret Tryz.prog F.strings_genSplit #[.string s, .string sep, .int .i64 sepSave, .int .i64 n] w Q := okF A.strings_genSplit Tryz.func107 (by kernel_rfl) (by kernel_rfl) h
def W.internal_stringslite_IndexByte (s : ByteArray) (c : Int) (w : World) (Q : Value → World → Prop) : Prop := ∃ n1 : Int, ∃ w2 : World, Sem.run Tryz.prog (callFunc F.internal_bytealg_IndexByteString #[.string s, .int .u8 c]) w = .ok
 (.value (.int .i64 n1)) w2 ∧ Q (.int .i64 n1) w2
def A.internal_stringslite_IndexByte : AT := (.s .r (.s .r .l))
theorem W.internal_stringslite_IndexByte_ok (s : ByteArray) (c : Int) (w : World) (Q : Value → World → Prop) (h : W.internal_stringslite_IndexByte s c w Q) : Ret Tryz.prog F.internal_stringslite_IndexByte #[.string s, .int .u8 c] w Q := okF A.internal_stringslite_IndexByte Tryz.func115 (by kernel_rfl) (by kernel_rfl) h
def W.slices_IndexFunc_Sl_api_Backend_api_Backend (s : Sl) (f : Fv) (w : World) (Q : Value → World → Prop) : Prop := ∃ (I1 : Int → World → Prop) (μ2 : Int → World → Nat), I1 0 w ∧ ∀ (n3 : Int) (w4 : World), I1 n3 w4 → Br (decide (n3 <
 (s.len:Int))) (ix s n3 w4 21 fun l6 => Callable Tryz.prog f.f ∧ Calls Tryz.prog f.f (f.pre ++ #[.agg l6.toArray] ++ f.cap) w4 fun e8 w7 => ∃ b9 : Bool, e8 = .returned (.bool b9) ∧ Br b9 (Q (.int .i64 n3) w7) (I1 (wI (n3 + 1)) w7 ∧ μ2 (wI
 (n3 + 1)) w7 < μ2 n3 w4)) (Q (.int .i64 (-1)) w4)
def A.slices_IndexFunc_Sl_api_Backend_api_Backend : AT := a19
theorem W.slices_IndexFunc_Sl_api_Backend_api_Backend_ok (s : Sl) (f : Fv) (w : World) (Q : Value → World → Prop) (h : W.slices_IndexFunc_Sl_api_Backend_api_Backend s f w Q) : Ret Tryz.prog F.slices_IndexFunc_Sl_api_Backend_api_Backend #[.slice s.a s.len s.cap, .func (.func f.f) f.pre f.cap] w Q := okF A.slices_IndexFunc_Sl_api_Backend_api_Backend Tryz.func119 (by kernel_rfl) (by kernel_rfl) h
def W.slices_Insert_Sl_api_Backend_api_Backend (s : Sl) (i : Int) (v : Sl) (w : World) (Q : Value → World → Prop) : Prop := ((0 : Int) ≤ i ∧ i ≤ (s.len:Int)) ∧ Br ((v.len:Int) == 0) (Q (.slice s.a s.len s.cap) w) (Br (i == (s.len:Int)) (T24
 s v w Q) (Br (decide (((wI ((s.len:Int) + (v.len:Int))) : Int) > ((s.cap : Nat) : Int))) (((0 : Int) ≤ i ∧ i ≤ ((s.cap : Nat) : Int)) ∧ ∃ s3 : Sl, ∃ w4 : World, Sem.run Tryz.prog (Builtin.append_ #[Ty.Sl_api_Backend, Ty.int]
 Ty.Sl_api_Backend #[.slice (cutA s.a 21 0 s.cap) ((Int.toNat i) - 0) (s.cap - 0), .int .i64 (wI ((wI ((s.len:Int) + (v.len:Int))) - i))]) w = .ok (.slice s3.a s3.len s3.cap) w4 ∧ ((0 : Int) ≤ i ∧ i ≤ (s3.len:Int)) ∧ ∃ n5 : Int, ∃ w6 :
 World, Sem.run Tryz.prog (Builtin.copy_ #[Ty.Sl_api_Backend, Ty.Sl_api_Backend] Ty.int #[.slice (cutA s3.a 21 (Int.toNat i) s3.cap) (s3.len - (Int.toNat i)) (s3.cap - (Int.toNat i)), .slice v.a v.len v.cap]) w4 = .ok (.int .i64 n5) w6 ∧ Nx
 (w6.drew) fun w7 => ((0 : Int) ≤ (wI (i + (v.len:Int))) ∧ (wI (i + (v.len:Int))) ≤ (s3.len:Int)) ∧ ((0 : Int) ≤ i ∧ i ≤ (s.len:Int)) ∧ ∃ n8 : Int, ∃ w9 : World, Sem.run Tryz.prog (Builtin.copy_ #[Ty.Sl_api_Backend, Ty.Sl_api_Backend] Ty.int
 #[.slice (cutA s3.a 21 (Int.toNat (wI (i + (v.len:Int)))) s3.cap) (s3.len - (Int.toNat (wI (i + (v.len:Int))))) (s3.cap - (Int.toNat (wI (i + (v.len:Int))))), .slice (cutA s.a 21 (Int.toNat i) s.cap) (s.len - (Int.toNat i)) (s.cap -
 (Int.toNat i))]) w7 = .ok (.int .i64 n8) w9 ∧ Q (.slice s3.a s3.len s3.cap) w9) (((0 : Int) ≤ (wI ((s.len:Int) + (v.len:Int))) ∧ (wI ((s.len:Int) + (v.len:Int))) ≤ ((s.cap : Nat) : Int)) ∧ ((0 : Int) ≤ (wI (i + (v.len:Int))) ∧ (wI (i +
 (v.len:Int))) ≤ ((((Int.toNat (wI ((s.len:Int) + (v.len:Int)))) - 0) : Nat) : Int)) ∧ ∃ b10 : Bool, ∃ w11 : World, Sem.run Tryz.prog (callFunc F.slices_overlaps_api_Backend #[.slice v.a v.len v.cap, .slice (cutA (cutA s.a 21 0 s.cap) 21
 (Int.toNat (wI (i + (v.len:Int)))) (s.cap - 0)) (((Int.toNat (wI ((s.len:Int) + (v.len:Int)))) - 0) - (Int.toNat (wI (i + (v.len:Int))))) ((s.cap - 0) - (Int.toNat (wI (i + (v.len:Int)))))]) w = .ok (.value (.bool b10)) w11 ∧ Br (!b10) (Nx
 (w11.drew) fun w12 => ((0 : Int) ≤ (wI (i + (v.len:Int))) ∧ (wI (i + (v.len:Int))) ≤ ((((Int.toNat (wI ((s.len:Int) + (v.len:Int)))) - 0) : Nat) : Int)) ∧ ((0 : Int) ≤ i ∧ i ≤ ((((Int.toNat (wI ((s.len:Int) + (v.len:Int)))) - 0) : Nat) :
 Int)) ∧ ∃ n13 : Int, ∃ w14 : World, Sem.run Tryz.prog (Builtin.copy_ #[Ty.Sl_api_Backend, Ty.Sl_api_Backend] Ty.int #[.slice (cutA (cutA s.a 21 0 s.cap) 21 (Int.toNat (wI (i + (v.len:Int)))) (s.cap - 0)) (((Int.toNat (wI ((s.len:Int) +
 (v.len:Int)))) - 0) - (Int.toNat (wI (i + (v.len:Int))))) ((s.cap - 0) - (Int.toNat (wI (i + (v.len:Int))))), .slice (cutA (cutA s.a 21 0 s.cap) 21 (Int.toNat i) (s.cap - 0)) (((Int.toNat (wI ((s.len:Int) + (v.len:Int)))) - 0) - (Int.toNat
 i)) ((s.cap - 0) - (Int.toNat i))]) w12 = .ok (.int .i64 n13) w14 ∧ ((0 : Int) ≤ i ∧ i ≤ ((((Int.toNat (wI ((s.len:Int) + (v.len:Int)))) - 0) : Nat) : Int)) ∧ ∃ n15 : Int, ∃ w16 : World, Sem.run Tryz.prog (Builtin.copy_ #[Ty.Sl_api_Backend,
 Ty.Sl_api_Backend] Ty.int #[.slice (cutA (cutA s.a 21 0 s.cap) 21 (Int.toNat i) (s.cap - 0)) (((Int.toNat (wI ((s.len:Int) + (v.len:Int)))) - 0) - (Int.toNat i)) ((s.cap - 0) - (Int.toNat i)), .slice v.a v.len v.cap]) w14 = .ok (.int .i64
 n15) w16 ∧ Q (.slice (cutA s.a 21 0 s.cap) ((Int.toNat (wI ((s.len:Int) + (v.len:Int)))) - 0) (s.cap - 0)) w16) (((0 : Int) ≤ (s.len:Int) ∧ (s.len:Int) ≤ ((((Int.toNat (wI ((s.len:Int) + (v.len:Int)))) - 0) : Nat) : Int)) ∧ ∃ n17 : Int, ∃
 w18 : World, Sem.run Tryz.prog (Builtin.copy_ #[Ty.Sl_api_Backend, Ty.Sl_api_Backend] Ty.int #[.slice (cutA (cutA s.a 21 0 s.cap) 21 (Int.toNat (s.len:Int)) (s.cap - 0)) (((Int.toNat (wI ((s.len:Int) + (v.len:Int)))) - 0) - (Int.toNat
 (s.len:Int))) ((s.cap - 0) - (Int.toNat (s.len:Int))), .slice v.a v.len v.cap]) w11 = .ok (.int .i64 n17) w18 ∧ ((0 : Int) ≤ i ∧ i ≤ ((((Int.toNat (wI ((s.len:Int) + (v.len:Int)))) - 0) : Nat) : Int)) ∧ c2 F.slices_rotateRight_api_Backend
 #[.slice (cutA (cutA s.a 21 0 s.cap) 21 (Int.toNat i) (s.cap - 0)) (((Int.toNat (wI ((s.len:Int) + (v.len:Int)))) - 0) - (Int.toNat i)) ((s.cap - 0) - (Int.toNat i)), .int .i64 (v.len:Int)] w18 fun w19 => Q (.slice (cutA s.a 21 0 s.cap)
 ((Int.toNat (wI ((s.len:Int) + (v.len:Int)))) - 0) (s.cap - 0)) w19))))
def A.slices_Insert_Sl_api_Backend_api_Backend : AT := (.s .r (.s .r (.s .r (.s a1 (.s .r (.s a1 (.s (.s .r (.c (.s .r (.s .r (.s (.drw 8 false ⟨[0, 0, 0, 6, 9, 0, 0, 96, 144], [0, 0, 0, 6, 9, 0, 0, 96, 144]⟩ [70368744177664,
 140737488355328, 281474976710656, 562949953421312, 1125899906842624, 2251799813685248, 4503599627370496, 9007199254740992, 18014398509481984] [512, 2, 128, 422212465065984, 633318697598976, 1, 2, 6755399441055744, 10133099161583616] (.take
 0 (.take 1 (.take 2 (.take 3 (.take 4 (.take 5 (.take 6 (.take 7 (.tail [.run])))))))))) (.s .r .l)))) .l)) (.s .r (.s (.s .r (.c (.s (.drw 8 false ⟨[0, 0, 0, 6, 9, 0, 0, 96, 144], [0, 0, 0, 6, 9, 0, 0, 96, 144]⟩ [590295810358705651712,
 1180591620717411303424, 2361183241434822606848, 4722366482869645213696, 9444732965739290427392, 18889465931478580854784, 37778931862957161709568, 75557863725914323419136, 151115727451828646838272] [1, 2, 128, 3541774862152233910272,
 5312662293228350865408, 1, 2, 56668397794435742564352, 85002596691653613846528] (.take 0 (.take 1 (.take 2 (.take 3 (.take 4 (.take 5 (.take 6 (.take 7 (.tail [.run])))))))))) (.s .r (.s .r .l))) .l)) a7)))))))))
theorem W.slices_Insert_Sl_api_Backend_api_Backend_ok (s : Sl) (i : Int) (v : Sl) (w : World) (Q : Value → World → Prop) (h : W.slices_Insert_Sl_api_Backend_api_Backend s i v w Q) : Ret Tryz.prog F.slices_Insert_Sl_api_Backend_api_Backend #[.slice s.a s.len s.cap, .int .i64 i, .slice v.a v.len v.cap] w Q := okF A.slices_Insert_Sl_api_Backend_api_Backend Tryz.func127 (by kernel_rfl) (by kernel_rfl) h
def W.slices_Delete_Sl_api_Backend_api_Backend (s : Sl) (i : Int) (j : Int) (w : World) (Q : Value → World → Prop) : Prop := ((0 : Int) ≤ (s.len:Int) ∧ (s.len:Int) ≤ ((s.cap : Nat) : Int)) ∧ ((0 : Int) ≤ j ∧ j ≤ (((Int.toNat (s.len:Int)) :
 Nat) : Int)) ∧ ((0 : Int) ≤ i ∧ i ≤ (((Int.toNat j) : Nat) : Int)) ∧ Br (i == j) (Q (.slice s.a s.len s.cap) w) (Nx (w.drew) fun w1 => ((0 : Int) ≤ i ∧ i ≤ ((s.cap : Nat) : Int)) ∧ ((0 : Int) ≤ j ∧ j ≤ (s.len:Int)) ∧ ∃ s2 : Sl, ∃ w3 :
 World, Sem.run Tryz.prog (Builtin.append_ #[Ty.Sl_api_Backend, Ty.Sl_api_Backend] Ty.Sl_api_Backend #[.slice (cutA s.a 21 0 s.cap) ((Int.toNat i) - 0) (s.cap - 0), .slice (cutA s.a 21 (Int.toNat j) s.cap) (s.len - (Int.toNat j)) (s.cap -
 (Int.toNat j))]) w1 = .ok (.slice s2.a s2.len s2.cap) w3 ∧ ((0 : Int) ≤ (s.len:Int) ∧ (s.len:Int) ≤ ((s2.cap : Nat) : Int)) ∧ ((0 : Int) ≤ (s2.len:Int) ∧ (s2.len:Int) ≤ (((Int.toNat (s.len:Int)) : Nat) : Int)) ∧ ∃ (r4 : Value) (w5 : World),
 Sem.run Tryz.prog (Builtin.clear_ #[Ty.Sl_api_Backend] Ty.t #[.slice (cutA s2.a 21 (Int.toNat (s2.len:Int)) s2.cap) ((Int.toNat (s.len:Int)) - (Int.toNat (s2.len:Int))) (s2.cap - (Int.toNat (s2.len:Int)))]) w3 = .ok r4 w5 ∧ Q (.slice s2.a
 s2.len s2.cap) w5)
def A.slices_Delete_Sl_api_Backend_api_Backend : AT := (.s .r (.s .r (.s a1 (.s .r (.s (.drw 6 false ⟨[0, 0, 3, 0, 0, 24, 36, 127], [0, 0, 3, 0, 0, 24, 36, 73]⟩ [1048576, 2097152, 4194304, 8388608, 16777216, 33554432, 67108864, 1] [1, 2,
 3145728, 1, 4, 25165824, 37748736, 67108864] (.take 0 (.take 1 (.take 2 (.take 3 (.take 4 (.take 5 (.tail [.run, .run])))))))) (.s .r (.s .r .l)))))))
theorem W.slices_Delete_Sl_api_Backend_api_Backend_ok (s : Sl) (i : Int) (j : Int) (w : World) (Q : Value → World → Prop) (h : W.slices_Delete_Sl_api_Backend_api_Backend s i j w Q) : Ret Tryz.prog F.slices_Delete_Sl_api_Backend_api_Backend #[.slice s.a s.len s.cap, .int .i64 i, .int .i64 j] w Q := okF A.slices_Delete_Sl_api_Backend_api_Backend Tryz.func129 (by kernel_rfl) (by kernel_rfl) h
def W.internal_strconv_FormatUint (i : Int) (base : Int) (w : World) (Q : Value → World → Prop) : Prop := Br (base == 10) (Br (decide (i < 100)) (c4 F.internal_strconv_small #[.int .i64 (wI i)] w fun s3 w1 => Q (.string s3) w1) (Nx (w.alloc
 z3) fun w4 => c1 F.internal_strconv_numDigits #[.int .u64 i] w4 fun n7 w5 => ((0 : Int) ≤ n7 ∧ n7 ≤ ((24 : Nat) : Int)) ∧ c2 F.internal_strconv_formatBase10 #[.slice (cutA (some (nA w)) 1 0 24) ((Int.toNat n7) - 0) (24 - 0), .int .u64 i] w5
 fun w8 => ((0 : Int) ≤ n7 ∧ n7 ≤ ((24 : Nat) : Int)) ∧ ∃ s10 : ByteArray, ∃ w11 : World, Sem.run Tryz.prog (convert Ty.Sl_uint8 Ty.string (.slice (cutA (some (nA w)) 1 0 24) ((Int.toNat n7) - 0) (24 - 0))) w8 = .ok (.string s10) w11 ∧ Q
 (.string s10) w11)) (c6 F.internal_strconv_formatBits #[.slice none 0 0, .int .u64 i, .int .i64 base, .bool false, .bool false] w fun s14 s15 w12 => Q (.string s15) w12)
def A.internal_strconv_FormatUint : AT := (.s .r (.s (.s .r (.c (.s a1 (.s .r a7)) .l)) (.s .r (.s .r .l))))
theorem W.internal_strconv_FormatUint_ok (i : Int) (base : Int) (w : World) (Q : Value → World → Prop) (h : W.internal_strconv_FormatUint i base w Q) : Ret Tryz.prog F.internal_strconv_FormatUint #[.int .u64 i, .int .i64 base] w Q := okF A.internal_strconv_FormatUint Tryz.func136 (by kernel_rfl) (by kernel_rfl) h
def W.internal_strconv_Itoa (i : Int) (w : World) (Q : Value → World → Prop) : Prop := c4 F.internal_strconv_FormatInt #[.int .i64 i, .int .i64 10] w fun s3 w1 => Q (.string s3) w1
def A.internal_strconv_Itoa : AT := (.s .r (.s .r .l))
theorem W.internal_strconv_Itoa_ok (i : Int) (w : World) (Q : Value → World → Prop) (h : W.internal_strconv_Itoa i w Q) : Ret Tryz.prog F.internal_strconv_Itoa #[.int .i64 i] w Q := okF A.internal_strconv_Itoa Tryz.func137 (by kernel_rfl) (by kernel_rfl) h
def W.strconv_ParseUint (s : ByteArray) (base : Int) (bitSize : Int) (w : World) (Q : Value → World → Prop) : Prop := c7 F.internal_strconv_ParseUint #[.string s, .int .i64 base, .int .i64 bitSize] w fun n3 v4 w1 => ∃ b5 : Bool, ifaceNil v4
 = some b5 ∧ Br (!b5) (c8 F.strconv_toError #[.string (ByteArray.mk #[80, 97, 114, 115, 101, 85, 105, 110, 116]), .string s, .int .i64 base, .int .i64 bitSize, v4] w1 fun v8 w6 => Q (.tuple #[.int .u64 n3, v8]) w6) (Q (.tuple #[.int .u64 n3,
 .nilIface]) w1)
def A.strconv_ParseUint : AT := (.s .r a17)
theorem W.strconv_ParseUint_ok (s : ByteArray) (base : Int) (bitSize : Int) (w : World) (Q : Value → World → Prop) (h : W.strconv_ParseUint s base bitSize w Q) : Ret Tryz.prog F.strconv_ParseUint #[.string s, .int .i64 base, .int .i64 bitSize] w Q := okF A.strconv_ParseUint Tryz.func142 (by kernel_rfl) (by kernel_rfl) h
def W.strconv_Atoi (s : ByteArray) (w : World) (Q : Value → World → Prop) : Prop := c3 F.internal_strconv_Atoi #[.string s] w fun n3 v4 w1 => ∃ b5 : Bool, ifaceNil v4 = some b5 ∧ Br (!b5) (c8 F.strconv_toError #[.string (ByteArray.mk #[65,
 116, 111, 105]), .string s, .int .i64 0, .int .i64 0, v4] w1 fun v8 w6 => Q (.tuple #[.int .i64 n3, v8]) w6) (Q (.tuple #[.int .i64 n3, .nilIface]) w1)
def A.strconv_Atoi : AT := (.s .r a17)
theorem W.strconv_Atoi_ok (s : ByteArray) (w : World) (Q : Value → World → Prop) (h : W.strconv_Atoi s w Q) : Ret Tryz.prog F.strconv_Atoi #[.string s] w Q := okF A.strconv_Atoi Tryz.func143 (by kernel_rfl) (by kernel_rfl) h
def W.slices_BinarySearchFunc_Sl_api_Backend_api_Backend_int (x : Sl) (target : Int) (cmp : Fv) (w : World) (Q : Value → World → Prop) : Prop := ∃ (I1 : Int → Int → World → Prop) (μ2 : Int → Int → World → Nat), I1 0 (x.len:Int) w ∧ ∀ (n3 :
 Int) (n4 : Int) (w5 : World), I1 n3 n4 w5 → Br (decide (n3 < n4)) ((0 : Int) ≤ 1 ∧ ∃ a6 : Addr, x.a = some a6 ∧ ((0 : Int) ≤ (wI (Int.fdiv (IntKind.wrap .u64 (wI (n3 + n4))) (2 ^ (min (Int.toNat 1) 64)))) ∧ (wI (Int.fdiv (IntKind.wrap .u64
 (wI (n3 + n4))) (2 ^ (min (Int.toNat 1) 64)))) < (x.len:Int)) ∧ ∃ l7 : List Value, rdCells w5 (a6.add (Int.toNat (wI (Int.fdiv (IntKind.wrap .u64 (wI (n3 + n4))) (2 ^ (min (Int.toNat 1) 64)))) * 21)) 0 21 = some l7 ∧ Callable Tryz.prog
 cmp.f ∧ Calls Tryz.prog cmp.f (cmp.pre ++ #[.agg l7.toArray, .int .i64 target] ++ cmp.cap) w5 fun e9 w8 => ∃ n10 : Int, e9 = .returned (.int .i64 n10) ∧ Br (decide (n10 < 0)) (I1 (wI ((wI (Int.fdiv (IntKind.wrap .u64 (wI (n3 + n4))) (2 ^
 (min (Int.toNat 1) 64)))) + 1)) n4 w8 ∧ μ2 (wI ((wI (Int.fdiv (IntKind.wrap .u64 (wI (n3 + n4))) (2 ^ (min (Int.toNat 1) 64)))) + 1)) n4 w8 < μ2 n3 n4 w5) (I1 n3 (wI (Int.fdiv (IntKind.wrap .u64 (wI (n3 + n4))) (2 ^ (min (Int.toNat 1)
 64)))) w8 ∧ μ2 n3 (wI (Int.fdiv (IntKind.wrap .u64 (wI (n3 + n4))) (2 ^ (min (Int.toNat 1) 64)))) w8 < μ2 n3 n4 w5)) (Jn (fun k11 : Bool → World → Prop => Br (decide (n3 < (x.len:Int))) (ix x n3 w5 21 fun l13 => Callable Tryz.prog cmp.f ∧
 Calls Tryz.prog cmp.f (cmp.pre ++ #[.agg l13.toArray, .int .i64 target] ++ cmp.cap) w5 fun e15 w14 => ∃ n16 : Int, e15 = .returned (.int .i64 n16) ∧ k11 (n16 == 0) w14) (k11 false w5)) (fun (b17 : Bool) w18 => Q (.tuple #[.int .i64 n3,
 .bool b17]) w18))
def A.slices_BinarySearchFunc_Sl_api_Backend_api_Backend_int : AT := (.s .r (.s .r (.s .r (.s (.blk (.loop [(9, (.int .i64)), (10, (.int .i64))] [0, 1, 2, 8] (.s (.s .r (.c .l .l)) (.blk (.s .r (.s .r (.c .r .r))))))) (.s (.reg [.run, .run,
 .run, .run, .run, .split 8]) .l)))))
theorem W.slices_BinarySearchFunc_Sl_api_Backend_api_Backend_int_ok (x : Sl) (target : Int) (cmp : Fv) (w : World) (Q : Value → World → Prop) (h : W.slices_BinarySearchFunc_Sl_api_Backend_api_Backend_int x target cmp w Q) : Ret Tryz.prog F.slices_BinarySearchFunc_Sl_api_Backend_api_Backend_int #[.slice x.a x.len x.cap, .int .i64 target, .func (.func cmp.f) cmp.pre cmp.cap] w Q := okF A.slices_BinarySearchFunc_Sl_api_Backend_api_Backend_int Tryz.func147 (by kernel_rfl) (by kernel_rfl) h
def W.cmp_Compare_int (x : Int) (y : Int) (w : World) (Q : Value → World → Prop) : Prop := c9 F.cmp_isNaN_int #[.int .i64 x] w fun b3 w1 => c9 F.cmp_isNaN_int #[.int .i64 y] w1 fun b6 w4 => Br b3 (Br b6 (Q (.int .i64 0) w4) (Q (.int .i64
 (-1)) w4)) (Br b6 (Q (.int .i64 1) w4) (Br (decide (x < y)) (Q (.int .i64 (-1)) w4) (Br (decide (x > y)) (Q (.int .i64 1) w4) (Q (.int .i64 0) w4))))
def A.cmp_Compare_int : AT := (.s .r (.s .r (.s .r (.s (.s .r (.c (.s a1 (.s .r .l)) .l)) (.s a1 (.s a1 (.s a1 (.s .r .l))))))))
theorem W.cmp_Compare_int_ok (x : Int) (y : Int) (w : World) (Q : Value → World → Prop) (h : W.cmp_Compare_int x y w Q) : Ret Tryz.prog F.cmp_Compare_int #[.int .i64 x, .int .i64 y] w Q := okF A.cmp_Compare_int Tryz.func149 (by kernel_rfl) (by kernel_rfl) h
end Go.Proofs.YtgljoledlhmhnaaGreatDoor
namespace Go.Proofs.YtgljoledlhmhnaaGreatDoor
open Go Gx
set_option maxRecDepth 100000
def W.internal_strconv_small (i : Int) (w : World) (Q : Value → World → Prop) : Prop := Br (decide (i < 10)) (((0 : Int) ≤ (wI (i + 1)) ∧ (wI (i + 1)) ≤ (((ByteArray.size (ByteArray.mk #[48, 49, 50, 51, 52, 53, 54, 55, 56, 57, 97, 98, 99,
 100, 101, 102, 103, 104, 105, 106, 107, 108, 109, 110, 111, 112, 113, 114, 115, 116, 117, 118, 119, 120, 121, 122])) : Nat) : Int)) ∧ ((0 : Int) ≤ i ∧ i ≤ (((Int.toNat (wI (i + 1))) : Nat) : Int)) ∧ Q (.string (ByteArray.extract
 (ByteArray.mk #[48, 49, 50, 51, 52, 53, 54, 55, 56, 57, 97, 98, 99, 100, 101, 102, 103, 104, 105, 106, 107, 108, 109, 110, 111, 112, 113, 114, 115, 116, 117, 118, 119, 120, 121, 122]) (Int.toNat i) (Int.toNat (wI (i + 1))))) w) (((0 : Int)
 ≤ (wI ((wI (i * 2)) + 2)) ∧ (wI ((wI (i * 2)) + 2)) ≤ (((ByteArray.size (ByteArray.mk #[48, 48, 48, 49, 48, 50, 48, 51, 48, 52, 48, 53, 48, 54, 48, 55, 48, 56, 48, 57, 49, 48, 49, 49, 49, 50, 49, 51, 49, 52, 49, 53, 49, 54, 49, 55, 49, 56,
 49, 57, 50, 48, 50, 49, 50, 50, 50, 51, 50, 52, 50, 53, 50, 54, 50, 55, 50, 56, 50, 57, 51, 48, 51, 49, 51, 50, 51, 51, 51, 52, 51, 53, 51, 54, 51, 55, 51, 56, 51, 57, 52, 48, 52, 49, 52, 50, 52, 51, 52, 52, 52, 53, 52, 54, 52, 55, 52, 56,
 52, 57, 53, 48, 53, 49, 53, 50, 53, 51, 53, 52, 53, 53, 53, 54, 53, 55, 53, 56, 53, 57, 54, 48, 54, 49, 54, 50, 54, 51, 54, 52, 54, 53, 54, 54, 54, 55, 54, 56, 54, 57, 55, 48, 55, 49, 55, 50, 55, 51, 55, 52, 55, 53, 55, 54, 55, 55, 55, 56,
 55, 57, 56, 48, 56, 49, 56, 50, 56, 51, 56, 52, 56, 53, 56, 54, 56, 55, 56, 56, 56, 57, 57, 48, 57, 49, 57, 50, 57, 51, 57, 52, 57, 53, 57, 54, 57, 55, 57, 56, 57, 57])) : Nat) : Int)) ∧ ((0 : Int) ≤ (wI (i * 2)) ∧ (wI (i * 2)) ≤
 (((Int.toNat (wI ((wI (i * 2)) + 2))) : Nat) : Int)) ∧ Q (.string (ByteArray.extract (ByteArray.mk #[48, 48, 48, 49, 48, 50, 48, 51, 48, 52, 48, 53, 48, 54, 48, 55, 48, 56, 48, 57, 49, 48, 49, 49, 49, 50, 49, 51, 49, 52, 49, 53, 49, 54, 49,
 55, 49, 56, 49, 57, 50, 48, 50, 49, 50, 50, 50, 51, 50, 52, 50, 53, 50, 54, 50, 55, 50, 56, 50, 57, 51, 48, 51, 49, 51, 50, 51, 51, 51, 52, 51, 53, 51, 54, 51, 55, 51, 56, 51, 57, 52, 48, 52, 49, 52, 50, 52, 51, 52, 52, 52, 53, 52, 54, 52,
 55, 52, 56, 52, 57, 53, 48, 53, 49, 53, 50, 53, 51, 53, 52, 53, 53, 53, 54, 53, 55, 53, 56, 53, 57, 54, 48, 54, 49, 54, 50, 54, 51, 54, 52, 54, 53, 54, 54, 54, 55, 54, 56, 54, 57, 55, 48, 55, 49, 55, 50, 55, 51, 55, 52, 55, 53, 55, 54, 55,
 55, 55, 56, 55, 57, 56, 48, 56, 49, 56, 50, 56, 51, 56, 52, 56, 53, 56, 54, 56, 55, 56, 56, 56, 57, 57, 48, 57, 49, 57, 50, 57, 51, 57, 52, 57, 53, 57, 54, 57, 55, 57, 56, 57, 57]) (Int.toNat (wI (i * 2))) (Int.toNat (wI ((wI (i * 2)) +
 2))))) w)
def A.internal_strconv_small : AT := a17
theorem W.internal_strconv_small_ok (i : Int) (w : World) (Q : Value → World → Prop) (h : W.internal_strconv_small i w Q) : Ret Tryz.prog F.internal_strconv_small #[.int .i64 i] w Q := okF A.internal_strconv_small Tryz.func156 (by kernel_rfl) (by kernel_rfl) h
def W.internal_strconv_numDigits (d : Int) (w : World) (Q : Value → World → Prop) : Prop := c1 F.math_bits_Len64 #[.int .u64 d] w fun n3 w1 => c1 F.internal_strconv_log10Pow2 #[.int .i64 n3] w1 fun n6 w4 => ((0 : Int) ≤ n6 ∧ n6 < ((20 :
 Nat) : Int)) ∧ r5 w4 (Addr.add ⟨3, 0, none⟩ (Int.toNat n6 * 1)) fun n7 => c1 F.internal_strconv_bool2_int #[.bool (decide (d ≥ n7))] w4 fun n10 w8 => Q (.int .i64 (wI (n6 + n10))) w8
def A.internal_strconv_numDigits : AT := a7
theorem W.internal_strconv_numDigits_ok (d : Int) (w : World) (Q : Value → World → Prop) (h : W.internal_strconv_numDigits d w Q) : Ret Tryz.prog F.internal_strconv_numDigits #[.int .u64 d] w Q := okF A.internal_strconv_numDigits Tryz.func157 (by kernel_rfl) (by kernel_rfl) h
def W.internal_strconv_formatBase10 (a : Sl) (u : Int) (w : World) (Q : Value → World → Prop) : Prop := ∃ (I1 : Int → Int → World → Prop) (μ2 : Int → Int → World → Nat), I1 u (a.len:Int) w ∧ ∀ (n3 : Int) (n4 : Int) (w5 : World), I1 n3 n4 w5
 → Br (decide (n4 ≥ 8)) ((100000000 : Int) ≠ 0 ∧ (100000000 : Int) ≠ 0 ∧ (10000 : Int) ≠ 0 ∧ (10000 : Int) ≠ 0 ∧ (100 : Int) ≠ 0 ∧ (100 : Int) ≠ 0 ∧ (100 : Int) ≠ 0 ∧ (100 : Int) ≠ 0 ∧ Nx (w5.drew) fun w6 => ∃ W7 : Nat → Prop, (0 : Int) ≤
 (IntKind.wrap .u32 ((IntKind.wrap .u32 ((Int.tmod (Int.tmod (IntKind.wrap .u32 (Int.tmod n3 100000000)) 10000) 100) * 2)) + 1)) ∧ ∃ b8 : UInt8, byteAt (ByteArray.mk #[48, 48, 48, 49, 48, 50, 48, 51, 48, 52, 48, 53, 48, 54, 48, 55, 48, 56,
 48, 57, 49, 48, 49, 49, 49, 50, 49, 51, 49, 52, 49, 53, 49, 54, 49, 55, 49, 56, 49, 57, 50, 48, 50, 49, 50, 50, 50, 51, 50, 52, 50, 53, 50, 54, 50, 55, 50, 56, 50, 57, 51, 48, 51, 49, 51, 50, 51, 51, 51, 52, 51, 53, 51, 54, 51, 55, 51, 56,
 51, 57, 52, 48, 52, 49, 52, 50, 52, 51, 52, 52, 52, 53, 52, 54, 52, 55, 52, 56, 52, 57, 53, 48, 53, 49, 53, 50, 53, 51, 53, 52, 53, 53, 53, 54, 53, 55, 53, 56, 53, 57, 54, 48, 54, 49, 54, 50, 54, 51, 54, 52, 54, 53, 54, 54, 54, 55, 54, 56,
 54, 57, 55, 48, 55, 49, 55, 50, 55, 51, 55, 52, 55, 53, 55, 54, 55, 55, 55, 56, 55, 57, 56, 48, 56, 49, 56, 50, 56, 51, 56, 52, 56, 53, 56, 54, 56, 55, 56, 56, 56, 57, 57, 48, 57, 49, 57, 50, 57, 51, 57, 52, 57, 53, 57, 54, 57, 55, 57, 56,
 57, 57]) (Int.toNat (IntKind.wrap .u32 ((IntKind.wrap .u32 ((Int.tmod (Int.tmod (IntKind.wrap .u32 (Int.tmod n3 100000000)) 10000) 100) * 2)) + 1))) = some b8 ∧ (0 : Int) ≤ (IntKind.wrap .u32 ((Int.tmod (Int.tmod (IntKind.wrap .u32
 (Int.tmod n3 100000000)) 10000) 100) * 2)) ∧ ∃ b9 : UInt8, byteAt (ByteArray.mk #[48, 48, 48, 49, 48, 50, 48, 51, 48, 52, 48, 53, 48, 54, 48, 55, 48, 56, 48, 57, 49, 48, 49, 49, 49, 50, 49, 51, 49, 52, 49, 53, 49, 54, 49, 55, 49, 56, 49,
 57, 50, 48, 50, 49, 50, 50, 50, 51, 50, 52, 50, 53, 50, 54, 50, 55, 50, 56, 50, 57, 51, 48, 51, 49, 51, 50, 51, 51, 51, 52, 51, 53, 51, 54, 51, 55, 51, 56, 51, 57, 52, 48, 52, 49, 52, 50, 52, 51, 52, 52, 52, 53, 52, 54, 52, 55, 52, 56, 52,
 57, 53, 48, 53, 49, 53, 50, 53, 51, 53, 52, 53, 53, 53, 54, 53, 55, 53, 56, 53, 57, 54, 48, 54, 49, 54, 50, 54, 51, 54, 52, 54, 53, 54, 54, 54, 55, 54, 56, 54, 57, 55, 48, 55, 49, 55, 50, 55, 51, 55, 52, 55, 53, 55, 54, 55, 55, 55, 56, 55,
 57, 56, 48, 56, 49, 56, 50, 56, 51, 56, 52, 56, 53, 56, 54, 56, 55, 56, 56, 56, 57, 57, 48, 57, 49, 57, 50, 57, 51, 57, 52, 57, 53, 57, 54, 57, 55, 57, 56, 57, 57]) (Int.toNat (IntKind.wrap .u32 ((Int.tmod (Int.tmod (IntKind.wrap .u32
 (Int.tmod n3 100000000)) 10000) 100) * 2))) = some b9 ∧ ∃ a10 : Addr, a.a = some a10 ∧ bd (wI (n4 - 1)) a.len ∧ st w6 (a10.add (Int.toNat (wI (n4 - 1)) * 1)) (.int .u8 ((b8.toNat : Nat) : Int)) fun w11 => ∃ a12 : Addr, a.a = some a12 ∧ bd
 (wI (n4 - 2)) a.len ∧ st w11 (a12.add (Int.toNat (wI (n4 - 2)) * 1)) (.int .u8 ((b9.toNat : Nat) : Int)) fun w13 => Nx (w13.drew) fun w14 => ∃ W15 : Nat → Prop, (0 : Int) ≤ (IntKind.wrap .u32 ((IntKind.wrap .u32 ((IntKind.wrap .u32
 (Int.tdiv (Int.tmod (IntKind.wrap .u32 (Int.tmod n3 100000000)) 10000) 100)) * 2)) + 1)) ∧ ∃ b16 : UInt8, byteAt (ByteArray.mk #[48, 48, 48, 49, 48, 50, 48, 51, 48, 52, 48, 53, 48, 54, 48, 55, 48, 56, 48, 57, 49, 48, 49, 49, 49, 50, 49, 51,
 49, 52, 49, 53, 49, 54, 49, 55, 49, 56, 49, 57, 50, 48, 50, 49, 50, 50, 50, 51, 50, 52, 50, 53, 50, 54, 50, 55, 50, 56, 50, 57, 51, 48, 51, 49, 51, 50, 51, 51, 51, 52, 51, 53, 51, 54, 51, 55, 51, 56, 51, 57, 52, 48, 52, 49, 52, 50, 52, 51,
 52, 52, 52, 53, 52, 54, 52, 55, 52, 56, 52, 57, 53, 48, 53, 49, 53, 50, 53, 51, 53, 52, 53, 53, 53, 54, 53, 55, 53, 56, 53, 57, 54, 48, 54, 49, 54, 50, 54, 51, 54, 52, 54, 53, 54, 54, 54, 55, 54, 56, 54, 57, 55, 48, 55, 49, 55, 50, 55, 51,
 55, 52, 55, 53, 55, 54, 55, 55, 55, 56, 55, 57, 56, 48, 56, 49, 56, 50, 56, 51, 56, 52, 56, 53, 56, 54, 56, 55, 56, 56, 56, 57, 57, 48, 57, 49, 57, 50, 57, 51, 57, 52, 57, 53, 57, 54, 57, 55, 57, 56, 57, 57]) (Int.toNat (IntKind.wrap .u32
 ((IntKind.wrap .u32 ((IntKind.wrap .u32 (Int.tdiv (Int.tmod (IntKind.wrap .u32 (Int.tmod n3 100000000)) 10000) 100)) * 2)) + 1))) = some b16 ∧ (0 : Int) ≤ (IntKind.wrap .u32 ((IntKind.wrap .u32 (Int.tdiv (Int.tmod (IntKind.wrap .u32
 (Int.tmod n3 100000000)) 10000) 100)) * 2)) ∧ ∃ b17 : UInt8, byteAt (ByteArray.mk #[48, 48, 48, 49, 48, 50, 48, 51, 48, 52, 48, 53, 48, 54, 48, 55, 48, 56, 48, 57, 49, 48, 49, 49, 49, 50, 49, 51, 49, 52, 49, 53, 49, 54, 49, 55, 49, 56, 49,
 57, 50, 48, 50, 49, 50, 50, 50, 51, 50, 52, 50, 53, 50, 54, 50, 55, 50, 56, 50, 57, 51, 48, 51, 49, 51, 50, 51, 51, 51, 52, 51, 53, 51, 54, 51, 55, 51, 56, 51, 57, 52, 48, 52, 49, 52, 50, 52, 51, 52, 52, 52, 53, 52, 54, 52, 55, 52, 56, 52,
 57, 53, 48, 53, 49, 53, 50, 53, 51, 53, 52, 53, 53, 53, 54, 53, 55, 53, 56, 53, 57, 54, 48, 54, 49, 54, 50, 54, 51, 54, 52, 54, 53, 54, 54, 54, 55, 54, 56, 54, 57, 55, 48, 55, 49, 55, 50, 55, 51, 55, 52, 55, 53, 55, 54, 55, 55, 55, 56, 55,
 57, 56, 48, 56, 49, 56, 50, 56, 51, 56, 52, 56, 53, 56, 54, 56, 55, 56, 56, 56, 57, 57, 48, 57, 49, 57, 50, 57, 51, 57, 52, 57, 53, 57, 54, 57, 55, 57, 56, 57, 57]) (Int.toNat (IntKind.wrap .u32 ((IntKind.wrap .u32 (Int.tdiv (Int.tmod
 (IntKind.wrap .u32 (Int.tmod n3 100000000)) 10000) 100)) * 2))) = some b17 ∧ ∃ a18 : Addr, a.a = some a18 ∧ bd (wI (n4 - 3)) a.len ∧ st w14 (a18.add (Int.toNat (wI (n4 - 3)) * 1)) (.int .u8 ((b16.toNat : Nat) : Int)) fun w19 => ∃ a20 :
 Addr, a.a = some a20 ∧ bd (wI (n4 - 4)) a.len ∧ st w19 (a20.add (Int.toNat (wI (n4 - 4)) * 1)) (.int .u8 ((b17.toNat : Nat) : Int)) fun w21 => Nx (w21.drew) fun w22 => ∃ W23 : Nat → Prop, (0 : Int) ≤ (IntKind.wrap .u32 ((IntKind.wrap .u32
 ((Int.tmod (IntKind.wrap .u32 (Int.tdiv (IntKind.wrap .u32 (Int.tmod n3 100000000)) 10000)) 100) * 2)) + 1)) ∧ ∃ b24 : UInt8, byteAt (ByteArray.mk #[48, 48, 48, 49, 48, 50, 48, 51, 48, 52, 48, 53, 48, 54, 48, 55, 48, 56, 48, 57, 49, 48, 49,
 49, 49, 50, 49, 51, 49, 52, 49, 53, 49, 54, 49, 55, 49, 56, 49, 57, 50, 48, 50, 49, 50, 50, 50, 51, 50, 52, 50, 53, 50, 54, 50, 55, 50, 56, 50, 57, 51, 48, 51, 49, 51, 50, 51, 51, 51, 52, 51, 53, 51, 54, 51, 55, 51, 56, 51, 57, 52, 48, 52,
 49, 52, 50, 52, 51, 52, 52, 52, 53, 52, 54, 52, 55, 52, 56, 52, 57, 53, 48, 53, 49, 53, 50, 53, 51, 53, 52, 53, 53, 53, 54, 53, 55, 53, 56, 53, 57, 54, 48, 54, 49, 54, 50, 54, 51, 54, 52, 54, 53, 54, 54, 54, 55, 54, 56, 54, 57, 55, 48, 55,
 49, 55, 50, 55, 51, 55, 52, 55, 53, 55, 54, 55, 55, 55, 56, 55, 57, 56, 48, 56, 49, 56, 50, 56, 51, 56, 52, 56, 53, 56, 54, 56, 55, 56, 56, 56, 57, 57, 48, 57, 49, 57, 50, 57, 51, 57, 52, 57, 53, 57, 54, 57, 55, 57, 56, 57, 57]) (Int.toNat
 (IntKind.wrap .u32 ((IntKind.wrap .u32 ((Int.tmod (IntKind.wrap .u32 (Int.tdiv (IntKind.wrap .u32 (Int.tmod n3 100000000)) 10000)) 100) * 2)) + 1))) = some b24 ∧ (0 : Int) ≤ (IntKind.wrap .u32 ((Int.tmod (IntKind.wrap .u32 (Int.tdiv
 (IntKind.wrap .u32 (Int.tmod n3 100000000)) 10000)) 100) * 2)) ∧ ∃ b25 : UInt8, byteAt (ByteArray.mk #[48, 48, 48, 49, 48, 50, 48, 51, 48, 52, 48, 53, 48, 54, 48, 55, 48, 56, 48, 57, 49, 48, 49, 49, 49, 50, 49, 51, 49, 52, 49, 53, 49, 54,
 49, 55, 49, 56, 49, 57, 50, 48, 50, 49, 50, 50, 50, 51, 50, 52, 50, 53, 50, 54, 50, 55, 50, 56, 50, 57, 51, 48, 51, 49, 51, 50, 51, 51, 51, 52, 51, 53, 51, 54, 51, 55, 51, 56, 51, 57, 52, 48, 52, 49, 52, 50, 52, 51, 52, 52, 52, 53, 52, 54,
 52, 55, 52, 56, 52, 57, 53, 48, 53, 49, 53, 50, 53, 51, 53, 52, 53, 53, 53, 54, 53, 55, 53, 56, 53, 57, 54, 48, 54, 49, 54, 50, 54, 51, 54, 52, 54, 53, 54, 54, 54, 55, 54, 56, 54, 57, 55, 48, 55, 49, 55, 50, 55, 51, 55, 52, 55, 53, 55, 54,
 55, 55, 55, 56, 55, 57, 56, 48, 56, 49, 56, 50, 56, 51, 56, 52, 56, 53, 56, 54, 56, 55, 56, 56, 56, 57, 57, 48, 57, 49, 57, 50, 57, 51, 57, 52, 57, 53, 57, 54, 57, 55, 57, 56, 57, 57]) (Int.toNat (IntKind.wrap .u32 ((Int.tmod (IntKind.wrap
 .u32 (Int.tdiv (IntKind.wrap .u32 (Int.tmod n3 100000000)) 10000)) 100) * 2))) = some b25 ∧ ∃ a26 : Addr, a.a = some a26 ∧ bd (wI (n4 - 5)) a.len ∧ st w22 (a26.add (Int.toNat (wI (n4 - 5)) * 1)) (.int .u8 ((b24.toNat : Nat) : Int)) fun w27
 => ∃ a28 : Addr, a.a = some a28 ∧ bd (wI (n4 - 6)) a.len ∧ st w27 (a28.add (Int.toNat (wI (n4 - 6)) * 1)) (.int .u8 ((b25.toNat : Nat) : Int)) fun w29 => Nx (w29.drew) fun w30 => ∃ W31 : Nat → Prop, (0 : Int) ≤ (IntKind.wrap .u32
 ((IntKind.wrap .u32 ((IntKind.wrap .u32 (Int.tdiv (IntKind.wrap .u32 (Int.tdiv (IntKind.wrap .u32 (Int.tmod n3 100000000)) 10000)) 100)) * 2)) + 1)) ∧ ∃ b32 : UInt8, byteAt (ByteArray.mk #[48, 48, 48, 49, 48, 50, 48, 51, 48, 52, 48, 53, 48,
 54, 48, 55, 48, 56, 48, 57, 49, 48, 49, 49, 49, 50, 49, 51, 49, 52, 49, 53, 49, 54, 49, 55, 49, 56, 49, 57, 50, 48, 50, 49, 50, 50, 50, 51, 50, 52, 50, 53, 50, 54, 50, 55, 50, 56, 50, 57, 51, 48, 51, 49, 51, 50, 51, 51, 51, 52, 51, 53, 51,
 54, 51, 55, 51, 56, 51, 57, 52, 48, 52, 49, 52, 50, 52, 51, 52, 52, 52, 53, 52, 54, 52, 55, 52, 56, 52, 57, 53, 48, 53, 49, 53, 50, 53, 51, 53, 52, 53, 53, 53, 54, 53, 55, 53, 56, 53, 57, 54, 48, 54, 49, 54, 50, 54, 51, 54, 52, 54, 53, 54,
 54, 54, 55, 54, 56, 54, 57, 55, 48, 55, 49, 55, 50, 55, 51, 55, 52, 55, 53, 55, 54, 55, 55, 55, 56, 55, 57, 56, 48, 56, 49, 56, 50, 56, 51, 56, 52, 56, 53, 56, 54, 56, 55, 56, 56, 56, 57, 57, 48, 57, 49, 57, 50, 57, 51, 57, 52, 57, 53, 57,
 54, 57, 55, 57, 56, 57, 57]) (Int.toNat (IntKind.wrap .u32 ((IntKind.wrap .u32 ((IntKind.wrap .u32 (Int.tdiv (IntKind.wrap .u32 (Int.tdiv (IntKind.wrap .u32 (Int.tmod n3 100000000)) 10000)) 100)) * 2)) + 1))) = some b32 ∧ (0 : Int) ≤
 (IntKind.wrap .u32 ((IntKind.wrap .u32 (Int.tdiv (IntKind.wrap .u32 (Int.tdiv (IntKind.wrap .u32 (Int.tmod n3 100000000)) 10000)) 100)) * 2)) ∧ ∃ b33 : UInt8, byteAt (ByteArray.mk #[48, 48, 48, 49, 48, 50, 48, 51, 48, 52, 48, 53, 48, 54,
 48, 55, 48, 56, 48, 57, 49, 48, 49, 49, 49, 50, 49, 51, 49, 52, 49, 53, 49, 54, 49, 55, 49, 56, 49, 57, 50, 48, 50, 49, 50, 50, 50, 51, 50, 52, 50, 53, 50, 54, 50, 55, 50, 56, 50, 57, 51, 48, 51, 49, 51, 50, 51, 51, 51, 52, 51, 53, 51, 54,
 51, 55, 51, 56, 51, 57, 52, 48, 52, 49, 52, 50, 52, 51, 52, 52, 52, 53, 52, 54, 52, 55, 52, 56, 52, 57, 53, 48, 53, 49, 53, 50, 53, 51, 53, 52, 53, 53, 53, 54, 53, 55, 53, 56, 53, 57, 54, 48, 54, 49, 54, 50, 54, 51, 54, 52, 54, 53, 54, 54,
 54, 55, 54, 56, 54, 57, 55, 48, 55, 49, 55, 50, 55, 51, 55, 52, 55, 53, 55, 54, 55, 55, 55, 56, 55, 57, 56, 48, 56, 49, 56, 50, 56, 51, 56, 52, 56, 53, 56, 54, 56, 55, 56, 56, 56, 57, 57, 48, 57, 49, 57, 50, 57, 51, 57, 52, 57, 53, 57, 54,
 57, 55, 57, 56, 57, 57]) (Int.toNat (IntKind.wrap .u32 ((IntKind.wrap .u32 (Int.tdiv (IntKind.wrap .u32 (Int.tdiv (IntKind.wrap .u32 (Int.tmod n3 100000000)) 10000)) 100)) * 2))) = some b33 ∧ ∃ a34 : Addr, a.a = some a34 ∧ bd (wI (n4 - 7))
 a.len ∧ st w30 (a34.add (Int.toNat (wI (n4 - 7)) * 1)) (.int .u8 ((b32.toNat : Nat) : Int)) fun w35 => ∃ a36 : Addr, a.a = some a36 ∧ bd (wI (n4 - 8)) a.len ∧ st w35 (a36.add (Int.toNat (wI (n4 - 8)) * 1)) (.int .u8 ((b33.toNat : Nat) :
 Int)) fun w37 => I1 (IntKind.wrap .u64 (Int.tdiv n3 100000000)) (wI (n4 - 8)) w37 ∧ μ2 (IntKind.wrap .u64 (Int.tdiv n3 100000000)) (wI (n4 - 8)) w37 < μ2 n3 n4 w5) (Jn (fun k38 : Int → Int → World → Prop => Br (decide (n4 ≥ 4)) ((10000 :
 Int) ≠ 0 ∧ (10000 : Int) ≠ 0 ∧ (100 : Int) ≠ 0 ∧ (100 : Int) ≠ 0 ∧ Nx (w5.drew) fun w39 => ∃ W40 : Nat → Prop, (0 : Int) ≤ (IntKind.wrap .u32 ((IntKind.wrap .u32 ((Int.tmod (Int.tmod (IntKind.wrap .u32 n3) 10000) 100) * 2)) + 1)) ∧ ∃ b41 :
 UInt8, byteAt (ByteArray.mk #[48, 48, 48, 49, 48, 50, 48, 51, 48, 52, 48, 53, 48, 54, 48, 55, 48, 56, 48, 57, 49, 48, 49, 49, 49, 50, 49, 51, 49, 52, 49, 53, 49, 54, 49, 55, 49, 56, 49, 57, 50, 48, 50, 49, 50, 50, 50, 51, 50, 52, 50, 53,
 50, 54, 50, 55, 50, 56, 50, 57, 51, 48, 51, 49, 51, 50, 51, 51, 51, 52, 51, 53, 51, 54, 51, 55, 51, 56, 51, 57, 52, 48, 52, 49, 52, 50, 52, 51, 52, 52, 52, 53, 52, 54, 52, 55, 52, 56, 52, 57, 53, 48, 53, 49, 53, 50, 53, 51, 53, 52, 53, 53,
 53, 54, 53, 55, 53, 56, 53, 57, 54, 48, 54, 49, 54, 50, 54, 51, 54, 52, 54, 53, 54, 54, 54, 55, 54, 56, 54, 57, 55, 48, 55, 49, 55, 50, 55, 51, 55, 52, 55, 53, 55, 54, 55, 55, 55, 56, 55, 57, 56, 48, 56, 49, 56, 50, 56, 51, 56, 52, 56, 53,
 56, 54, 56, 55, 56, 56, 56, 57, 57, 48, 57, 49, 57, 50, 57, 51, 57, 52, 57, 53, 57, 54, 57, 55, 57, 56, 57, 57]) (Int.toNat (IntKind.wrap .u32 ((IntKind.wrap .u32 ((Int.tmod (Int.tmod (IntKind.wrap .u32 n3) 10000) 100) * 2)) + 1))) = some
 b41 ∧ (0 : Int) ≤ (IntKind.wrap .u32 ((Int.tmod (Int.tmod (IntKind.wrap .u32 n3) 10000) 100) * 2)) ∧ ∃ b42 : UInt8, byteAt (ByteArray.mk #[48, 48, 48, 49, 48, 50, 48, 51, 48, 52, 48, 53, 48, 54, 48, 55, 48, 56, 48, 57, 49, 48, 49, 49, 49,
 50, 49, 51, 49, 52, 49, 53, 49, 54, 49, 55, 49, 56, 49, 57, 50, 48, 50, 49, 50, 50, 50, 51, 50, 52, 50, 53, 50, 54, 50, 55, 50, 56, 50, 57, 51, 48, 51, 49, 51, 50, 51, 51, 51, 52, 51, 53, 51, 54, 51, 55, 51, 56, 51, 57, 52, 48, 52, 49, 52,
 50, 52, 51, 52, 52, 52, 53, 52, 54, 52, 55, 52, 56, 52, 57, 53, 48, 53, 49, 53, 50, 53, 51, 53, 52, 53, 53, 53, 54, 53, 55, 53, 56, 53, 57, 54, 48, 54, 49, 54, 50, 54, 51, 54, 52, 54, 53, 54, 54, 54, 55, 54, 56, 54, 57, 55, 48, 55, 49, 55,
 50, 55, 51, 55, 52, 55, 53, 55, 54, 55, 55, 55, 56, 55, 57, 56, 48, 56, 49, 56, 50, 56, 51, 56, 52, 56, 53, 56, 54, 56, 55, 56, 56, 56, 57, 57, 48, 57, 49, 57, 50, 57, 51, 57, 52, 57, 53, 57, 54, 57, 55, 57, 56, 57, 57]) (Int.toNat
 (IntKind.wrap .u32 ((Int.tmod (Int.tmod (IntKind.wrap .u32 n3) 10000) 100) * 2))) = some b42 ∧ ∃ a43 : Addr, a.a = some a43 ∧ bd (wI (n4 - 1)) a.len ∧ st w39 (a43.add (Int.toNat (wI (n4 - 1)) * 1)) (.int .u8 ((b41.toNat : Nat) : Int)) fun
 w44 => ∃ a45 : Addr, a.a = some a45 ∧ bd (wI (n4 - 2)) a.len ∧ st w44 (a45.add (Int.toNat (wI (n4 - 2)) * 1)) (.int .u8 ((b42.toNat : Nat) : Int)) fun w46 => Nx (w46.drew) fun w47 => ∃ W48 : Nat → Prop, (0 : Int) ≤ (IntKind.wrap .u32
 ((IntKind.wrap .u32 ((IntKind.wrap .u32 (Int.tdiv (Int.tmod (IntKind.wrap .u32 n3) 10000) 100)) * 2)) + 1)) ∧ ∃ b49 : UInt8, byteAt (ByteArray.mk #[48, 48, 48, 49, 48, 50, 48, 51, 48, 52, 48, 53, 48, 54, 48, 55, 48, 56, 48, 57, 49, 48, 49,
 49, 49, 50, 49, 51, 49, 52, 49, 53, 49, 54, 49, 55, 49, 56, 49, 57, 50, 48, 50, 49, 50, 50, 50, 51, 50, 52, 50, 53, 50, 54, 50, 55, 50, 56, 50, 57, 51, 48, 51, 49, 51, 50, 51, 51, 51, 52, 51, 53, 51, 54, 51, 55, 51, 56, 51, 57, 52, 48, 52,
 49, 52, 50, 52, 51, 52, 52, 52, 53, 52, 54, 52, 55, 52, 56, 52, 57, 53, 48, 53, 49, 53, 50, 53, 51, 53, 52, 53, 53, 53, 54, 53, 55, 53, 56, 53, 57, 54, 48, 54, 49, 54, 50, 54, 51, 54, 52, 54, 53, 54, 54, 54, 55, 54, 56, 54, 57, 55, 48, 55,
 49, 55, 50, 55, 51, 55, 52, 55, 53, 55, 54, 55, 55, 55, 56, 55, 57, 56, 48, 56, 49, 56, 50, 56, 51, 56, 52, 56, 53, 56, 54, 56, 55, 56, 56, 56, 57, 57, 48, 57, 49, 57, 50, 57, 51, 57, 52, 57, 53, 57, 54, 57, 55, 57, 56, 57, 57]) (Int.toNat
 (IntKind.wrap .u32 ((IntKind.wrap .u32 ((IntKind.wrap .u32 (Int.tdiv (Int.tmod (IntKind.wrap .u32 n3) 10000) 100)) * 2)) + 1))) = some b49 ∧ (0 : Int) ≤ (IntKind.wrap .u32 ((IntKind.wrap .u32 (Int.tdiv (Int.tmod (IntKind.wrap .u32 n3)
 10000) 100)) * 2)) ∧ ∃ b50 : UInt8, byteAt (ByteArray.mk #[48, 48, 48, 49, 48, 50, 48, 51, 48, 52, 48, 53, 48, 54, 48, 55, 48, 56, 48, 57, 49, 48, 49, 49, 49, 50, 49, 51, 49, 52, 49, 53, 49, 54, 49, 55, 49, 56, 49, 57, 50, 48, 50, 49, 50,
 50, 50, 51, 50, 52, 50, 53, 50, 54, 50, 55, 50, 56, 50, 57, 51, 48, 51, 49, 51, 50, 51, 51, 51, 52, 51, 53, 51, 54, 51, 55, 51, 56, 51, 57, 52, 48, 52, 49, 52, 50, 52, 51, 52, 52, 52, 53, 52, 54, 52, 55, 52, 56, 52, 57, 53, 48, 53, 49, 53,
 50, 53, 51, 53, 52, 53, 53, 53, 54, 53, 55, 53, 56, 53, 57, 54, 48, 54, 49, 54, 50, 54, 51, 54, 52, 54, 53, 54, 54, 54, 55, 54, 56, 54, 57, 55, 48, 55, 49, 55, 50, 55, 51, 55, 52, 55, 53, 55, 54, 55, 55, 55, 56, 55, 57, 56, 48, 56, 49, 56,
 50, 56, 51, 56, 52, 56, 53, 56, 54, 56, 55, 56, 56, 56, 57, 57, 48, 57, 49, 57, 50, 57, 51, 57, 52, 57, 53, 57, 54, 57, 55, 57, 56, 57, 57]) (Int.toNat (IntKind.wrap .u32 ((IntKind.wrap .u32 (Int.tdiv (Int.tmod (IntKind.wrap .u32 n3) 10000)
 100)) * 2))) = some b50 ∧ ∃ a51 : Addr, a.a = some a51 ∧ bd (wI (n4 - 3)) a.len ∧ st w47 (a51.add (Int.toNat (wI (n4 - 3)) * 1)) (.int .u8 ((b49.toNat : Nat) : Int)) fun w52 => ∃ a53 : Addr, a.a = some a53 ∧ bd (wI (n4 - 4)) a.len ∧ st w52
 (a53.add (Int.toNat (wI (n4 - 4)) * 1)) (.int .u8 ((b50.toNat : Nat) : Int)) fun w54 => k38 (wI (n4 - 4)) (IntKind.wrap .u32 (Int.tdiv (IntKind.wrap .u32 n3) 10000)) w54) (k38 n4 (IntKind.wrap .u32 n3) w5)) (fun (n55 : Int) (n56 : Int) w57
 => Jn (fun k58 : Int → Int → World → Prop => Br (decide (n55 ≥ 2)) ((100 : Int) ≠ 0 ∧ (100 : Int) ≠ 0 ∧ Nx (w57.drew) fun w59 => ∃ W60 : Nat → Prop, (0 : Int) ≤ (IntKind.wrap .u32 ((IntKind.wrap .u32 ((Int.tmod n56 100) * 2)) + 1)) ∧ ∃ b61
 : UInt8, byteAt (ByteArray.mk #[48, 48, 48, 49, 48, 50, 48, 51, 48, 52, 48, 53, 48, 54, 48, 55, 48, 56, 48, 57, 49, 48, 49, 49, 49, 50, 49, 51, 49, 52, 49, 53, 49, 54, 49, 55, 49, 56, 49, 57, 50, 48, 50, 49, 50, 50, 50, 51, 50, 52, 50, 53,
 50, 54, 50, 55, 50, 56, 50, 57, 51, 48, 51, 49, 51, 50, 51, 51, 51, 52, 51, 53, 51, 54, 51, 55, 51, 56, 51, 57, 52, 48, 52, 49, 52, 50, 52, 51, 52, 52, 52, 53, 52, 54, 52, 55, 52, 56, 52, 57, 53, 48, 53, 49, 53, 50, 53, 51, 53, 52, 53, 53,
 53, 54, 53, 55, 53, 56, 53, 57, 54, 48, 54, 49, 54, 50, 54, 51, 54, 52, 54, 53, 54, 54, 54, 55, 54, 56, 54, 57, 55, 48, 55, 49, 55, 50, 55, 51, 55, 52, 55, 53, 55, 54, 55, 55, 55, 56, 55, 57, 56, 48, 56, 49, 56, 50, 56, 51, 56, 52, 56, 53,
 56, 54, 56, 55, 56, 56, 56, 57, 57, 48, 57, 49, 57, 50, 57, 51, 57, 52, 57, 53, 57, 54, 57, 55, 57, 56, 57, 57]) (Int.toNat (IntKind.wrap .u32 ((IntKind.wrap .u32 ((Int.tmod n56 100) * 2)) + 1))) = some b61 ∧ (0 : Int) ≤ (IntKind.wrap .u32
 ((Int.tmod n56 100) * 2)) ∧ ∃ b62 : UInt8, byteAt (ByteArray.mk #[48, 48, 48, 49, 48, 50, 48, 51, 48, 52, 48, 53, 48, 54, 48, 55, 48, 56, 48, 57, 49, 48, 49, 49, 49, 50, 49, 51, 49, 52, 49, 53, 49, 54, 49, 55, 49, 56, 49, 57, 50, 48, 50,
 49, 50, 50, 50, 51, 50, 52, 50, 53, 50, 54, 50, 55, 50, 56, 50, 57, 51, 48, 51, 49, 51, 50, 51, 51, 51, 52, 51, 53, 51, 54, 51, 55, 51, 56, 51, 57, 52, 48, 52, 49, 52, 50, 52, 51, 52, 52, 52, 53, 52, 54, 52, 55, 52, 56, 52, 57, 53, 48, 53,
 49, 53, 50, 53, 51, 53, 52, 53, 53, 53, 54, 53, 55, 53, 56, 53, 57, 54, 48, 54, 49, 54, 50, 54, 51, 54, 52, 54, 53, 54, 54, 54, 55, 54, 56, 54, 57, 55, 48, 55, 49, 55, 50, 55, 51, 55, 52, 55, 53, 55, 54, 55, 55, 55, 56, 55, 57, 56, 48, 56,
 49, 56, 50, 56, 51, 56, 52, 56, 53, 56, 54, 56, 55, 56, 56, 56, 57, 57, 48, 57, 49, 57, 50, 57, 51, 57, 52, 57, 53, 57, 54, 57, 55, 57, 56, 57, 57]) (Int.toNat (IntKind.wrap .u32 ((Int.tmod n56 100) * 2))) = some b62 ∧ ∃ a63 : Addr, a.a =
 some a63 ∧ bd (wI (n55 - 1)) a.len ∧ st w59 (a63.add (Int.toNat (wI (n55 - 1)) * 1)) (.int .u8 ((b61.toNat : Nat) : Int)) fun w64 => ∃ a65 : Addr, a.a = some a65 ∧ bd (wI (n55 - 2)) a.len ∧ st w64 (a65.add (Int.toNat (wI (n55 - 2)) * 1))
 (.int .u8 ((b62.toNat : Nat) : Int)) fun w66 => k58 (wI (n55 - 2)) (IntKind.wrap .u32 (Int.tdiv n56 100)) w66) (k58 n55 n56 w57)) (fun (n67 : Int) (n68 : Int) w69 => Br (decide (n67 > 0)) (∃ a70 : Addr, a.a = some a70 ∧ bd 0 a.len ∧ st w69
 (a70.add (Int.toNat 0 * 1)) (.int .u8 (IntKind.wrap .u8 (IntKind.wrap .u32 (48 + n68)))) fun w71 => Q (.tuple #[]) w71) (Q (.tuple #[]) w69))))
def A.internal_strconv_formatBase10 : AT := (.s .r (.s (.blk (.loop [(1, (.int .u64)), (4, (.int .i64))] [0] (.s (.s .r (.c .l .l)) (.blk (.s .r (.s .r (.s .r (.s .r (.s .r (.s (.drw 13 true ⟨[0, 0, 2, 0, 0, 16, 0, 64, 128, 0, 512, 455,
 2503, 8191, 16383], [0, 0, 2, 0, 0, 16, 0, 64, 128, 0, 512, 5, 2304, 40, 9216]⟩ [4398046511104, 8796093022208, 17592186044416, 35184372088832, 70368744177664, 140737488355328, 281474976710656, 562949953421312, 1125899906842624,
 2251799813685248, 4503599627370496, 9007199254740992, 0, 18014398509481984, 0] [1, 16, 8796093022208, 1, 16, 70368744177664, 512, 281474976710656, 562949953421312, 512, 2251799813685248, 21990232555520, 10133099161583616, 175921860444160,
 22517998136852480] (.take 0 (.take 1 (.take 2 (.take 3 (.take 4 (.take 5 (.take 6 (.take 7 (.take 8 (.take 9 (.take 10 (.take 11 (.out 12 false (.tail [.run, .run]))))))))))))))) (.s (.drw 13 true ⟨[0, 0, 2, 0, 0, 16, 0, 64, 128, 0, 512,
 455, 2503, 8191, 16383], [0, 0, 2, 0, 0, 16, 0, 64, 128, 0, 512, 5, 2304, 40, 9216]⟩ [36028797018963968, 72057594037927936, 144115188075855872, 288230376151711744, 576460752303423488, 1152921504606846976, 2305843009213693952,
 4611686018427387904, 9223372036854775808, 18446744073709551616, 36893488147419103232, 73786976294838206464, 0, 147573952589676412928, 0] [1, 16, 72057594037927936, 1, 16, 576460752303423488, 256, 2305843009213693952, 4611686018427387904,
 256, 18446744073709551616, 180143985094819840, 83010348331692982272, 1441151880758558720, 184467440737095516160] (.take 0 (.take 1 (.take 2 (.take 3 (.take 4 (.take 5 (.take 6 (.take 7 (.take 8 (.take 9 (.take 10 (.take 11 (.out 12 false
 (.tail [.run, .run]))))))))))))))) (.s (.drw 13 true ⟨[0, 0, 2, 0, 0, 16, 0, 64, 128, 0, 512, 455, 2503, 8191, 16383], [0, 0, 2, 0, 0, 16, 0, 64, 128, 0, 512, 5, 2304, 40, 9216]⟩ [295147905179352825856, 590295810358705651712,
 1180591620717411303424, 2361183241434822606848, 4722366482869645213696, 9444732965739290427392, 18889465931478580854784, 37778931862957161709568, 75557863725914323419136, 151115727451828646838272, 302231454903657293676544,
 604462909807314587353088, 0, 1208925819614629174706176, 0] [1, 16, 590295810358705651712, 1, 16, 4722366482869645213696, 2048, 18889465931478580854784, 37778931862957161709568, 2048, 151115727451828646838272, 1475739525896764129280,
 680020773533228910772224, 11805916207174113034240, 1511157274518286468382720] (.take 0 (.take 1 (.take 2 (.take 3 (.take 4 (.take 5 (.take 6 (.take 7 (.take 8 (.take 9 (.take 10 (.take 11 (.out 12 false (.tail [.run, .run])))))))))))))))
 (.s (.drw 13 true ⟨[0, 0, 2, 0, 0, 16, 0, 64, 128, 0, 512, 455, 2503, 8191, 16383], [0, 0, 2, 0, 0, 16, 0, 64, 128, 0, 512, 5, 2304, 40, 9216]⟩ [2417851639229258349412352, 4835703278458516698824704, 9671406556917033397649408,
 19342813113834066795298816, 38685626227668133590597632, 77371252455336267181195264, 154742504910672534362390528, 309485009821345068724781056, 618970019642690137449562112, 1237940039285380274899124224, 2475880078570760549798248448,
 4951760157141521099596496896, 0, 9903520314283042199192993792, 0] [1, 16, 4835703278458516698824704, 1, 16, 38685626227668133590597632, 1024, 154742504910672534362390528, 309485009821345068724781056, 1024, 1237940039285380274899124224,
 12089258196146291747061760, 5570730176784211237046059008, 96714065569170333976494080, 12379400392853802748991242240] (.take 0 (.take 1 (.take 2 (.take 3 (.take 4 (.take 5 (.take 6 (.take 7 (.take 8 (.take 9 (.take 10 (.take 11 (.out 12
 false (.tail [.run, .run]))))))))))))))) .r))))))))))))) (.s .r (.s (.jk [(4, (.int .i64)), (12, (.int .u32))] [0] (.s .r (.c (.s .r (.s .r (.s .r (.s (.drw 13 true ⟨[0, 0, 2, 0, 0, 16, 0, 64, 128, 0, 512, 455, 2503, 8191, 16383], [0, 0, 2,
 0, 0, 16, 0, 64, 128, 0, 512, 5, 2304, 40, 9216]⟩ [1298074214633706907132624082305024, 2596148429267413814265248164610048, 5192296858534827628530496329220096, 10384593717069655257060992658440192, 20769187434139310514121985316880384,
 41538374868278621028243970633760768, 83076749736557242056487941267521536, 166153499473114484112975882535043072, 332306998946228968225951765070086144, 664613997892457936451903530140172288, 1329227995784915872903807060280344576,
 2658455991569831745807614120560689152, 0, 5316911983139663491615228241121378304, 0] [1, 16, 2596148429267413814265248164610048, 1, 16, 20769187434139310514121985316880384, 32768, 83076749736557242056487941267521536,
 166153499473114484112975882535043072, 32768, 664613997892457936451903530140172288, 6490371073168534535663120411525120, 2990762990516060714033565885630775296, 51922968585348276285304963292200960, 6646139978924579364519035301401722880] (.take
 0 (.take 1 (.take 2 (.take 3 (.take 4 (.take 5 (.take 6 (.take 7 (.take 8 (.take 9 (.take 10 (.take 11 (.out 12 false (.tail [.run, .run]))))))))))))))) (.s (.drw 13 true ⟨[0, 0, 2, 0, 0, 16, 0, 64, 128, 0, 512, 455, 2503, 8191, 16383], [0,
 0, 2, 0, 0, 16, 0, 64, 128, 0, 512, 5, 2304, 40, 9216]⟩ [10633823966279326983230456482242756608, 21267647932558653966460912964485513216, 42535295865117307932921825928971026432, 85070591730234615865843651857942052864,
 170141183460469231731687303715884105728, 340282366920938463463374607431768211456, 680564733841876926926749214863536422912, 1361129467683753853853498429727072845824, 2722258935367507707706996859454145691648,
 5444517870735015415413993718908291383296, 10889035741470030830827987437816582766592, 21778071482940061661655974875633165533184, 0, 43556142965880123323311949751266331066368, 0] [1, 16, 21267647932558653966460912964485513216, 1, 16,
 170141183460469231731687303715884105728, 16384, 680564733841876926926749214863536422912, 1361129467683753853853498429727072845824, 16384, 5444517870735015415413993718908291383296, 53169119831396634916152282411213783040,
 24500330418307569369362971735087311224832, 425352958651173079329218259289710264320, 54445178707350154154139937189082913832960] (.take 0 (.take 1 (.take 2 (.take 3 (.take 4 (.take 5 (.take 6 (.take 7 (.take 8 (.take 9 (.take 10 (.take 11
 (.out 12 false (.tail [.run, .run]))))))))))))))) .r))))) .l))) (.s (.jk [(4, (.int .i64)), (12, (.int .u32))] [0] (.s .r (.c (.s .r (.s .r (.s (.drw 13 true ⟨[0, 0, 2, 0, 0, 16, 0, 64, 128, 0, 512, 455, 2503, 8191, 16383], [0, 0, 2, 0, 0,
 16, 0, 64, 128, 0, 512, 5, 2304, 40, 9216]⟩ [44601490397061246283071436545296723011960832, 89202980794122492566142873090593446023921664, 178405961588244985132285746181186892047843328, 356811923176489970264571492362373784095686656,
 713623846352979940529142984724747568191373312, 1427247692705959881058285969449495136382746624, 2854495385411919762116571938898990272765493248, 5708990770823839524233143877797980545530986496, 11417981541647679048466287755595961091061972992,
 22835963083295358096932575511191922182123945984, 45671926166590716193865151022383844364247891968, 91343852333181432387730302044767688728495783936, 0, 182687704666362864775460604089535377456991567872, 0] [1, 16,
 89202980794122492566142873090593446023921664, 1, 16, 713623846352979940529142984724747568191373312, 65536, 2854495385411919762116571938898990272765493248, 5708990770823839524233143877797980545530986496, 65536,
 22835963083295358096932575511191922182123945984, 223007451985306231415357182726483615059804160, 102761833874829111436196589800363649819557756928, 1784059615882449851322857461811868920478433280,
 228359630832953580969325755111919221821239459840] (.take 0 (.take 1 (.take 2 (.take 3 (.take 4 (.take 5 (.take 6 (.take 7 (.take 8 (.take 9 (.take 10 (.take 11 (.out 12 false (.tail [.run, .run]))))))))))))))) .r))) .l))) (.s .r (.c .r
 .l)))))))
theorem W.internal_strconv_formatBase10_ok (a : Sl) (u : Int) (w : World) (Q : Value → World → Prop) (h : W.internal_strconv_formatBase10 a u w Q) : Ret Tryz.prog F.internal_strconv_formatBase10 #[.slice a.a a.len a.cap, .int .u64 u] w Q := okF A.internal_strconv_formatBase10 Tryz.func158 (by kernel_rfl) (by kernel_rfl) h
def W.internal_strconv_formatBits (dst : Sl) (u : Int) (base : Int) (neg : Bool) (append_ : Bool) (w : World) (Q : Value → World → Prop) : Prop := Jn (fun k1 : World → Prop => Br (((decide (base < 2)) || (base == 10)) || (decide (base >
 36))) (False) (k1 w)) (fun w2 => Nx (w2.alloc (.cells #[.int .u8 0, .int .u8 0, .int .u8 0, .int .u8 0, .int .u8 0, .int .u8 0, .int .u8 0, .int .u8 0, .int .u8 0, .int .u8 0, .int .u8 0, .int .u8 0, .int .u8 0, .int .u8 0, .int .u8 0, .int
 .u8 0, .int .u8 0, .int .u8 0, .int .u8 0, .int .u8 0, .int .u8 0, .int .u8 0, .int .u8 0, .int .u8 0, .int .u8 0, .int .u8 0, .int .u8 0, .int .u8 0, .int .u8 0, .int .u8 0, .int .u8 0, .int .u8 0, .int .u8 0, .int .u8 0, .int .u8 0, .int
 .u8 0, .int .u8 0, .int .u8 0, .int .u8 0, .int .u8 0, .int .u8 0, .int .u8 0, .int .u8 0, .int .u8 0, .int .u8 0, .int .u8 0, .int .u8 0, .int .u8 0, .int .u8 0, .int .u8 0, .int .u8 0, .int .u8 0, .int .u8 0, .int .u8 0, .int .u8 0, .int
 .u8 0, .int .u8 0, .int .u8 0, .int .u8 0, .int .u8 0, .int .u8 0, .int .u8 0, .int .u8 0, .int .u8 0, .int .u8 0] Ty.n65_uint8)) fun w3 => Jn (fun k4 : Int → World → Prop => Br neg (k4 (IntKind.wrap .u64 (0 - u)) w3) (k4 u w3)) (fun (n5 :
 Int) w6 => Jn (fun k7 : Int → World → Prop => c9 F.internal_strconv_isPowerOfTwo #[.int .i64 base] w6 fun b10 w8 => Br b10 (c1 F.math_bits_TrailingZeros #[.int .u64 (IntKind.wrap .u64 base)] w8 fun n13 w11 => ∃ (I14 : Int → Int → World →
 Prop) (μ15 : Int → Int → World → Nat), I14 n5 65 w11 ∧ ∀ (n16 : Int) (n17 : Int) (w18 : World), I14 n16 n17 w18 → Br (decide (n16 ≥ (IntKind.wrap .u64 base))) ((0 : Int) ≤ (bAnd .u64 n16 (IntKind.wrap .u64 ((IntKind.wrap .u64 base) - 1))) ∧
 ∃ b19 : UInt8, byteAt (ByteArray.mk #[48, 49, 50, 51, 52, 53, 54, 55, 56, 57, 97, 98, 99, 100, 101, 102, 103, 104, 105, 106, 107, 108, 109, 110, 111, 112, 113, 114, 115, 116, 117, 118, 119, 120, 121, 122]) (Int.toNat (bAnd .u64 n16
 (IntKind.wrap .u64 ((IntKind.wrap .u64 base) - 1)))) = some b19 ∧ ((0 : Int) ≤ (wI (n17 - 1)) ∧ (wI (n17 - 1)) < ((65 : Nat) : Int)) ∧ st w18 (Addr.add (nA w2) (Int.toNat (wI (n17 - 1)) * 1)) (.int .u8 ((b19.toNat : Nat) : Int)) fun w20 =>
 (0 : Int) ≤ (IntKind.wrap .u64 n13) ∧ I14 (Int.fdiv n16 (2 ^ (min (Int.toNat (IntKind.wrap .u64 n13)) 64))) (wI (n17 - 1)) w20 ∧ μ15 (Int.fdiv n16 (2 ^ (min (Int.toNat (IntKind.wrap .u64 n13)) 64))) (wI (n17 - 1)) w20 < μ15 n16 n17 w18)
 (T16 n16 n17 w18 w2 k7)) (∃ (I23 : Int → Int → World → Prop) (μ24 : Int → Int → World → Nat), I23 n5 65 w8 ∧ ∀ (n25 : Int) (n26 : Int) (w27 : World), I23 n25 n26 w27 → Br (decide (n25 ≥ (IntKind.wrap .u64 base))) (((IntKind.wrap .u64 base)
 : Int) ≠ 0 ∧ (0 : Int) ≤ (IntKind.wrap .u64 (n25 - (IntKind.wrap .u64 ((IntKind.wrap .u64 (Int.tdiv n25 (IntKind.wrap .u64 base))) * (IntKind.wrap .u64 base))))) ∧ ∃ b28 : UInt8, byteAt (ByteArray.mk #[48, 49, 50, 51, 52, 53, 54, 55, 56,
 57, 97, 98, 99, 100, 101, 102, 103, 104, 105, 106, 107, 108, 109, 110, 111, 112, 113, 114, 115, 116, 117, 118, 119, 120, 121, 122]) (Int.toNat (IntKind.wrap .u64 (n25 - (IntKind.wrap .u64 ((IntKind.wrap .u64 (Int.tdiv n25 (IntKind.wrap .u64
 base))) * (IntKind.wrap .u64 base)))))) = some b28 ∧ ((0 : Int) ≤ (wI (n26 - 1)) ∧ (wI (n26 - 1)) < ((65 : Nat) : Int)) ∧ st w27 (Addr.add (nA w2) (Int.toNat (wI (n26 - 1)) * 1)) (.int .u8 ((b28.toNat : Nat) : Int)) fun w29 => I23
 (IntKind.wrap .u64 (Int.tdiv n25 (IntKind.wrap .u64 base))) (wI (n26 - 1)) w29 ∧ μ24 (IntKind.wrap .u64 (Int.tdiv n25 (IntKind.wrap .u64 base))) (wI (n26 - 1)) w29 < μ24 n25 n26 w27) (T16 n25 n26 w27 w2 k7))) (fun (n32 : Int) w33 => Jn (fun
 k34 : Int → World → Prop => Br neg (((0 : Int) ≤ (wI (n32 - 1)) ∧ (wI (n32 - 1)) < ((65 : Nat) : Int)) ∧ st w33 (Addr.add (nA w2) (Int.toNat (wI (n32 - 1)) * 1)) (.int .u8 45) fun w35 => k34 (wI (n32 - 1)) w35) (k34 n32 w33)) (fun (n36 :
 Int) w37 => Br append_ (((0 : Int) ≤ n36 ∧ n36 ≤ ((65 : Nat) : Int)) ∧ ∃ s38 : Sl, ∃ w39 : World, Sem.run Tryz.prog (Builtin.append_ #[Ty.Sl_uint8, Ty.Sl_uint8] Ty.Sl_uint8 #[.slice dst.a dst.len dst.cap, .slice (cutA (some (nA w2)) 1
 (Int.toNat n36) 65) (65 - (Int.toNat n36)) (65 - (Int.toNat n36))]) w37 = .ok (.slice s38.a s38.len s38.cap) w39 ∧ Q (.tuple #[.slice s38.a s38.len s38.cap, .string (ByteArray.mk #[])]) w39) (((0 : Int) ≤ n36 ∧ n36 ≤ ((65 : Nat) : Int)) ∧ ∃
 s40 : ByteArray, ∃ w41 : World, Sem.run Tryz.prog (convert Ty.Sl_uint8 Ty.string (.slice (cutA (some (nA w2)) 1 (Int.toNat n36) 65) (65 - (Int.toNat n36)) (65 - (Int.toNat n36)))) w37 = .ok (.string s40) w41 ∧ Q (.tuple #[.slice none 0 0,
 .string s40]) w41)))))
def A.internal_strconv_formatBits : AT := (.s .r (.s (.jk [] [0, 1, 2, 3, 4, 10, 11] (.s (.reg [.run, .run, .run, .pure 2, .run, .run, .run, .pure 2]) (.c .r .l))) (.s .r (.s .r (.s (.jk [(1, (.int .u64))] [0, 2, 3, 4, 10, 11, 12, 13] (.s
 .r (.c .r .l))) (.s (.jk [(13, (.int .i64))] [0, 3, 4, 10, 11, 12] (.s .r (.c (.s .r (.s .r (.s .r (.s (.blk (.loop [(1, (.int .u64)), (13, (.int .i64))] [0, 3, 4, 10, 11, 12, 14, 15, 16] (.s (.s .r (.c .l .l)) (.blk (.s .r (.s .r .r))))))
 (.s .r .r))))) (.s .r (.s (.blk (.loop [(1, (.int .u64)), (13, (.int .i64))] [0, 3, 4, 10, 11, 12, 17] (.s (.s .r (.c .l .l)) (.blk (.s .r (.s .r (.s .r .r))))))) (.s .r .r)))))) (.s (.jk [(13, (.int .i64))] [0, 4, 10, 11, 12] a12) (.s a1
 (.s .r .l)))))))))
theorem W.internal_strconv_formatBits_ok (dst : Sl) (u : Int) (base : Int) (neg : Bool) (append_ : Bool) (w : World) (Q : Value → World → Prop) (h : W.internal_strconv_formatBits dst u base neg append_ w Q) : Ret Tryz.prog F.internal_strconv_formatBits #[.slice dst.a dst.len dst.cap, .int .u64 u, .int .i64 base, .bool neg, .bool append_] w Q := okF A.internal_strconv_formatBits Tryz.func159 (by kernel_rfl) (by kernel_rfl) h
def W.internal_strconv_FormatInt (i : Int) (base : Int) (w : World) (Q : Value → World → Prop) : Prop := Br (base == 10) (Br ((decide ((0 : Int) ≤ i)) && (decide (i < 100))) (c4 F.internal_strconv_small #[.int .i64 i] w fun s3 w1 => Q
 (.string s3) w1) (Nx (w.alloc z3) fun w4 => Jn (fun k5 : Int → World → Prop => Br (decide (i < 0)) (k5 (IntKind.wrap .u64 (0 - (IntKind.wrap .u64 i))) w4) (k5 (IntKind.wrap .u64 i) w4)) (fun (n6 : Int) w7 => c1 F.internal_strconv_numDigits
 #[.int .u64 n6] w7 fun n10 w8 => ((0 : Int) ≤ (wI (1 + n10)) ∧ (wI (1 + n10)) ≤ ((24 : Nat) : Int)) ∧ ((0 : Int) ≤ 1 ∧ 1 ≤ (((Int.toNat (wI (1 + n10))) : Nat) : Int)) ∧ c2 F.internal_strconv_formatBase10 #[.slice (cutA (some (nA w)) 1
 (Int.toNat 1) 24) ((Int.toNat (wI (1 + n10))) - (Int.toNat 1)) (24 - (Int.toNat 1)), .int .u64 n6] w8 fun w11 => Br (decide (i < 0)) (((0 : Int) ≤ 0 ∧ 0 < ((24 : Nat) : Int)) ∧ st w11 (Addr.add (nA w) (Int.toNat 0 * 1)) (.int .u8 45) fun
 w13 => ((0 : Int) ≤ (wI (1 + n10)) ∧ (wI (1 + n10)) ≤ ((24 : Nat) : Int)) ∧ ∃ s14 : ByteArray, ∃ w15 : World, Sem.run Tryz.prog (convert Ty.Sl_uint8 Ty.string (.slice (cutA (some (nA w)) 1 0 24) ((Int.toNat (wI (1 + n10))) - 0) (24 - 0)))
 w13 = .ok (.string s14) w15 ∧ Q (.string s14) w15) (((0 : Int) ≤ (wI (1 + n10)) ∧ (wI (1 + n10)) ≤ ((24 : Nat) : Int)) ∧ ((0 : Int) ≤ 1 ∧ 1 ≤ (((Int.toNat (wI (1 + n10))) : Nat) : Int)) ∧ ∃ s16 : ByteArray, ∃ w17 : World, Sem.run Tryz.prog
 (convert Ty.Sl_uint8 Ty.string (.slice (cutA (some (nA w)) 1 (Int.toNat 1) 24) ((Int.toNat (wI (1 + n10))) - (Int.toNat 1)) (24 - (Int.toNat 1)))) w11 = .ok (.string s16) w17 ∧ Q (.string s16) w17)))) (c6 F.internal_strconv_formatBits
 #[.slice none 0 0, .int .u64 (IntKind.wrap .u64 i), .int .i64 base, .bool (decide (i < 0)), .bool false] w fun s20 s21 w18 => Q (.string s21) w18)
def A.internal_strconv_FormatInt : AT := (.s .r (.s (.s .r (.c (.s a16 (.s .r (.s .r (.s (.jk [(6, (.int .u64))] [0, 5] (.s .r (.c .r .l))) (.s .r (.s .r (.s (.s .r (.c (.s .r (.s .r .l)) .l)) (.s .r .l)))))))) .l)) (.s .r (.s .r .l))))
theorem W.internal_strconv_FormatInt_ok (i : Int) (base : Int) (w : World) (Q : Value → World → Prop) (h : W.internal_strconv_FormatInt i base w Q) : Ret Tryz.prog F.internal_strconv_FormatInt #[.int .i64 i, .int .i64 base] w Q := okF A.internal_strconv_FormatInt Tryz.func160 (by kernel_rfl) (by kernel_rfl) h
def W.internal_strconv_ParseUint (s : ByteArray) (base : Int) (bitSize : Int) (w : World) (Q : Value → World → Prop) : Prop := Br (ByteArray.toList s == ByteArray.toList (ByteArray.mk #[])) (Q (.tuple #[.int .u64 0, .iface Ty.strconv_Error
 (.int .i64 2)]) w) (Jn (fun k1 : ByteArray → Int → World → Prop => Br ((decide ((2 : Int) ≤ base)) && (decide (base ≤ 36))) (k1 s base w) (Br (base == 0) ((0 : Int) ≤ 0 ∧ ∃ b2 : UInt8, byteAt s (Int.toNat 0) = some b2 ∧ Br ((((b2.toNat :
 Nat) : Int) : Int) == 48) (Jn (fun k3 : Bool → World → Prop => Br (decide ((((ByteArray.size s : Nat) : Int) : Int) ≥ 3)) ((0 : Int) ≤ 1 ∧ ∃ b4 : UInt8, byteAt s (Int.toNat 1) = some b4 ∧ c10 F.internal_strconv_lower #[.int .u8 ((b4.toNat :
 Nat) : Int)] w fun n7 w5 => k3 (n7 == 98) w5) (k3 false w)) (fun (b8 : Bool) w9 => Br b8 (((0 : Int) ≤ 2 ∧ 2 ≤ (((ByteArray.size s) : Nat) : Int)) ∧ k1 (ByteArray.extract s (Int.toNat 2) (ByteArray.size s)) 2 w9) (Jn (fun k10 : Bool → World
 → Prop => Br (decide ((((ByteArray.size s : Nat) : Int) : Int) ≥ 3)) ((0 : Int) ≤ 1 ∧ ∃ b11 : UInt8, byteAt s (Int.toNat 1) = some b11 ∧ c10 F.internal_strconv_lower #[.int .u8 ((b11.toNat : Nat) : Int)] w9 fun n14 w12 => k10 (n14 == 111)
 w12) (k10 false w9)) (fun (b15 : Bool) w16 => Br b15 (((0 : Int) ≤ 2 ∧ 2 ≤ (((ByteArray.size s) : Nat) : Int)) ∧ k1 (ByteArray.extract s (Int.toNat 2) (ByteArray.size s)) 8 w16) (Jn (fun k17 : Bool → World → Prop => Br (decide
 ((((ByteArray.size s : Nat) : Int) : Int) ≥ 3)) ((0 : Int) ≤ 1 ∧ ∃ b18 : UInt8, byteAt s (Int.toNat 1) = some b18 ∧ c10 F.internal_strconv_lower #[.int .u8 ((b18.toNat : Nat) : Int)] w16 fun n21 w19 => k17 (n21 == 120) w19) (k17 false w16))
 (fun (b22 : Bool) w23 => Br b22 (((0 : Int) ≤ 2 ∧ 2 ≤ (((ByteArray.size s) : Nat) : Int)) ∧ k1 (ByteArray.extract s (Int.toNat 2) (ByteArray.size s)) 16 w23) (((0 : Int) ≤ 1 ∧ 1 ≤ (((ByteArray.size s) : Nat) : Int)) ∧ k1 (ByteArray.extract
 s (Int.toNat 1) (ByteArray.size s)) 8 w23))))))) (k1 s 10 w)) (Q (.tuple #[.int .u64 0, .iface Ty.strconv_Error (.int .i64 3)]) w))) (fun (s24 : ByteArray) (n25 : Int) w26 => Jn (fun k27 : Int → World → Prop => Br (bitSize == 0) (k27 64
 w26) (Br ((decide (bitSize < 0)) || (decide (bitSize > 64))) (Q (.tuple #[.int .u64 0, .iface Ty.strconv_Error (.int .i64 4)]) w26) (k27 bitSize w26))) (fun (n28 : Int) w29 => Jn (fun k30 : Int → World → Prop => Br (n25 == 10) (k30
 1844674407370955162 w29) (Br (n25 == 16) (k30 1152921504606846976 w29) (((IntKind.wrap .u64 n25) : Int) ≠ 0 ∧ k30 (IntKind.wrap .u64 ((IntKind.wrap .u64 (Int.tdiv 18446744073709551615 (IntKind.wrap .u64 n25))) + 1)) w29))) (fun (n31 : Int)
 w32 => (0 : Int) ≤ (IntKind.wrap .u64 n28) ∧ ∃ s33 : Sl, ∃ w34 : World, Sem.run Tryz.prog (convert Ty.string Ty.Sl_uint8 (.string s24)) w32 = .ok (.slice s33.a s33.len s33.cap) w34 ∧ ∃ (I35 : Bool → Int → Int → World → Prop) (μ36 : Bool →
 Int → Int → World → Nat), I35 false 0 0 w34 ∧ ∀ (b37 : Bool) (n38 : Int) (n39 : Int) (w40 : World), I35 b37 n38 n39 w40 → Br (decide (n39 < (s33.len:Int))) (Jn (fun k41 : Bool → Int → World → Prop => ∃ a42 : Addr, s33.a = some a42 ∧ bd n39
 s33.len ∧ r4 w40 (a42.add (Int.toNat n39 * 1)) fun n43 => Jn (fun k44 : Bool → Int → World → Prop => Br ((n43 == 95) && (base == 0)) (k41 true n38 w40) (Br ((decide ((48 : Int) ≤ n43)) && (decide (n43 ≤ 57))) (k44 b37 (IntKind.wrap .u8 (n43
 - 48)) w40) (c10 F.internal_strconv_lower #[.int .u8 n43] w40 fun n47 w45 => Jn (fun k48 : Bool → World → Prop => Br (decide ((97 : Int) ≤ n47)) (c10 F.internal_strconv_lower #[.int .u8 n43] w45 fun n51 w49 => k48 (decide (n51 ≤ 122)) w49)
 (k48 false w45)) (fun (b52 : Bool) w53 => Br b52 (c10 F.internal_strconv_lower #[.int .u8 n43] w53 fun n56 w54 => k44 b37 (IntKind.wrap .u8 ((IntKind.wrap .u8 (n56 - 97)) + 10)) w54) (Q (.tuple #[.int .u64 0, .iface Ty.strconv_Error (.int
 .i64 2)]) w53))))) (fun (b57 : Bool) (n58 : Int) w59 => Br (decide (n58 ≥ (IntKind.wrap .u8 n25))) (Q (.tuple #[.int .u64 0, .iface Ty.strconv_Error (.int .i64 2)]) w59) (Br (decide (n38 ≥ n31)) (Q (.tuple #[.int .u64 (IntKind.wrap .u64
 ((IntKind.wrap .u64 (1 * 2 ^ (min (Int.toNat (IntKind.wrap .u64 n28)) 64))) - 1)), .iface Ty.strconv_Error (.int .i64 1)]) w59) (Br ((decide (((IntKind.wrap .u64 ((IntKind.wrap .u64 (n38 * (IntKind.wrap .u64 n25))) + (IntKind.wrap .u64
 n58))) : Int) < (IntKind.wrap .u64 (n38 * (IntKind.wrap .u64 n25))))) || (decide (((IntKind.wrap .u64 ((IntKind.wrap .u64 (n38 * (IntKind.wrap .u64 n25))) + (IntKind.wrap .u64 n58))) : Int) > (IntKind.wrap .u64 ((IntKind.wrap .u64 (1 * 2 ^
 (min (Int.toNat (IntKind.wrap .u64 n28)) 64))) - 1))))) (Q (.tuple #[.int .u64 (IntKind.wrap .u64 ((IntKind.wrap .u64 (1 * 2 ^ (min (Int.toNat (IntKind.wrap .u64 n28)) 64))) - 1)), .iface Ty.strconv_Error (.int .i64 1)]) w59) (k41 b57
 (IntKind.wrap .u64 ((IntKind.wrap .u64 (n38 * (IntKind.wrap .u64 n25))) + (IntKind.wrap .u64 n58))) w59))))) (fun (b60 : Bool) (n61 : Int) w62 => I35 b60 n61 (wI (n39 + 1)) w62 ∧ μ36 b60 n61 (wI (n39 + 1)) w62 < μ36 b37 n38 n39 w40)) (Jn
 (fun k63 : Bool → World → Prop => Br b37 (c9 F.internal_strconv_underscoreOK #[.string s] w40 fun b66 w64 => k63 (!b66) w64) (k63 false w40)) (fun (b67 : Bool) w68 => Br b67 (Q (.tuple #[.int .u64 0, .iface Ty.strconv_Error (.int .i64 2)])
 w68) (Q (.tuple #[.int .u64 n38, .nilIface]) w68)))))))
def A.internal_strconv_ParseUint : AT := (.s .r (.s a1 (.s .r (.s .r (.s (.jk [(0, .str), (1, (.int .i64))] [2, 8, 9] (.blk (.s (.reg [.run, .run, .run, .pure 2]) (.c .l (.s .r (.c (.s .r (.s .r (.c (.blk (.s (.reg [.run, .run, .run, .run,
 .split 4]) (.c (.s .r .r) (.s (.reg [.run, .run, .run, .run, .split 4]) (.c (.s .r .r) (.s (.reg [.run, .run, .run, .run, .split 4]) (.c (.s .r .r) (.s .r .r)))))))) .l))) (.s .r .l))))))) (.s (.jk [(2, (.int .i64))] [0, 1, 8, 9] (.s .r (.c
 .r a16))) (.s .r (.s (.jk [(10, (.int .u64))] [0, 1, 2, 8, 9] (.s .r (.blk (.s .r (.c .r (.s .r (.c .r .r))))))) (.s .r (.s .r (.s .r (.s (.s .r (.blk (.loop [(12, .bool), (13, (.int .u64)), (101, (.int .i64))] [1, 8, 9, 10, 11, 99, 100]
 (.s .r (.s (.c .l .l) (.s (.jk [(12, .bool), (13, (.int .u64))] [1, 8, 9, 10, 11, 99, 100, 101] (.blk (.s .r (.s .r (.s (.jk [(12, .bool), (16, (.int .u8))] [1, 8, 9, 10, 11, 13, 99, 100, 101] (.blk (.s (.reg [.run, .run, .run, .pure 1])
 (.c (.s .r .l) (.s (.reg [.run, .run, .run, .pure 2]) (.c .r (.s (.reg [.run, .run, .run, .run, .split 3]) (.c .r (.s .r .l))))))))) (.s a1 (.s a1 (.s .r (.s .r (.s a15 .r)))))))))) .r)))))) (.s (.s (.reg [.run, .run, .split 3]) (.c (.s .r
 .l) .l)) (.s .r .l))))))))))))))
theorem W.internal_strconv_ParseUint_ok (s : ByteArray) (base : Int) (bitSize : Int) (w : World) (Q : Value → World → Prop) (h : W.internal_strconv_ParseUint s base bitSize w Q) : Ret Tryz.prog F.internal_strconv_ParseUint #[.string s, .int .i64 base, .int .i64 bitSize] w Q := okF A.internal_strconv_ParseUint Tryz.func164 (by kernel_rfl) (by kernel_rfl) h
def W.strconv_toError (fn : ByteArray) (s : ByteArray) (base : Int) (bitSize : Int) (err : Value) (w : World) (Q : Value → World → Prop) : Prop := ∃ b1 : Bool, OpqEq Tryz.prog .eql Ty.error (.tmp 11) (.tmp 13) (err) (.iface Ty.strconv_Error
 (.int .i64 2)) b1 ∧ Br b1 (c11 F.strconv_syntaxError #[.string fn, .string s] w fun p4 w2 => Q (.iface Ty.P_strconv_NumError (.pointer p4)) w2) (∃ b5 : Bool, OpqEq Tryz.prog .eql Ty.error (.tmp 11) (.tmp 20) (err) (.iface Ty.strconv_Error
 (.int .i64 1)) b5 ∧ Br b5 (c11 F.strconv_rangeError #[.string fn, .string s] w fun p8 w6 => Q (.iface Ty.P_strconv_NumError (.pointer p8)) w6) (∃ b9 : Bool, OpqEq Tryz.prog .eql Ty.error (.tmp 11) (.tmp 27) (err) (.iface Ty.strconv_Error
 (.int .i64 3)) b9 ∧ Br b9 (c11 F.strconv_baseError #[.string fn, .string s, .int .i64 base] w fun p12 w10 => Q (.iface Ty.P_strconv_NumError (.pointer p12)) w10) (∃ b13 : Bool, OpqEq Tryz.prog .eql Ty.error (.tmp 11) (.tmp 35) (err) (.iface
 Ty.strconv_Error (.int .i64 4)) b13 ∧ Br b13 (c11 F.strconv_bitSizeError #[.string fn, .string s, .int .i64 bitSize] w fun p16 w14 => Q (.iface Ty.P_strconv_NumError (.pointer p16)) w14) (Q (err) w))))
def A.strconv_toError : AT := (.s .r (.s (.s .r (.blk (.s .r (.c (.s .r .l) (.s .r (.c (.s .r .l) a20)))))) (.s .r .l)))
theorem W.strconv_toError_ok (fn : ByteArray) (s : ByteArray) (base : Int) (bitSize : Int) (err : Value) (w : World) (Q : Value → World → Prop) (h : W.strconv_toError fn s base bitSize err w Q) : Ret Tryz.prog F.strconv_toError #[.string fn, .string s, .int .i64 base, .int .i64 bitSize, err] w Q := okF A.strconv_toError Tryz.func165 (by kernel_rfl) (by kernel_rfl) h
def W.internal_strconv_Atoi (s : ByteArray) (w : World) (Q : Value → World → Prop) : Prop := Br ((false && ((decide ((0 : Int) < ((ByteArray.size s : Nat) : Int))) && (decide ((((ByteArray.size s : Nat) : Int) : Int) < 10)))) || (true &&
 ((decide ((0 : Int) < ((ByteArray.size s : Nat) : Int))) && (decide ((((ByteArray.size s : Nat) : Int) : Int) < 19))))) (Jn (fun k1 : ByteArray → World → Prop => (0 : Int) ≤ 0 ∧ ∃ b2 : UInt8, byteAt s (Int.toNat 0) = some b2 ∧ Jn (fun k3 :
 Bool → World → Prop => Br ((((b2.toNat : Nat) : Int) : Int) == 45) (k3 true w) ((0 : Int) ≤ 0 ∧ ∃ b4 : UInt8, byteAt s (Int.toNat 0) = some b4 ∧ k3 ((((b4.toNat : Nat) : Int) : Int) == 43) w)) (fun (b5 : Bool) w6 => Br b5 (((0 : Int) ≤ 1 ∧
 1 ≤ (((ByteArray.size s) : Nat) : Int)) ∧ Br (decide ((((ByteArray.size (ByteArray.extract s (Int.toNat 1) (ByteArray.size s)) : Nat) : Int) : Int) < 1)) (Q (.tuple #[.int .i64 0, .iface Ty.strconv_Error (.int .i64 2)]) w6) (k1
 (ByteArray.extract s (Int.toNat 1) (ByteArray.size s)) w6)) (k1 s w6))) (fun (s7 : ByteArray) w8 => ∃ s9 : Sl, ∃ w10 : World, Sem.run Tryz.prog (convert Ty.string Ty.Sl_uint8 (.string s7)) w8 = .ok (.slice s9.a s9.len s9.cap) w10 ∧ ∃ (I11 :
 Int → Int → World → Prop) (μ12 : Int → Int → World → Nat), I11 0 0 w10 ∧ ∀ (n13 : Int) (n14 : Int) (w15 : World), I11 n13 n14 w15 → Br (decide (n14 < (s9.len:Int))) (∃ a16 : Addr, s9.a = some a16 ∧ bd n14 s9.len ∧ r4 w15 (a16.add (Int.toNat
 n14 * 1)) fun n17 => Br (decide (((IntKind.wrap .u8 (n17 - 48)) : Int) > 9)) (Q (.tuple #[.int .i64 0, .iface Ty.strconv_Error (.int .i64 2)]) w15) (I11 (wI ((wI (n13 * 10)) + (wI (IntKind.wrap .u8 (n17 - 48))))) (wI (n14 + 1)) w15 ∧ μ12
 (wI ((wI (n13 * 10)) + (wI (IntKind.wrap .u8 (n17 - 48))))) (wI (n14 + 1)) w15 < μ12 n13 n14 w15)) (Jn (fun k18 : Int → World → Prop => (0 : Int) ≤ 0 ∧ ∃ b19 : UInt8, byteAt s (Int.toNat 0) = some b19 ∧ Br ((((b19.toNat : Nat) : Int) : Int)
 == 45) (k18 (wI (0 - n13)) w15) (k18 n13 w15)) (fun (n20 : Int) w21 => Q (.tuple #[.int .i64 n20, .nilIface]) w21)))) (c3 F.internal_strconv_ParseInt #[.string s, .int .i64 10, .int .i64 0] w fun n24 v25 w22 => Q (.tuple #[.int .i64 n24,
 v25]) w22)
def A.internal_strconv_Atoi : AT := (.s .r (.s .r (.s (.s (.reg [.run, .pure 6, .run, .run, .pure 2, .run, .run, .run, .run, .pure 8, .pure 6, .run, .run, .pure 2]) (.c (.s .r (.s (.jk [(0, .str)] [5] (.s (.reg [.run, .run, .run, .run,
 .split 3]) (.c (.s .r a1) .l))) (.s .r (.s (.s .r (.blk (.loop [(6, (.int .i64)), (49, (.int .i64))] [5, 47, 48] a18))) (.s (.jk [(6, (.int .i64))] [] (.s .r (.c .r .l))) (.s .r .l)))))) .l)) (.s .r (.s .r .l)))))
theorem W.internal_strconv_Atoi_ok (s : ByteArray) (w : World) (Q : Value → World → Prop) (h : W.internal_strconv_Atoi s w Q) : Ret Tryz.prog F.internal_strconv_Atoi #[.string s] w Q := okF A.internal_strconv_Atoi Tryz.func166 (by kernel_rfl) (by kernel_rfl) h
def W.cmp_isNaN_int (x : Int) (w : World) (Q : Value → World → Prop) : Prop := Q (.bool (x != x)) w
def A.cmp_isNaN_int : AT := (.s .r (.s .r .l))
theorem W.cmp_isNaN_int_ok (x : Int) (w : World) (Q : Value → World → Prop) (h : W.cmp_isNaN_int x w Q) : Ret Tryz.prog F.cmp_isNaN_int #[.int .i64 x] w Q := okF A.cmp_isNaN_int Tryz.func168 (by kernel_rfl) (by kernel_rfl) h
end Go.Proofs.YtgljoledlhmhnaaGreatDoor
namespace Go.Proofs.YtgljoledlhmhnaaGreatDoor
open Go Gx
set_option maxRecDepth 100000
def W.math_bits_Len64 (x : Int) (w : World) (Q : Value → World → Prop) : Prop := Jn (fun k1 : Int → Int → World → Prop => Br (decide (x ≥ 4294967296)) ((0 : Int) ≤ 32 ∧ k1 (Int.fdiv x (2 ^ (min (Int.toNat 32) 64))) 32 w) (k1 x 0 w)) (fun
 (n2 : Int) (n3 : Int) w4 => Jn (fun k5 : Int → Int → World → Prop => Br (decide (n2 ≥ 65536)) ((0 : Int) ≤ 16 ∧ k5 (Int.fdiv n2 (2 ^ (min (Int.toNat 16) 64))) (wI (n3 + 16)) w4) (k5 n2 n3 w4)) (fun (n6 : Int) (n7 : Int) w8 => Jn (fun k9 :
 Int → Int → World → Prop => Br (decide (n6 ≥ 256)) ((0 : Int) ≤ 8 ∧ k9 (Int.fdiv n6 (2 ^ (min (Int.toNat 8) 64))) (wI (n7 + 8)) w8) (k9 n6 n7 w8)) (fun (n10 : Int) (n11 : Int) w12 => (0 : Int) ≤ (IntKind.wrap .u8 n10) ∧ ∃ b13 : UInt8,
 byteAt (ByteArray.mk #[0, 1, 2, 2, 3, 3, 3, 3, 4, 4, 4, 4, 4, 4, 4, 4, 5, 5, 5, 5, 5, 5, 5, 5, 5, 5, 5, 5, 5, 5, 5, 5, 6, 6, 6, 6, 6, 6, 6, 6, 6, 6, 6, 6, 6, 6, 6, 6, 6, 6, 6, 6, 6, 6, 6, 6, 6, 6, 6, 6, 6, 6, 6, 6, 7, 7, 7, 7, 7, 7, 7, 7,
 7, 7, 7, 7, 7, 7, 7, 7, 7, 7, 7, 7, 7, 7, 7, 7, 7, 7, 7, 7, 7, 7, 7, 7, 7, 7, 7, 7, 7, 7, 7, 7, 7, 7, 7, 7, 7, 7, 7, 7, 7, 7, 7, 7, 7, 7, 7, 7, 7, 7, 7, 7, 7, 7, 7, 7, 8, 8, 8, 8, 8, 8, 8, 8, 8, 8, 8, 8, 8, 8, 8, 8, 8, 8, 8, 8, 8, 8, 8, 8,
 8, 8, 8, 8, 8, 8, 8, 8, 8, 8, 8, 8, 8, 8, 8, 8, 8, 8, 8, 8, 8, 8, 8, 8, 8, 8, 8, 8, 8, 8, 8, 8, 8, 8, 8, 8, 8, 8, 8, 8, 8, 8, 8, 8, 8, 8, 8, 8, 8, 8, 8, 8, 8, 8, 8, 8, 8, 8, 8, 8, 8, 8, 8, 8, 8, 8, 8, 8, 8, 8, 8, 8, 8, 8, 8, 8, 8, 8, 8, 8,
 8, 8, 8, 8, 8, 8, 8, 8, 8, 8, 8, 8, 8, 8, 8, 8, 8, 8, 8, 8, 8, 8, 8, 8]) (Int.toNat (IntKind.wrap .u8 n10)) = some b13 ∧ Q (.int .i64 (wI (n11 + (wI ((b13.toNat : Nat) : Int))))) w12)))
def A.math_bits_Len64 : AT := (.s .r (.s (.jk [(0, (.int .u64)), (2, (.int .i64))] [] a12) (.s (.jk [(0, (.int .u64)), (2, (.int .i64))] [] a12) (.s (.jk [(0, (.int .u64)), (2, (.int .i64))] [] a12) (.s .r .l)))))
theorem W.math_bits_Len64_ok (x : Int) (w : World) (Q : Value → World → Prop) (h : W.math_bits_Len64 x w Q) : Ret Tryz.prog F.math_bits_Len64 #[.int .u64 x] w Q := okF A.math_bits_Len64 Tryz.func180 (by kernel_rfl) (by kernel_rfl) h
def W.internal_strconv_log10Pow2 (x : Int) (w : World) (Q : Value → World → Prop) : Prop := (0 : Int) ≤ 18 ∧ Q (.int .i64 (Int.fdiv (wI (x * 78913)) (2 ^ (min (Int.toNat 18) 64)))) w
def A.internal_strconv_log10Pow2 : AT := (.s .r (.s .r .l))
theorem W.internal_strconv_log10Pow2_ok (x : Int) (w : World) (Q : Value → World → Prop) (h : W.internal_strconv_log10Pow2 x w Q) : Ret Tryz.prog F.internal_strconv_log10Pow2 #[.int .i64 x] w Q := okF A.internal_strconv_log10Pow2 Tryz.func183 (by kernel_rfl) (by kernel_rfl) h
def W.internal_strconv_bool2_int (b : Bool) (w : World) (Q : Value → World → Prop) : Prop := Br b (Q (.int .i64 1) w) (Q (.int .i64 0) w)
def A.internal_strconv_bool2_int : AT := a17
theorem W.internal_strconv_bool2_int_ok (b : Bool) (w : World) (Q : Value → World → Prop) (h : W.internal_strconv_bool2_int b w Q) : Ret Tryz.prog F.internal_strconv_bool2_int #[.bool b] w Q := okF A.internal_strconv_bool2_int Tryz.func184 (by kernel_rfl) (by kernel_rfl) h
def W.internal_strconv_isPowerOfTwo (x : Int) (w : World) (Q : Value → World → Prop) : Prop := Q (.bool (((bAnd .i64 x (wI (x - 1))) : Int) == 0)) w
def A.internal_strconv_isPowerOfTwo : AT := (.s .r (.s .r .l))
theorem W.internal_strconv_isPowerOfTwo_ok (x : Int) (w : World) (Q : Value → World → Prop) (h : W.internal_strconv_isPowerOfTwo x w Q) : Ret Tryz.prog F.internal_strconv_isPowerOfTwo #[.int .i64 x] w Q := okF A.internal_strconv_isPowerOfTwo Tryz.func185 (by kernel_rfl) (by kernel_rfl) h
def W.math_bits_TrailingZeros (x : Int) (w : World) (Q : Value → World → Prop) : Prop := Br false (c1 F.math_bits_TrailingZeros32 #[.int .u32 (IntKind.wrap .u32 x)] w fun n3 w1 => Q (.int .i64 n3) w1) (c1 F.math_bits_TrailingZeros64 #[.int
 .u64 x] w fun n6 w4 => Q (.int .i64 n6) w4)
def A.math_bits_TrailingZeros : AT := (.s .r (.s (.c (.s .r .l) .l) (.s .r .l)))
theorem W.math_bits_TrailingZeros_ok (x : Int) (w : World) (Q : Value → World → Prop) (h : W.math_bits_TrailingZeros x w Q) : Ret Tryz.prog F.math_bits_TrailingZeros #[.int .u64 x] w Q := okF A.math_bits_TrailingZeros Tryz.func186 (by kernel_rfl) (by kernel_rfl) h
end Go.Proofs.YtgljoledlhmhnaaGreatDoor
namespace Go.Proofs.YtgljoledlhmhnaaGreatDoor
open Go Gx
set_option maxRecDepth 100000
def W.internal_strconv_lower (c : Int) (w : World) (Q : Value → World → Prop) : Prop := Q (.int .u8 (bOr .u8 c 32)) w
def A.internal_strconv_lower : AT := (.s .r (.s .r .l))
theorem W.internal_strconv_lower_ok (c : Int) (w : World) (Q : Value → World → Prop) (h : W.internal_strconv_lower c w Q) : Ret Tryz.prog F.internal_strconv_lower #[.int .u8 c] w Q := okF A.internal_strconv_lower Tryz.func188 (by kernel_rfl) (by kernel_rfl) h
def W.strconv_syntaxError (fn : ByteArray) (str : ByteArray) (w : World) (Q : Value → World → Prop) : Prop := Nx (w.drew) fun w1 => ∃ W2 : Nat → Prop, ¬ W2 (⟨6, 0, none⟩ : Addr).block ∧ r6 w1 ⟨6, 0, none⟩ fun v3 => T22 str w1 W2 fn v3 Q
def A.strconv_syntaxError : AT := a6
theorem W.strconv_syntaxError_ok (fn : ByteArray) (str : ByteArray) (w : World) (Q : Value → World → Prop) (h : W.strconv_syntaxError fn str w Q) : Ret Tryz.prog F.strconv_syntaxError #[.string fn, .string str] w Q := okF A.strconv_syntaxError Tryz.func190 (by kernel_rfl) (by kernel_rfl) h
def W.strconv_rangeError (fn : ByteArray) (str : ByteArray) (w : World) (Q : Value → World → Prop) : Prop := Nx (w.drew) fun w1 => ∃ W2 : Nat → Prop, ¬ W2 (⟨7, 0, none⟩ : Addr).block ∧ r6 w1 ⟨7, 0, none⟩ fun v3 => T22 str w1 W2 fn v3 Q
def A.strconv_rangeError : AT := a6
theorem W.strconv_rangeError_ok (fn : ByteArray) (str : ByteArray) (w : World) (Q : Value → World → Prop) (h : W.strconv_rangeError fn str w Q) : Ret Tryz.prog F.strconv_rangeError #[.string fn, .string str] w Q := okF A.strconv_rangeError Tryz.func191 (by kernel_rfl) (by kernel_rfl) h
def W.internal_strconv_ParseInt (s : ByteArray) (base : Int) (bitSize : Int) (w : World) (Q : Value → World → Prop) : Prop := Br (ByteArray.toList s == ByteArray.toList (ByteArray.mk #[])) (Q (.tuple #[.int .i64 0, .iface Ty.strconv_Error
 (.int .i64 2)]) w) (Jn (fun k1 : ByteArray → Bool → World → Prop => (0 : Int) ≤ 0 ∧ ∃ b2 : UInt8, byteAt s (Int.toNat 0) = some b2 ∧ Br ((((b2.toNat : Nat) : Int) : Int) == 43) (((0 : Int) ≤ 1 ∧ 1 ≤ (((ByteArray.size s) : Nat) : Int)) ∧ k1
 (ByteArray.extract s (Int.toNat 1) (ByteArray.size s)) false w) (Br ((((b2.toNat : Nat) : Int) : Int) == 45) (((0 : Int) ≤ 1 ∧ 1 ≤ (((ByteArray.size s) : Nat) : Int)) ∧ k1 (ByteArray.extract s (Int.toNat 1) (ByteArray.size s)) true w) (k1 s
 false w))) (fun (s3 : ByteArray) (b4 : Bool) w5 => c7 F.internal_strconv_ParseUint #[.string s3, .int .i64 base, .int .i64 bitSize] w5 fun n8 v9 w6 => ∃ b10 : Bool, ifaceNil v9 = some b10 ∧ Jn (fun k11 : Bool → World → Prop => Br (!b10) (∃
 b12 : Bool, OpqEq Tryz.prog .neq Ty.error (.tmp 35) (.tmp 36) (v9) (.iface Ty.strconv_Error (.int .i64 1)) b12 ∧ k11 b12 w6) (k11 false w6)) (fun (b13 : Bool) w14 => Br b13 (Q (.tuple #[.int .i64 0, v9]) w14) (Jn (fun k15 : Int → World →
 Prop => Br (bitSize == 0) (k15 64 w14) (k15 bitSize w14)) (fun (n16 : Int) w17 => (0 : Int) ≤ (IntKind.wrap .u64 (wI (n16 - 1))) ∧ Br ((!b4) && (decide (n8 ≥ (IntKind.wrap .u64 (1 * 2 ^ (min (Int.toNat (IntKind.wrap .u64 (wI (n16 - 1))))
 64)))))) (Q (.tuple #[.int .i64 (wI (IntKind.wrap .u64 ((IntKind.wrap .u64 (1 * 2 ^ (min (Int.toNat (IntKind.wrap .u64 (wI (n16 - 1)))) 64))) - 1))) , .iface Ty.strconv_Error (.int .i64 1)]) w17) (Br (b4 && (decide (n8 > (IntKind.wrap .u64
 (1 * 2 ^ (min (Int.toNat (IntKind.wrap .u64 (wI (n16 - 1)))) 64)))))) (Q (.tuple #[.int .i64 (wI (0 - (wI (IntKind.wrap .u64 (1 * 2 ^ (min (Int.toNat (IntKind.wrap .u64 (wI (n16 - 1)))) 64)))))) , .iface Ty.strconv_Error (.int .i64 1)])
 w17) (Jn (fun k18 : Int → World → Prop => Br b4 (k18 (wI (0 - (wI n8))) w17) (k18 (wI n8) w17)) (fun (n19 : Int) w20 => Q (.tuple #[.int .i64 n19, .nilIface]) w20))))))))
def A.internal_strconv_ParseInt : AT := (.s .r (.s a1 (.s .r (.s (.jk [(0, .str), (8, .bool)] [1, 2] (.s .r (.blk (.s .r (.c .r a12))))) (.s .r (.s .r (.s a10 (.s (.jk [(2, (.int .i64))] [8, 9] (.s .r (.c .r .l))) (.s .r (.s (.s (.reg
 [.run, .run, .run, .pure 3]) (.c (.s .r .l) .l)) (.s (.s (.reg [.run, .run, .pure 3]) (.c (.s .r .l) .l)) (.s .r (.s (.jk [(11, (.int .i64))] [] (.s .r (.c .r .l))) (.s .r .l))))))))))))))
theorem W.internal_strconv_ParseInt_ok (s : ByteArray) (base : Int) (bitSize : Int) (w : World) (Q : Value → World → Prop) (h : W.internal_strconv_ParseInt s base bitSize w Q) : Ret Tryz.prog F.internal_strconv_ParseInt #[.string s, .int .i64 base, .int .i64 bitSize] w Q := okF A.internal_strconv_ParseInt Tryz.func194 (by kernel_rfl) (by kernel_rfl) h
def W.strings_Contains (s : ByteArray) (substr : ByteArray) (w : World) (Q : Value → World → Prop) : Prop := c1 F.strings_Index #[.string s, .string substr] w fun n3 w1 => Q (.bool (decide (n3 ≥ 0))) w1
def A.strings_Contains : AT := (.s .r (.s .r .l))
theorem W.strings_Contains_ok (s : ByteArray) (substr : ByteArray) (w : World) (Q : Value → World → Prop) (h : W.strings_Contains s substr w Q) : Ret Tryz.prog F.strings_Contains #[.string s, .string substr] w Q := okF A.strings_Contains Tryz.func195 (by kernel_rfl) (by kernel_rfl) h
def W.math_bits_TrailingZeros64 (x : Int) (w : World) (Q : Value → World → Prop) : Prop := Br (x == 0) (Q (.int .i64 64) w) ((0 : Int) ≤ 58 ∧ ((0 : Int) ≤ (Int.fdiv (IntKind.wrap .u64 ((bAnd .u64 x (IntKind.wrap .u64 (0 - x))) *
 285870213051353865)) (2 ^ (min (Int.toNat 58) 64))) ∧ (Int.fdiv (IntKind.wrap .u64 ((bAnd .u64 x (IntKind.wrap .u64 (0 - x))) * 285870213051353865)) (2 ^ (min (Int.toNat 58) 64))) < ((64 : Nat) : Int)) ∧ r4 w (Addr.add ⟨9, 0, none⟩
 (Int.toNat (Int.fdiv (IntKind.wrap .u64 ((bAnd .u64 x (IntKind.wrap .u64 (0 - x))) * 285870213051353865)) (2 ^ (min (Int.toNat 58) 64))) * 1)) fun n1 => Q (.int .i64 (wI n1)) w)
def A.math_bits_TrailingZeros64 : AT := a17
theorem W.math_bits_TrailingZeros64_ok (x : Int) (w : World) (Q : Value → World → Prop) (h : W.math_bits_TrailingZeros64 x w Q) : Ret Tryz.prog F.math_bits_TrailingZeros64 #[.int .u64 x] w Q := okF A.math_bits_TrailingZeros64 Tryz.func205 (by kernel_rfl) (by kernel_rfl) h
def W.internal_stringslite_Clone (s : ByteArray) (w : World) (Q : Value → World → Prop) : Prop := Br ((((ByteArray.size s : Nat) : Int) : Int) == 0) (Q (.string (ByteArray.mk #[])) w) (((0 : Int) ≤ ((ByteArray.size s : Nat) : Int) ∧
 (((ByteArray.size s : Nat) : Int) : Int) ≤ ((ByteArray.size s : Nat) : Int) ∧ (((ByteArray.size s : Nat) : Int) : Int) ≤ mI ∧ ((1 : Nat) : Int) * ((ByteArray.size s : Nat) : Int) ≤ 140737488355328) ∧ Nx (w.alloc (.cells (zrow Tryz.prog
 Ty.uint8 (Int.toNat ((ByteArray.size s : Nat) : Int))) Ty.uint8)) fun w1 => ∃ n2 : Int, ∃ w3 : World, Sem.run Tryz.prog (Builtin.copy_ #[Ty.Sl_uint8, Ty.string] Ty.int #[.slice (some (nA w)) (Int.toNat ((ByteArray.size s : Nat) : Int))
 (Int.toNat ((ByteArray.size s : Nat) : Int)), .string s]) w1 = .ok (.int .i64 n2) w3 ∧ ∃ a4 : Addr, (some (nA w)) = some a4 ∧ ((0 : Int) ≤ 0 ∧ 0 < (((Int.toNat ((ByteArray.size s : Nat) : Int)) : Nat) : Int)) ∧ ∃ s5 : ByteArray, ∃ w6 :
 World, Sem.run Tryz.prog (Builtin.unsafeString_ #[Ty.P_uint8, Ty.int] Ty.string #[.pointer (some (a4.add (Int.toNat 0 * 1))), .int .i64 (((Int.toNat ((ByteArray.size s : Nat) : Int)) : Nat) : Int)]) w3 = .ok (.string s5) w6 ∧ Q (.string s5)
 w6)
def A.internal_stringslite_Clone : AT := (.s .r (.s a1 a7))
theorem W.internal_stringslite_Clone_ok (s : ByteArray) (w : World) (Q : Value → World → Prop) (h : W.internal_stringslite_Clone s w Q) : Ret Tryz.prog F.internal_stringslite_Clone #[.string s] w Q := okF A.internal_stringslite_Clone Tryz.func206 (by kernel_rfl) (by kernel_rfl) h
def W.slices_Clone_Sl_byte_byte (s : Sl) (w : World) (Q : Value → World → Prop) : Prop := Br (Option.isNone s.a) (Q (.slice none 0 0) w) (Nx (w.alloc (.cells #[] Ty.uint8)) fun w1 => ∃ s2 : Sl, ∃ w3 : World, Sem.run Tryz.prog
 (Builtin.append_ #[Ty.Sl_uint8, Ty.Sl_uint8] Ty.Sl_uint8 #[.slice (some (nA w)) 0 0, .slice s.a s.len s.cap]) w1 = .ok (.slice s2.a s2.len s2.cap) w3 ∧ Q (.slice s2.a s2.len s2.cap) w3)
def A.slices_Clone_Sl_byte_byte : AT := a17
theorem W.slices_Clone_Sl_byte_byte_ok (s : Sl) (w : World) (Q : Value → World → Prop) (h : W.slices_Clone_Sl_byte_byte s w Q) : Ret Tryz.prog F.slices_Clone_Sl_byte_byte #[.slice s.a s.len s.cap] w Q := okF A.slices_Clone_Sl_byte_byte Tryz.func211 (by kernel_rfl) (by kernel_rfl) h
end Go.Proofs.YtgljoledlhmhnaaGreatDoor
namespace Go.Proofs.YtgljoledlhmhnaaGreatDoor
open Go Gx
set_option maxRecDepth 100000
def W.script_Print (l : Sl) (w : World) (Q : Value → World → Prop) : Prop := Br (decide ((l.len:Int) > 1000)) (Q (.tuple #[.string (ByteArray.mk #[]), .int .i64 10]) w) (Nx (w.alloc z2) fun w1 => ∃ (I2 : Int → World → Prop) (μ3 : Int →
 World → Nat), I2 0 w1 ∧ ∀ (n4 : Int) (w5 : World), I2 n4 w5 → Br (decide (n4 < (l.len:Int))) (ix l n4 w5 51 fun l7 => al w5 z4 l7 51 fun w9 => ∃ l10 : List Value, rdCells w9 (nA w5) 0 51 = some l10 ∧ c4 F.script_show #[.agg l10.toArray] w9
 fun s13 w11 => Br (ByteArray.toList s13 == ByteArray.toList (ByteArray.mk #[])) (Q (.tuple #[.string (ByteArray.mk #[]), .int .i64 1]) w11) (((ByteArray.size s13 + ByteArray.size (ByteArray.mk #[10]) : Nat) : Int) ≤ mI ∧ c3
 F.strings_Builder_WriteString #[.pointer (some (nA w)), .string (s13 ++ (ByteArray.mk #[10]))] w11 fun n16 v17 w14 => I2 (wI (n4 + 1)) w14 ∧ μ3 (wI (n4 + 1)) w14 < μ3 n4 w5)) (c4 F.strings_Builder_String #[.pointer (some (nA w))] w5 fun s20
 w18 => Q (.tuple #[.string s20, .int .i64 0]) w18))
def A.script_Print : AT := (.s .r (.s a1 (.s .r (.s (.s .r (.blk (.loop [(13, (.int .i64))] [4, 11, 12] a18))) (.s .r .l)))))
theorem W.script_Print_ok (l : Sl) (w : World) (Q : Value → World → Prop) (h : W.script_Print l w Q) : Ret Tryz.prog F.script_Print #[.slice l.a l.len l.cap] w Q := okF A.script_Print Tryz.func16 (by kernel_rfl) (by kernel_rfl) h
def W.conf_Diff (a : Sl) (b : Sl) (w : World) (Q : Value → World → Prop) : Prop := c12 F.conf_diff #[.slice a.a a.len a.cap, .slice b.a b.len b.cap] w fun s3 n4 w1 => Q (.tuple #[.slice s3.a s3.len s3.cap, .int .i64 n4]) w1
def A.conf_Diff : AT := (.s .r (.s .r .l))
theorem W.conf_Diff_ok (a : Sl) (b : Sl) (w : World) (Q : Value → World → Prop) (h : W.conf_Diff a b w Q) : Ret Tryz.prog F.conf_Diff #[.slice a.a a.len a.cap, .slice b.a b.len b.cap] w Q := okF A.conf_Diff Tryz.func18 (by kernel_rfl) (by kernel_rfl) h
def W.conf_Steps (l : Sl) (w : World) (Q : Value → World → Prop) : Prop := c12 F.conf_diff #[.slice none 0 0, .slice l.a l.len l.cap] w fun s3 n4 w1 => Q (.tuple #[.slice s3.a s3.len s3.cap, .int .i64 n4]) w1
def A.conf_Steps : AT := (.s .r (.s .r .l))
theorem W.conf_Steps_ok (l : Sl) (w : World) (Q : Value → World → Prop) (h : W.conf_Steps l w Q) : Ret Tryz.prog F.conf_Steps #[.slice l.a l.len l.cap] w Q := okF A.conf_Steps Tryz.func19 (by kernel_rfl) (by kernel_rfl) h
def W.conf_Text (l : Sl) (w : World) (Q : Value → World → Prop) : Prop := c12 F.conf_diff #[.slice none 0 0, .slice l.a l.len l.cap] w fun s3 n4 w1 => Br (n4 != 0) (Q (.tuple #[.string (ByteArray.mk #[]), .int .i64 n4]) w1) (c13
 F.script_Print #[.slice s3.a s3.len s3.cap] w1 fun s7 n8 w5 => Q (.tuple #[.string s7, .int .i64 n8]) w5)
def A.conf_Text : AT := (.s .r a17)
theorem W.conf_Text_ok (l : Sl) (w : World) (Q : Value → World → Prop) (h : W.conf_Text l w Q) : Ret Tryz.prog F.conf_Text #[.slice l.a l.len l.cap] w Q := okF A.conf_Text Tryz.func20 (by kernel_rfl) (by kernel_rfl) h
def W.conf_Good (l : Sl) (w : World) (Q : Value → World → Prop) : Prop := c9 F.conf_good #[.slice l.a l.len l.cap] w fun b3 w1 => Q (.bool b3) w1
def A.conf_Good : AT := (.s .r (.s .r .l))
theorem W.conf_Good_ok (l : Sl) (w : World) (Q : Value → World → Prop) (h : W.conf_Good l w Q) : Ret Tryz.prog F.conf_Good #[.slice l.a l.len l.cap] w Q := okF A.conf_Good Tryz.func21 (by kernel_rfl) (by kernel_rfl) h
def W.conf_Same (a : Sl) (b : Sl) (w : World) (Q : Value → World → Prop) : Prop := c9 F.slices_EqualFunc_Sl_api_Service_Sl_api_Service_api_Service_a #[.slice a.a a.len a.cap, .slice b.a b.len b.cap, .func (.func F.conf_Same_1) #[] #[]] w
 fun b3 w1 => Q (.bool b3) w1
def A.conf_Same : AT := (.s .r (.s .r .l))
theorem W.conf_Same_ok (a : Sl) (b : Sl) (w : World) (Q : Value → World → Prop) (h : W.conf_Same a b w Q) : Ret Tryz.prog F.conf_Same #[.slice a.a a.len a.cap, .slice b.a b.len b.cap] w Q := okF A.conf_Same Tryz.func23 (by kernel_rfl) (by kernel_rfl) h
def W.script_show (op : Array Value) (w : World) (Q : Value → World → Prop) : Prop := Nx (w.alloc (.cells op Ty.api_Op)) fun w1 => r3 w1 (nA w) fun n2 => Jn (fun k3 : Bool → World → Prop => Br (decide (n2 < 1)) (k3 true w1) (r3 w1 (nA w)
 fun n4 => k3 (decide (n4 > 14)) w1)) (fun (b5 : Bool) w6 => Jn (fun k7 : Bool → World → Prop => Br b5 (k7 true w6) (r1 w6 (Addr.add (nA w) 1) fun s8 => k7 (decide ((s8.len:Int) > 4200)) w6)) (fun (b9 : Bool) w10 => Jn (fun k11 : Bool →
 World → Prop => Br b9 (k11 true w10) (r1 w10 (Addr.add (nA w) 50) fun s12 => k11 (decide ((s12.len:Int) > 4200)) w10)) (fun (b13 : Bool) w14 => Br b13 (Q (.string (ByteArray.mk #[])) w14) (∃ l15 : List Value, rdCells w14 (nA w) 0 51 = some
 l15 ∧ c5 F.script_written #[.agg l15.toArray] w14 fun s18 w16 => c4 F.strings_Join #[.slice s18.a s18.len s18.cap, .string (ByteArray.mk #[32])] w16 fun s21 w19 => c14 F.script_parsed #[.string s21] w19 fun c24 b25 w22 => Nx (w22.alloc z4)
 fun w26 => StoreOk w26 (nA w22) (Array.toList c24) ∧ Array.size c24 = 51 ∧ Nx (setCells w26 (nA w22) 0 (Array.toList c24)) fun w27 => Jn (fun k28 : Bool → World → Prop => Br (!b25) (k28 true w27) (∃ l29 : List Value, rdCells w27 (nA w22) 0
 51 = some l29 ∧ ∃ l30 : List Value, rdCells w27 (nA w) 0 51 = some l30 ∧ c9 F.script_same #[.agg l29.toArray, .agg l30.toArray] w27 fun b33 w31 => k28 (!b33) w31)) (fun (b34 : Bool) w35 => Br (b34 || (decide ((((ByteArray.size s21 : Nat) :
 Int) : Int) > 4200))) (Q (.string (ByteArray.mk #[])) w35) (Q (.string s21) w35))))))
def A.script_show : AT := (.s .r (.s (.s (.reg [.run, .run, .run, .run, .split 3, .run, .run, .run, .run, .split 4, .run, .run, .run, .run, .run, .split 4]) (.c (.s .r .l) .l)) (.s .r (.s (.s .r (.s (.reg [.run, .run, .run, .split 4, .run,
 .run, .run, .run, .run, .pure 3]) (.c (.s .r .l) .l))) (.s .r .l)))))
theorem W.script_show_ok (op : Array Value) (w : World) (Q : Value → World → Prop) (h : W.script_show op w Q) : Ret Tryz.prog F.script_show #[.agg op] w Q := okF A.script_show Tryz.func29 (by kernel_rfl) (by kernel_rfl) h
def W.conf_diff (a : Sl) (b : Sl) (w : World) (Q : Value → World → Prop) : Prop := c9 F.conf_good #[.slice a.a a.len a.cap] w fun b3 w1 => Jn (fun k4 : Bool → World → Prop => Br (!b3) (k4 true w1) (c9 F.conf_good #[.slice b.a b.len b.cap]
 w1 fun b7 w5 => k4 (!b7) w5)) (fun (b8 : Bool) w9 => Br b8 (Q (.tuple #[.slice none 0 0, .int .i64 1]) w9) (Nx (w9.alloc (.cells #[.slice none 0 0] Ty.conf_differ)) fun w10 => ∃ (I11 : Int → World → Prop) (μ12 : Int → World → Nat), I11 0
 w10 ∧ ∀ (n13 : Int) (w14 : World), I11 n13 w14 → Br (decide (n13 < (a.len:Int))) (Jn (fun k15 : World → Prop => ix a n13 w14 23 fun l17 => al w14 z1 l17 23 fun w19 => ∃ l20 : List Value, rdCells w19 (nA w14) 0 23 = some l20 ∧ c14 F.conf_of
 #[.slice b.a b.len b.cap, .agg l20.toArray] w19 fun c23 b24 w21 => Nx (w21.alloc z1) fun w25 => StoreOk w25 (nA w21) (Array.toList c23) ∧ Array.size c23 = 23 ∧ Nx (setCells w25 (nA w21) 0 (Array.toList c23)) fun w26 => Br (!b24) (r3 w26 (nA
 w14) fun n27 => ∃ c28 : Array Value, Sem.run Tryz.prog (Instr.build Ty.api_Op #[(0, .int .i64 4), (2, .int .i64 n27)]) w26 = .ok (.agg c28) w26 ∧ c2 F.conf_differ_put #[.pointer (some (nA w9)), .agg c28] w26 fun w29 => k15 w29) (k15 w26))
 (fun w31 => I11 (wI (n13 + 1)) w31 ∧ μ12 (wI (n13 + 1)) w31 < μ12 n13 w14)) (∃ (I32 : Int → World → Prop) (μ33 : Int → World → Nat), I32 0 w14 ∧ ∀ (n34 : Int) (w35 : World), I32 n34 w35 → Br (decide (n34 < (b.len:Int))) (ix b n34 w35 23 fun
 l37 => al w35 z1 l37 23 fun w39 => ∃ l40 : List Value, rdCells w39 (nA w35) 0 23 = some l40 ∧ c14 F.conf_of #[.slice a.a a.len a.cap, .agg l40.toArray] w39 fun c43 b44 w41 => Nx (w41.alloc z1) fun w45 => StoreOk w45 (nA w41) (Array.toList
 c43) ∧ Array.size c43 = 23 ∧ Nx (setCells w45 (nA w41) 0 (Array.toList c43)) fun w46 => ∃ l47 : List Value, rdCells w46 (nA w41) 0 23 = some l47 ∧ ∃ l48 : List Value, rdCells w46 (nA w35) 0 23 = some l48 ∧ c2 F.conf_differ_service
 #[.pointer (some (nA w9)), .agg l47.toArray, .bool b44, .agg l48.toArray] w46 fun w49 => I32 (wI (n34 + 1)) w49 ∧ μ33 (wI (n34 + 1)) w49 < μ33 n34 w35) (∃ a51 : Addr, (some (nA w9) : Option Addr) = some a51 ∧ r1 w35 a51 fun s52 => Q (.tuple
 #[.slice s52.a s52.len s52.cap, .int .i64 0]) w35))))
def A.conf_diff : AT := (.s .r (.s (.s (.reg [.run, .run, .run, .run, .split 3]) (.c (.s .r .l) .l)) (.s .r (.s (.s .r (.blk (.loop [(27, (.int .i64))] [0, 1, 6, 25, 26] (.s .r (.s (.c .l .l) (.s (.jk [] [0, 1, 6, 25, 26, 27] (.blk (.s .r
 (.s .r (.s .r (.c .r .l)))))) .r)))))) (.s (.s .r (.blk (.loop [(47, (.int .i64))] [0, 6, 45, 46] a5))) (.s .r .l))))))
theorem W.conf_diff_ok (a : Sl) (b : Sl) (w : World) (Q : Value → World → Prop) (h : W.conf_diff a b w Q) : Ret Tryz.prog F.conf_diff #[.slice a.a a.len a.cap, .slice b.a b.len b.cap] w Q := okF A.conf_diff Tryz.func42 (by kernel_rfl) (by kernel_rfl) h
def W.conf_good (l : Sl) (w : World) (Q : Value → World → Prop) : Prop := c11 F.farm_New #[] w fun p3 w1 => ∃ (I4 : Sl → Int → World → Prop) (μ5 : Sl → Int → World → Nat), I4 ⟨none, 0, 0⟩ 0 w1 ∧ ∀ (s6 : Sl) (n7 : Int) (w8 : World), I4 s6 n7
 w8 → Br (decide (n7 < (l.len:Int))) (ix l n7 w8 23 fun l10 => al w8 z1 l10 23 fun w12 => r3 w12 (nA w8) fun n13 => Nx (w12.alloc (.cells #[.int .i64 n13] Ty.int)) fun w14 => ∃ s15 : Sl, ∃ w16 : World, Sem.run Tryz.prog (Builtin.append_
 #[Ty.Sl_int, Ty.Sl_int] Ty.Sl_int #[.slice s6.a s6.len s6.cap, .slice (some (nA w12)) 1 1]) w14 = .ok (.slice s15.a s15.len s15.cap) w16 ∧ ∃ l17 : List Value, rdCells w16 (nA w8) 0 23 = some l17 ∧ c9 F.conf_lays #[.pointer p3, .agg
 l17.toArray] w16 fun b20 w18 => Br (!b20) (Q (.bool false) w18) (I4 s15 (wI (n7 + 1)) w18 ∧ μ5 s15 (wI (n7 + 1)) w18 < μ5 s6 n7 w8)) (c9 F.conf_rises #[.slice s6.a s6.len s6.cap] w8 fun b23 w21 => Q (.bool b23) w21)
def A.conf_good : AT := (.s .r (.s .r (.s .r (.s (.s .r (.blk (.loop [(4, .slice), (10, (.int .i64))] [3, 8, 9] a21))) (.s .r .l)))))
theorem W.conf_good_ok (l : Sl) (w : World) (Q : Value → World → Prop) (h : W.conf_good l w Q) : Ret Tryz.prog F.conf_good #[.slice l.a l.len l.cap] w Q := okF A.conf_good Tryz.func43 (by kernel_rfl) (by kernel_rfl) h
def W.conf_Same_1 (s : Array Value) (t : Array Value) (w : World) (Q : Value → World → Prop) : Prop := Nx (w.alloc (.cells s Ty.api_Service)) fun w1 => Nx (w1.alloc (.cells t Ty.api_Service)) fun w2 => ∃ l3 : List Value, rdCells w2 (nA w) 0
 23 = some l3 ∧ ∃ l4 : List Value, rdCells w2 (nA w1) 0 23 = some l4 ∧ c9 F.conf_alike #[.agg l3.toArray, .agg l4.toArray] w2 fun b7 w5 => Jn (fun k8 : Bool → World → Prop => Br b7 (r1 w5 (Addr.add (nA w) 22) fun s9 => r1 w5 (Addr.add (nA
 w1) 22) fun s10 => c9 F.slices_Equal_Sl_api_Backend_api_Backend #[.slice s9.a s9.len s9.cap, .slice s10.a s10.len s10.cap] w5 fun b13 w11 => k8 b13 w11) (k8 false w5)) (fun (b14 : Bool) w15 => Q (.bool b14) w15)
def A.conf_Same_1 : AT := (.s .r (.s (.reg [.run, .run, .run, .run, .split 5]) .l))
theorem W.conf_Same_1_ok (s : Array Value) (t : Array Value) (w : World) (Q : Value → World → Prop) (h : W.conf_Same_1 s t w Q) : Ret Tryz.prog F.conf_Same_1 #[.agg s, .agg t] w Q := okF A.conf_Same_1 Tryz.func47 (by kernel_rfl) (by kernel_rfl) h
def W.conf_alike (a : Array Value) (b : Array Value) (w : World) (Q : Value → World → Prop) : Prop := T6 w a b Q
def A.conf_alike : AT := a4
theorem W.conf_alike_ok (a : Array Value) (b : Array Value) (w : World) (Q : Value → World → Prop) (h : W.conf_alike a b w Q) : Ret Tryz.prog F.conf_alike #[.agg a, .agg b] w Q := okF A.conf_alike Tryz.func48 (by kernel_rfl) (by kernel_rfl) h
def W.farm_New  (w : World) (Q : Value → World → Prop) : Prop := ∃ m1 : Option Nat, ∃ w2 : World, Sem.run Tryz.prog (Instr.makeMap Ty.map_int_P_api_Service none) w = .ok (.map m1) w2 ∧ ∃ m3 : Option Nat, ∃ w4 : World, Sem.run Tryz.prog
 (Instr.makeMap Ty.map_farm_door_int none) w2 = .ok (.map m3) w4 ∧ Nx (w4.alloc (.cells #[.map m1, .map m3] Ty.farm_Farm)) fun w5 => Q (.pointer (some (nA w4))) w5
def A.farm_New : AT := (.s .r (.s .r .l))
theorem W.farm_New_ok  (w : World) (Q : Value → World → Prop) (h : W.farm_New  w Q) : Ret Tryz.prog F.farm_New #[] w Q := okF A.farm_New Tryz.func51 (by kernel_rfl) (by kernel_rfl) h
def W.conf_Apply (f : Option Addr) (l : Sl) (w : World) (Q : Value → World → Prop) : Prop := Br (Option.isNone f) (Q (.tuple #[.int .i64 0, .int .i64 1]) w) (∃ (I1 : Int → World → Prop) (μ2 : Int → World → Nat), I1 0 w ∧ ∀ (n3 : Int) (w4 :
 World), I1 n3 w4 → Br (decide (n3 < (l.len:Int))) (ix l n3 w4 51 fun l6 => al w4 z4 l6 51 fun w8 => ∃ l9 : List Value, rdCells w8 (nA w4) 0 51 = some l9 ∧ c1 F.conf_does #[.pointer f, .agg l9.toArray] w8 fun n12 w10 => Br (n12 != 0) (Q
 (.tuple #[.int .i64 n3, .int .i64 n12]) w10) (I1 (wI (n3 + 1)) w10 ∧ μ2 (wI (n3 + 1)) w10 < μ2 n3 w4)) (Q (.tuple #[.int .i64 (l.len:Int), .int .i64 0]) w4))
def A.conf_Apply : AT := (.s .r (.s a1 (.s (.s .r (.blk (.loop [(13, (.int .i64))] [0, 1, 11, 12] a21))) (.s .r .l))))
theorem W.conf_Apply_ok (f : Option Addr) (l : Sl) (w : World) (Q : Value → World → Prop) (h : W.conf_Apply f l w Q) : Ret Tryz.prog F.conf_Apply #[.pointer f, .slice l.a l.len l.cap] w Q := okF A.conf_Apply Tryz.func52 (by kernel_rfl) (by kernel_rfl) h
def W.conf_Of (f : Option Addr) (w : World) (Q : Value → World → Prop) : Prop := c5 F.farm_Farm_IDs #[.pointer f] w fun s3 w1 => ∃ (I4 : Sl → Int → World → Prop) (μ5 : Sl → Int → World → Nat), I4 ⟨none, 0, 0⟩ 0 w1 ∧ ∀ (s6 : Sl) (n7 : Int)
 (w8 : World), I4 s6 n7 w8 → Br (decide (n7 < (s3.len:Int))) (∃ a9 : Addr, s3.a = some a9 ∧ bd n7 s3.len ∧ r3 w8 (a9.add (Int.toNat n7 * 1)) fun n10 => c14 F.farm_Farm_Service #[.pointer f, .int .i64 n10] w8 fun c13 b14 w11 => Nx (w11.alloc
 z1) fun w15 => StoreOk w15 (nA w11) (Array.toList c13) ∧ Array.size c13 = 23 ∧ Nx (setCells w15 (nA w11) 0 (Array.toList c13)) fun w16 => ∃ l17 : List Value, rdCells w16 (nA w11) 0 23 = some l17 ∧ T17 l17 w16 s6 I4 n7 μ5 w8) (Q (.slice s6.a
 s6.len s6.cap) w8)
def A.conf_Of : AT := (.s .r (.s .r (.s (.s .r (.blk (.loop [(3, .slice), (11, (.int .i64))] [0, 9, 10] a5))) (.s .r .l))))
theorem W.conf_Of_ok (f : Option Addr) (w : World) (Q : Value → World → Prop) (h : W.conf_Of f w Q) : Ret Tryz.prog F.conf_Of #[.pointer f] w Q := okF A.conf_Of Tryz.func53 (by kernel_rfl) (by kernel_rfl) h
def W.script_written (op : Array Value) (w : World) (Q : Value → World → Prop) : Prop := Nx (w.alloc (.cells op Ty.api_Op)) fun w1 => Nx (w1.alloc (.cells #[.slice none 0 0] Ty.script_line)) fun w2 => Nx (w2.drew) fun w3 => ∃ W4 : Nat →
 Prop, ¬ W4 ((nA w) : Addr).block ∧ r3 w3 (nA w) fun n5 => c5 F.script_names #[] w3 fun s8 w6 => Chg W4 w3 w6 ∧ ∃ a9 : Addr, s8.a = some a9 ∧ bd (wI (n5 - 1)) s8.len ∧ ¬ W4 (a9.add (Int.toNat (wI (n5 - 1)) * 1)).block ∧ r2 w6 (a9.add
 (Int.toNat (wI (n5 - 1)) * 1)) fun s10 => Nx (w6.alloc (.cells #[.string s10] Ty.string)) fun w11 => Chg W4 w6 w11 ∧ c2 F.script_line_text #[.pointer (some (nA w1)), .slice (some (nA w6)) 1 1] w11 fun w12 => Jn (fun k14 : World → Prop => r3
 w12 (nA w) fun n15 => Br (n15 == 1) (r1 w12 (Addr.add (nA w) 1) fun s16 => c4 F.script_hex #[.slice s16.a s16.len s16.cap] w12 fun s19 w17 => Nx (w17.alloc (.cells #[.string s19] Ty.string)) fun w20 => c2 F.script_line_text #[.pointer (some
 (nA w1)), .slice (some (nA w17)) 1 1] w20 fun w21 => k14 w21) (Br (n15 == 2) (r5 w12 (Addr.add (nA w) 4) fun n23 => c2 F.script_line_long #[.pointer (some (nA w1)), .int .u64 n23] w12 fun w24 => k14 w24) (Br (n15 == 3) (∃ l26 : List Value,
 rdCells w12 (Addr.add (nA w) 6) 0 23 = some l26 ∧ al w12 z1 l26 23 fun w28 => r3 w28 (nA w12) fun n29 => Nx (w28.alloc (.cells #[.int .i64 n29] Ty.int)) fun w30 => c2 F.script_line_ints #[.pointer (some (nA w1)), .slice (some (nA w28)) 1 1]
 w30 fun w31 => ∃ l33 : List Value, rdCells w31 (Addr.add (nA w12) 1) 0 17 = some l33 ∧ c4 F.addr_Show #[.agg l33.toArray] w31 fun s36 w34 => Nx (w34.alloc (.cells #[.string s36] Ty.string)) fun w37 => c2 F.script_line_text #[.pointer (some
 (nA w1)), .slice (some (nA w34)) 1 1] w37 fun w38 => r7 w38 (Addr.add (nA w12) 18) fun n40 => r4 w38 (Addr.add (nA w12) 19) fun n41 => r3 w38 (Addr.add (nA w12) 20) fun n42 => Nx (w38.alloc (.cells #[.int .i64 (wI n40), .int .i64 (wI n41),
 .int .i64 n42] Ty.int)) fun w43 => c2 F.script_line_ints #[.pointer (some (nA w1)), .slice (some (nA w38)) 3 3] w43 fun w44 => r5 w44 (Addr.add (nA w12) 21) fun n46 => c2 F.script_line_long #[.pointer (some (nA w1)), .int .u64 n46] w44 fun
 w47 => k14 w47) (Br (n15 == 4) (r3 w12 (Addr.add (nA w) 2) fun n49 => Nx (w12.alloc (.cells #[.int .i64 n49] Ty.int)) fun w50 => c2 F.script_line_ints #[.pointer (some (nA w1)), .slice (some (nA w12)) 1 1] w50 fun w51 => k14 w51) (Br (n15
 == 5) (r3 w12 (Addr.add (nA w) 2) fun n53 => r3 w12 (Addr.add (nA w) 29) fun n54 => Nx (w12.alloc (.cells #[.int .i64 n53, .int .i64 n54] Ty.int)) fun w55 => c2 F.script_line_ints #[.pointer (some (nA w1)), .slice (some (nA w12)) 2 2] w55
 fun w56 => ∃ l58 : List Value, rdCells w56 ((Addr.add (nA w) 29).add 1) 0 17 = some l58 ∧ c4 F.addr_Show #[.agg l58.toArray] w56 fun s61 w59 => Nx (w59.alloc (.cells #[.string s61] Ty.string)) fun w62 => c2 F.script_line_text #[.pointer
 (some (nA w1)), .slice (some (nA w59)) 1 1] w62 fun w63 => r7 w63 ((Addr.add (nA w) 29).add 18) fun n65 => r3 w63 ((Addr.add (nA w) 29).add 19) fun n66 => Nx (w63.alloc (.cells #[.int .i64 (wI n65), .int .i64 n66] Ty.int)) fun w67 => c2
 F.script_line_ints #[.pointer (some (nA w1)), .slice (some (nA w63)) 2 2] w67 fun w68 => k14 w68) (Jn (fun k70 : Bool → World → Prop => Br (n15 == 6) (k70 (n15 == 6) w12) (k70 (n15 == 12) w12)) (fun (b71 : Bool) w72 => Br b71 (r3 w72
 (Addr.add (nA w) 2) fun n73 => r3 w72 (Addr.add (nA w) 3) fun n74 => Nx (w72.alloc (.cells #[.int .i64 n73, .int .i64 n74] Ty.int)) fun w75 => c2 F.script_line_ints #[.pointer (some (nA w1)), .slice (some (nA w72)) 2 2] w75 fun w76 => k14
 w76) (Jn (fun k78 : Bool → World → Prop => Br (n15 == 7) (k78 (n15 == 7) w72) (k78 (n15 == 9) w72)) (fun (b79 : Bool) w80 => Br b79 (r3 w80 (Addr.add (nA w) 2) fun n81 => r3 w80 (Addr.add (nA w) 3) fun n82 => Nx (w80.alloc (.cells #[.int
 .i64 n81, .int .i64 n82] Ty.int)) fun w83 => c2 F.script_line_ints #[.pointer (some (nA w1)), .slice (some (nA w80)) 2 2] w83 fun w84 => r8 w84 (Addr.add (nA w) 5) fun b86 => c4 F.script_on #[.bool b86] w84 fun s89 w87 => Nx (w87.alloc
 (.cells #[.string s89] Ty.string)) fun w90 => c2 F.script_line_text #[.pointer (some (nA w1)), .slice (some (nA w87)) 1 1] w90 fun w91 => k14 w91) (Jn (fun k93 : Bool → World → Prop => Br (n15 == 8) (k93 (n15 == 8) w80) (k93 (n15 == 13)
 w80)) (fun (b94 : Bool) w95 => Br b94 (r3 w95 (Addr.add (nA w) 2) fun n96 => r3 w95 (Addr.add (nA w) 3) fun n97 => Nx (w95.alloc (.cells #[.int .i64 n96, .int .i64 n97] Ty.int)) fun w98 => c2 F.script_line_ints #[.pointer (some (nA w1)),
 .slice (some (nA w95)) 2 2] w98 fun w99 => r5 w99 (Addr.add (nA w) 4) fun n101 => c2 F.script_line_long #[.pointer (some (nA w1)), .int .u64 n101] w99 fun w102 => k14 w102) (Br (n15 == 11) (r1 w95 (Addr.add (nA w) 50) fun s104 => c2
 F.script_line_ints #[.pointer (some (nA w1)), .slice s104.a s104.len s104.cap] w95 fun w105 => k14 w105) (k14 w95))))))))))))) (fun w107 => ∃ a108 : Addr, (some (nA w1) : Option Addr) = some a108 ∧ r1 w107 a108 fun s109 => Q (.slice s109.a
 s109.len s109.cap) w107)
def A.script_written : AT := (.s .r (.s .r (.s (.drw 8 true ⟨[0, 0, 0, 4, 8, 18, 32, 64, 131], [0, 0, 0, 4, 8, 18, 32, 64, 129]⟩ [128, 256, 512, 1024, 2048, 4096, 8192, 16384, 32768] [8, 0, 2, 512, 1024, 2304, 4096, 8192, 16512] (.take 0
 (.take 2 (.take 3 (.take 4 (.eff 1 (.take 5 (.take 6 (.eff 7 (.tail [.run])))))))))) (.s (.jk [] [3] (.s .r (.blk (.s .r (.c .r (.s .r (.c .r (.s .r (.c (.s .r (.s .r (.s .r (.s .r .r)))) (.s .r (.c .r (.s .r (.c (.s .r (.s .r .r)) (.s (.jk
 [(96, .bool)] [1, 3, 17] (.s .r (.c .l .r))) (.c .r (.s (.jk [(106, .bool)] [1, 3, 17] (.s .r (.c .l .r))) (.c (.s .r .r) (.s (.jk [(122, .bool)] [1, 3, 17] (.s .r (.c .l .r))) (.c (.s .r .r) (.s .r (.c .r .l))))))))))))))))))))) (.s .r
 .l)))))
theorem W.script_written_ok (op : Array Value) (w : World) (Q : Value → World → Prop) (h : W.script_written op w Q) : Ret Tryz.prog F.script_written #[.agg op] w Q := okF A.script_written Tryz.func57 (by kernel_rfl) (by kernel_rfl) h
def W.script_parsed (s : ByteArray) (w : World) (Q : Value → World → Prop) : Prop := Nx (w.alloc z4) fun w1 => c5 F.strings_Split #[.string s, .string (ByteArray.mk #[32])] w1 fun s4 w2 => c5 F.script_names #[] w2 fun s7 w5 => ∃ (I8 : Int →
 World → Prop) (μ9 : Int → World → Nat), I8 0 w5 ∧ ∀ (n10 : Int) (w11 : World), I8 n10 w11 → Br (decide (n10 < (s7.len:Int))) (∃ a12 : Addr, s7.a = some a12 ∧ bd n10 s7.len ∧ r2 w11 (a12.add (Int.toNat n10 * 1)) fun s13 => ∃ a14 : Addr, s4.a
 = some a14 ∧ bd 0 s4.len ∧ r2 w11 (a14.add (Int.toNat 0 * 1)) fun s15 => Br (ByteArray.toList s15 == ByteArray.toList s13) (((0 : Int) ≤ 1 ∧ 1 ≤ (s4.len:Int)) ∧ Nx (w11.alloc (.cells #[.slice (cutA s4.a 1 (Int.toNat 1) s4.cap) (s4.len -
 (Int.toNat 1)) (s4.cap - (Int.toNat 1)), .bool true] Ty.script_reader)) fun w16 => c15 F.script_reader_step #[.pointer (some (nA w11)), .int .i64 (wI (n10 + 1))] w16 fun c19 w17 => Nx (w17.alloc z4) fun w20 => StoreOk w20 (nA w17)
 (Array.toList c19) ∧ Array.size c19 = 51 ∧ Nx (setCells w20 (nA w17) 0 (Array.toList c19)) fun w21 => Nx (w21.drew) fun w22 => ∃ W23 : Nat → Prop, ¬ W23 ((nA w17) : Addr).block ∧ ∃ l24 : List Value, rdCells w22 (nA w17) 0 51 = some l24 ∧ ∃
 a25 : Addr, (some (nA w11) : Option Addr) = some a25 ∧ ¬ W23 (a25.add 1).block ∧ r8 w22 (a25.add 1) fun b26 => Br b26 (∃ a27 : Addr, (some (nA w11) : Option Addr) = some a27 ∧ ¬ W23 a27.block ∧ r1 w22 a27 fun s28 => StoreOk w22 (nA w)
 (Array.toList l24.toArray) ∧ Array.size l24.toArray = 51 ∧ Nx (setCells w22 (nA w) 0 (Array.toList l24.toArray)) fun w29 => Chg W23 w22 w29 ∧ ∃ l30 : List Value, rdCells w29 (nA w) 0 51 = some l30 ∧ Q (.tuple #[.agg l30.toArray, .bool
 ((s28.len:Int) == 0)]) w29) (StoreOk w22 (nA w) (Array.toList l24.toArray) ∧ Array.size l24.toArray = 51 ∧ Nx (setCells w22 (nA w) 0 (Array.toList l24.toArray)) fun w31 => Chg W23 w22 w31 ∧ ∃ l32 : List Value, rdCells w31 (nA w) 0 51 = some
 l32 ∧ Q (.tuple #[.agg l32.toArray, .bool false]) w31)) (I8 (wI (n10 + 1)) w11 ∧ μ9 (wI (n10 + 1)) w11 < μ9 n10 w11)) (∃ c33 : Array Value, Sem.run Tryz.prog (Instr.build Ty.api_Op #[]) w11 = .ok (.agg c33) w11 ∧ StoreOk w11 (nA w)
 (Array.toList c33) ∧ Array.size c33 = 51 ∧ Nx (setCells w11 (nA w) 0 (Array.toList c33)) fun w34 => ∃ l35 : List Value, rdCells w34 (nA w) 0 51 = some l35 ∧ Q (.tuple #[.agg l35.toArray, .bool false]) w34)
def A.script_parsed : AT := (.s .r (.s .r (.s (.s .r (.blk (.loop [(13, (.int .i64))] [2, 4, 11, 12] (.s .r (.s (.c .l .l) (.s (.blk (.s .r (.s .r (.c (.s .r (.s .r (.s (.drw 14 true ⟨[0, 0, 2, 4, 8, 16, 32, 96, 160, 288, 544, 1056, 2080,
 33, 16383], [0, 0, 2, 4, 8, 16, 32, 96, 160, 288, 544, 1056, 2080, 1, 4096]⟩ [2147483648, 4294967296, 8589934592, 17179869184, 34359738368, 68719476736, 137438953472, 274877906944, 549755813888, 1099511627776, 2199023255552, 4398046511104,
 8796093022208, 0, 8] [256, 128, 4294967296, 8589934592, 17179869184, 34359738368, 68719476864, 206158430208, 343597383680, 618475290624, 1168231104512, 2267742732288, 4466765987840, 2147483652, 8796093022208] (.take 0 (.take 1 (.take 2
 (.take 3 (.take 4 (.take 5 (.sp 36 (.take 6 (.take 7 (.take 8 (.take 9 (.take 10 (.take 11 (.take 12 (.eff 13 (.tail [.run]))))))))) (.take 6 (.take 7 (.take 8 (.take 9 (.take 10 (.take 11 (.take 12 (.eff 13 (.tail [.run])))))))))))))))))
 .l))) .l)))) .r)))))) (.s .r .l))))
theorem W.script_parsed_ok (s : ByteArray) (w : World) (Q : Value → World → Prop) (h : W.script_parsed s w Q) : Ret Tryz.prog F.script_parsed #[.string s] w Q := okF A.script_parsed Tryz.func58 (by kernel_rfl) (by kernel_rfl) h
def W.script_same (a : Array Value) (b : Array Value) (w : World) (Q : Value → World → Prop) : Prop := Nx (w.alloc (.cells a Ty.api_Op)) fun w1 => Nx (w1.alloc (.cells b Ty.api_Op)) fun w2 => Nx (w2.drew) fun w3 => ∃ W4 : Nat → Prop, ¬ W4
 (Addr.add (nA w) 6).block ∧ ∃ l5 : List Value, rdCells w3 (Addr.add (nA w) 6) 0 23 = some l5 ∧ ¬ W4 (Addr.add (nA w1) 6).block ∧ ∃ l6 : List Value, rdCells w3 (Addr.add (nA w1) 6) 0 23 = some l6 ∧ (Nx (w3.alloc z1) fun w7 => Chg W4 w3 w7 ∧
 Nx (w7.alloc z1) fun w8 => Chg W4 w7 w8 ∧ StoreOk w8 (nA w3) (Array.toList l5.toArray) ∧ Array.size l5.toArray = 23 ∧ Nx (setCells w8 (nA w3) 0 (Array.toList l5.toArray)) fun w9 => Chg W4 w8 w9 ∧ StoreOk w9 (nA w7) (Array.toList l6.toArray)
 ∧ Array.size l6.toArray = 23 ∧ Nx (setCells w9 (nA w7) 0 (Array.toList l6.toArray)) fun w10 => r3 w10 (nA w3) fun n11 => r3 w10 (nA w7) fun n12 => Jn (fun k13 : Bool → World → Prop => T10 n11 n12 w10 w3 w7 k13) (fun (b17 : Bool) w18 => Jn
 (fun k19 : Bool → World → Prop => Br b17 (r7 w18 (Addr.add (nA w3) 18) fun n20 => r7 w18 (Addr.add (nA w7) 18) fun n21 => k19 (n20 == n21) w18) (k19 false w18)) (fun (b22 : Bool) w23 => Jn (fun k24 : Bool → World → Prop => Br b22 (r4 w23
 (Addr.add (nA w3) 19) fun n25 => r4 w23 (Addr.add (nA w7) 19) fun n26 => k24 (n25 == n26) w23) (k24 false w23)) (fun (b27 : Bool) w28 => Jn (fun k29 : Bool → World → Prop => Br b27 (r3 w28 (Addr.add (nA w3) 20) fun n30 => r3 w28 (Addr.add
 (nA w7) 20) fun n31 => k29 (n30 == n31) w28) (k29 false w28)) (fun (b32 : Bool) w33 => Jn (fun k34 : Bool → World → Prop => Br b32 (r5 w33 (Addr.add (nA w3) 21) fun n35 => r5 w33 (Addr.add (nA w7) 21) fun n36 => k34 (n35 == n36) w33) (k34
 false w33)) (fun (b37 : Bool) w38 => Jn (fun k39 : Bool → World → Prop => Br b37 (r1 w38 (Addr.add (nA w3) 22) fun s40 => r1 w38 (Addr.add (nA w7) 22) fun s41 => k39 ((s40.len:Int) == (s41.len:Int)) w38) (k39 false w38)) (fun (b42 : Bool)
 w43 => Jn (fun k44 : Bool → World → Prop => Br (!b42) (k44 true w43) (r3 w43 (nA w) fun n45 => r3 w43 (nA w1) fun n46 => k44 (n45 != n46) w43)) (fun (b47 : Bool) w48 => Jn (fun k49 : Bool → World → Prop => Br b47 (k49 true w48) (r3 w48
 (Addr.add (nA w) 2) fun n50 => r3 w48 (Addr.add (nA w1) 2) fun n51 => k49 (n50 != n51) w48)) (fun (b52 : Bool) w53 => Jn (fun k54 : Bool → World → Prop => Br b52 (k54 true w53) (r3 w53 (Addr.add (nA w) 3) fun n55 => r3 w53 (Addr.add (nA w1)
 3) fun n56 => k54 (n55 != n56) w53)) (fun (b57 : Bool) w58 => Jn (fun k59 : Bool → World → Prop => Br b57 (k59 true w58) (r5 w58 (Addr.add (nA w) 4) fun n60 => r5 w58 (Addr.add (nA w1) 4) fun n61 => k59 (n60 != n61) w58)) (fun (b62 : Bool)
 w63 => Jn (fun k64 : Bool → World → Prop => Br b62 (k64 true w63) (r8 w63 (Addr.add (nA w) 5) fun b65 => r8 w63 (Addr.add (nA w1) 5) fun b66 => k64 (!(b65 == b66)) w63)) (fun (b67 : Bool) w68 => Jn (fun k69 : Bool → World → Prop => Br b67
 (k69 true w68) (∃ l70 : List Value, rdCells w68 (Addr.add (nA w) 29) 0 21 = some l70 ∧ ∃ l71 : List Value, rdCells w68 (Addr.add (nA w1) 29) 0 21 = some l71 ∧ ∃ b72 : Bool, AggEq Tryz.prog Ty.api_Backend l70.toArray l71.toArray b72 ∧ k69
 (!b72) w68)) (fun (b73 : Bool) w74 => Jn (fun k75 : Bool → World → Prop => Br b73 (k75 true w74) (r1 w74 (Addr.add (nA w) 1) fun s76 => ∃ s77 : ByteArray, ∃ w78 : World, Sem.run Tryz.prog (convert Ty.Sl_uint8 Ty.string (.slice s76.a s76.len
 s76.cap)) w74 = .ok (.string s77) w78 ∧ T8 w78 w1 k75 s77)) (fun (b82 : Bool) w83 => Jn (fun k84 : Bool → World → Prop => Br b82 (k84 true w83) (r1 w83 (Addr.add (nA w) 50) fun s85 => r1 w83 (Addr.add (nA w1) 50) fun s86 => k84
 ((s85.len:Int) != (s86.len:Int)) w83)) (fun (b87 : Bool) w88 => Br b87 (Q (.bool false) w88) (r1 w88 (Addr.add (nA w) 50) fun s89 => ∃ (I90 : Int → World → Prop) (μ91 : Int → World → Nat), I90 0 w88 ∧ ∀ (n92 : Int) (w93 : World), I90 n92
 w93 → T5 n92 s89 w93 w w1 Q I90 μ91)))))))))))))))) ∧ (Nx (w3.alloc z1) fun w101 => Chg W4 w3 w101 ∧ Nx (w101.alloc z1) fun w102 => Chg W4 w101 w102 ∧ StoreOk w102 (nA w101) (Array.toList l5.toArray) ∧ Array.size l5.toArray = 23 ∧ Nx
 (setCells w102 (nA w101) 0 (Array.toList l5.toArray)) fun w103 => Chg W4 w102 w103 ∧ StoreOk w103 (nA w3) (Array.toList l6.toArray) ∧ Array.size l6.toArray = 23 ∧ Nx (setCells w103 (nA w3) 0 (Array.toList l6.toArray)) fun w104 => r3 w104
 (nA w101) fun n105 => r3 w104 (nA w3) fun n106 => Jn (fun k107 : Bool → World → Prop => T10 n105 n106 w104 w101 w3 k107) (fun (b111 : Bool) w112 => Jn (fun k113 : Bool → World → Prop => Br b111 (r7 w112 (Addr.add (nA w101) 18) fun n114 =>
 r7 w112 (Addr.add (nA w3) 18) fun n115 => k113 (n114 == n115) w112) (k113 false w112)) (fun (b116 : Bool) w117 => Jn (fun k118 : Bool → World → Prop => Br b116 (r4 w117 (Addr.add (nA w101) 19) fun n119 => r4 w117 (Addr.add (nA w3) 19) fun
 n120 => k118 (n119 == n120) w117) (k118 false w117)) (fun (b121 : Bool) w122 => Jn (fun k123 : Bool → World → Prop => Br b121 (r3 w122 (Addr.add (nA w101) 20) fun n124 => r3 w122 (Addr.add (nA w3) 20) fun n125 => k123 (n124 == n125) w122)
 (k123 false w122)) (fun (b126 : Bool) w127 => Jn (fun k128 : Bool → World → Prop => Br b126 (r5 w127 (Addr.add (nA w101) 21) fun n129 => r5 w127 (Addr.add (nA w3) 21) fun n130 => k128 (n129 == n130) w127) (k128 false w127)) (fun (b131 :
 Bool) w132 => Jn (fun k133 : Bool → World → Prop => Br b131 (r1 w132 (Addr.add (nA w101) 22) fun s134 => r1 w132 (Addr.add (nA w3) 22) fun s135 => k133 ((s134.len:Int) == (s135.len:Int)) w132) (k133 false w132)) (fun (b136 : Bool) w137 =>
 Jn (fun k138 : Bool → World → Prop => Br (!b136) (k138 true w137) (r3 w137 (nA w) fun n139 => r3 w137 (nA w1) fun n140 => k138 (n139 != n140) w137)) (fun (b141 : Bool) w142 => Jn (fun k143 : Bool → World → Prop => Br b141 (k143 true w142)
 (r3 w142 (Addr.add (nA w) 2) fun n144 => r3 w142 (Addr.add (nA w1) 2) fun n145 => k143 (n144 != n145) w142)) (fun (b146 : Bool) w147 => Jn (fun k148 : Bool → World → Prop => Br b146 (k148 true w147) (r3 w147 (Addr.add (nA w) 3) fun n149 =>
 r3 w147 (Addr.add (nA w1) 3) fun n150 => k148 (n149 != n150) w147)) (fun (b151 : Bool) w152 => Jn (fun k153 : Bool → World → Prop => Br b151 (k153 true w152) (r5 w152 (Addr.add (nA w) 4) fun n154 => r5 w152 (Addr.add (nA w1) 4) fun n155 =>
 k153 (n154 != n155) w152)) (fun (b156 : Bool) w157 => Jn (fun k158 : Bool → World → Prop => Br b156 (k158 true w157) (r8 w157 (Addr.add (nA w) 5) fun b159 => r8 w157 (Addr.add (nA w1) 5) fun b160 => k158 (!(b159 == b160)) w157)) (fun (b161
 : Bool) w162 => Jn (fun k163 : Bool → World → Prop => Br b161 (k163 true w162) (∃ l164 : List Value, rdCells w162 (Addr.add (nA w) 29) 0 21 = some l164 ∧ ∃ l165 : List Value, rdCells w162 (Addr.add (nA w1) 29) 0 21 = some l165 ∧ ∃ b166 :
 Bool, AggEq Tryz.prog Ty.api_Backend l164.toArray l165.toArray b166 ∧ k163 (!b166) w162)) (fun (b167 : Bool) w168 => Jn (fun k169 : Bool → World → Prop => Br b167 (k169 true w168) (r1 w168 (Addr.add (nA w) 1) fun s170 => ∃ s171 : ByteArray,
 ∃ w172 : World, Sem.run Tryz.prog (convert Ty.Sl_uint8 Ty.string (.slice s170.a s170.len s170.cap)) w168 = .ok (.string s171) w172 ∧ T8 w172 w1 k169 s171)) (fun (b176 : Bool) w177 => Jn (fun k178 : Bool → World → Prop => Br b176 (k178 true
 w177) (r1 w177 (Addr.add (nA w) 50) fun s179 => r1 w177 (Addr.add (nA w1) 50) fun s180 => k178 ((s179.len:Int) != (s180.len:Int)) w177)) (fun (b181 : Bool) w182 => Br b181 (Q (.bool false) w182) (r1 w182 (Addr.add (nA w) 50) fun s183 => ∃
 (I184 : Int → World → Prop) (μ185 : Int → World → Nat), I184 0 w182 ∧ ∀ (n186 : Int) (w187 : World), I184 n186 w187 → T5 n186 s183 w187 w w1 Q I184 μ185))))))))))))))))
def A.script_same : AT := (.s .r (.s (.drw 7 true ⟨[0, 1, 0, 4, 0, 0, 51, 127], [0, 1, 0, 4, 0, 0, 18, 40]⟩ [512, 1024, 2048, 4096, 32, 64, 0, 0] [4, 512, 8, 2048, 0, 0, 1056, 4160] (.take 0 (.take 1 (.take 2 (.take 3 (.two 4 (.eff 5 (.eff
 6 (.tail [.run]))) 5 (.eff 4 (.eff 6 (.tail [.run]))))))))) (.s (.reg [.run, .run, .run, .run, .run, .run, .split 5, .run, .run, .run, .run, .run, .run, .split 5, .run, .run, .run, .run, .run, .run, .split 5, .run, .run, .run, .run, .run,
 .run, .split 5, .run, .run, .run, .run, .run, .run, .split 5, .run, .run, .run, .run, .run, .run, .split 7]) (.s (.s (.reg [.run, .run, .run, .split 5, .run, .run, .run, .run, .run, .run, .split 5, .run, .run, .run, .run, .run, .run, .split
 5, .run, .run, .run, .run, .run, .run, .split 5, .run, .run, .run, .run, .run, .run, .split 5, .run, .run, .run, .run, .run, .run, .split 5, .run, .run, .run, .run, .run, .run, .split 7, .run, .run, .run, .run, .run, .run, .run, .run,
 .split 7]) (.c (.s .r .l) .l)) (.s (.s .r (.blk (.loop [(127, (.int .i64))] [2, 3, 126] (.s .r (.s (.c .l .l) (.s (.blk (.s .r (.s (.drw 10 false ⟨[0, 1, 0, 6, 8, 0, 32, 0, 192, 256, 528], [0, 1, 0, 6, 8, 0, 32, 0, 192, 256, 528]⟩
 [1361129467683753853853498429727072845824, 2722258935367507707706996859454145691648, 5444517870735015415413993718908291383296, 10889035741470030830827987437816582766592, 21778071482940061661655974875633165533184,
 43556142965880123323311949751266331066368, 87112285931760246646623899502532662132736, 174224571863520493293247799005065324265472, 348449143727040986586495598010130648530944, 696898287454081973172991196020261297061888,
 1393796574908163946345982392040522594123776] [4, 1361129467683753853853498429727072845824, 256, 8166776806102523123120990578362437074944, 10889035741470030830827987437816582766592, 8, 43556142965880123323311949751266331066368, 256,
 261336857795280739939871698507597986398208, 348449143727040986586495598010130648530944, 718676358937022034834647170895894462595072] (.take 0 (.take 1 (.take 2 (.take 3 (.take 4 (.take 5 (.take 6 (.take 7 (.take 8 (.take 9 (.tail
 [.run])))))))))))) (.c (.s .r .l) .l)))) .r)))))) (.s .r .l))))))
theorem W.script_same_ok (a : Array Value) (b : Array Value) (w : World) (Q : Value → World → Prop) (h : W.script_same a b w Q) : Ret Tryz.prog F.script_same #[.agg a, .agg b] w Q := okF A.script_same Tryz.func59 (by kernel_rfl) (by kernel_rfl) h
def W.conf_of (l : Sl) (s : Array Value) (w : World) (Q : Value → World → Prop) : Prop := Nx (w.alloc (.cells s Ty.api_Service)) fun w1 => Nx (w1.alloc z1) fun w2 => c1 F.slices_IndexFunc_Sl_api_Service_api_Service #[.slice l.a l.len l.cap,
 .func (.func F.conf_of_1) #[] #[.pointer (some (nA w))]] w2 fun n5 w3 => Br (decide (n5 < 0)) (T9 w3 w1 Q) (ix l n5 w3 23 fun l10 => T23 w3 w1 l10 Q)
def A.conf_of : AT := (.s .r a17)
theorem W.conf_of_ok (l : Sl) (s : Array Value) (w : World) (Q : Value → World → Prop) (h : W.conf_of l s w Q) : Ret Tryz.prog F.conf_of #[.slice l.a l.len l.cap, .agg s] w Q := okF A.conf_of Tryz.func66 (by kernel_rfl) (by kernel_rfl) h
def W.conf_differ_put (d : Option Addr) (op : Array Value) (w : World) (Q : Value → World → Prop) : Prop := Nx (w.alloc (.cells op Ty.api_Op)) fun w1 => Nx (w1.drew) fun w2 => ∃ W3 : Nat → Prop, ∃ a4 : Addr, d = some a4 ∧ ¬ W3 a4.block ∧ r1
 w2 a4 fun s5 => ¬ W3 ((nA w) : Addr).block ∧ ∃ l6 : List Value, rdCells w2 (nA w) 0 51 = some l6 ∧ ∃ s7 : Sl, ∃ w8 : World, Sem.run Tryz.prog (Instr.buildSlice Ty.Sl_api_Op 1 #[(0, .agg l6.toArray)]) w2 = .ok (.slice s7.a s7.len s7.cap) w8
 ∧ Chg W3 w2 w8 ∧ ∃ s9 : Sl, ∃ w10 : World, Sem.run Tryz.prog (Builtin.append_ #[Ty.Sl_api_Op, Ty.Sl_api_Op] Ty.Sl_api_Op #[.slice s5.a s5.len s5.cap, .slice s7.a s7.len s7.cap]) w8 = .ok (.slice s9.a s9.len s9.cap) w10 ∧ Chg W3 w8 w10 ∧ ∃
 a11 : Addr, d = some a11 ∧ (∃ u : Value, w10.cell? a11 = some u) ∧ w10.frozen? a11 = false ∧ Nx (w10.setCell a11 (.slice s9.a s9.len s9.cap)) fun w12 => Q (.tuple #[]) w12
def A.conf_differ_put : AT := (.s .r (.drw 8 true ⟨[0, 0, 2, 4, 8, 0, 32, 80, 255, 511, 767], [0, 0, 2, 4, 8, 0, 32, 80, 1, 256, 640]⟩ [16, 32, 64, 128, 256, 512, 1024, 2048, 4096, 8192, 0] [1, 1, 32, 64, 128, 8, 512, 1280, 16, 4096, 10240]
 (.take 0 (.take 1 (.take 2 (.take 3 (.take 4 (.take 5 (.eff 6 (.eff 7 (.tail [.run, .run, .run])))))))))))
theorem W.conf_differ_put_ok (d : Option Addr) (op : Array Value) (w : World) (Q : Value → World → Prop) (h : W.conf_differ_put d op w Q) : Ret Tryz.prog F.conf_differ_put #[.pointer d, .agg op] w Q := okF A.conf_differ_put Tryz.func67 (by kernel_rfl) (by kernel_rfl) h
def W.conf_differ_service (d : Option Addr) (was : Array Value) (there : Bool) (s : Array Value) (w : World) (Q : Value → World → Prop) : Prop := Nx (w.alloc (.cells was Ty.api_Service)) fun w1 => Nx (w1.alloc (.cells s Ty.api_Service)) fun
 w2 => Jn (fun k3 : World → Prop => Br (!there) (∃ l4 : List Value, rdCells w2 (nA w1) 0 23 = some l4 ∧ c15 F.conf_bare #[.agg l4.toArray] w2 fun c7 w5 => ∃ c8 : Array Value, Sem.run Tryz.prog (Instr.build Ty.api_Op #[(0, .int .i64 3), (6,
 .agg c7)]) w5 = .ok (.agg c8) w5 ∧ c2 F.conf_differ_put #[.pointer d, .agg c8] w5 fun w9 => k3 w9) (k3 w2)) (fun w11 => r1 w11 (Addr.add (nA w) 22) fun s12 => ∃ (I13 : Int → World → Prop) (μ14 : Int → World → Nat), I13 0 w11 ∧ ∀ (n15 : Int)
 (w16 : World), I13 n15 w16 → Br (decide (n15 < (s12.len:Int))) (Jn (fun k17 : World → Prop => ix s12 n15 w16 21 fun l19 => al w16 z5 l19 21 fun w21 => r1 w21 (Addr.add (nA w1) 22) fun s22 => ∃ l23 : List Value, rdCells w21 (nA w16) 0 21 =
 some l23 ∧ c14 F.conf_at #[.slice s22.a s22.len s22.cap, .agg l23.toArray] w21 fun c26 b27 w24 => Nx (w24.alloc z5) fun w28 => StoreOk w28 (nA w24) (Array.toList c26) ∧ Array.size c26 = 21 ∧ Nx (setCells w28 (nA w24) 0 (Array.toList c26))
 fun w29 => Br (!b27) (r3 w29 (nA w1) fun n30 => r3 w29 (nA w16) fun n31 => ∃ c32 : Array Value, Sem.run Tryz.prog (Instr.build Ty.api_Op #[(0, .int .i64 6), (2, .int .i64 n30), (3, .int .i64 n31)]) w29 = .ok (.agg c32) w29 ∧ c2
 F.conf_differ_put #[.pointer d, .agg c32] w29 fun w33 => k17 w33) (k17 w29)) (fun w35 => I13 (wI (n15 + 1)) w35 ∧ μ14 (wI (n15 + 1)) w35 < μ14 n15 w16)) (r1 w16 (Addr.add (nA w1) 22) fun s36 => ∃ (I37 : Int → World → Prop) (μ38 : Int →
 World → Nat), I37 0 w16 ∧ ∀ (n39 : Int) (w40 : World), I37 n39 w40 → Br (decide (n39 < (s36.len:Int))) (ix s36 n39 w40 21 fun l42 => al w40 z5 l42 21 fun w44 => ∃ l45 : List Value, rdCells w44 (nA w) 0 23 = some l45 ∧ r3 w44 (nA w1) fun n46
 => ∃ l47 : List Value, rdCells w44 (nA w40) 0 21 = some l47 ∧ c2 F.conf_differ_backend #[.pointer d, .agg l45.toArray, .int .i64 n46, .agg l47.toArray] w44 fun w48 => I37 (wI (n39 + 1)) w48 ∧ μ38 (wI (n39 + 1)) w48 < μ38 n39 w40) (Q (.tuple
 #[]) w40)))
def A.conf_differ_service : AT := (.s .r (.s (.jk [] [0, 5, 7] (.s .r (.c .r .l))) (.s (.s .r (.blk (.loop [(24, (.int .i64))] [0, 5, 7, 22, 23] (.s .r (.s (.c .l .l) (.s (.jk [] [0, 5, 7, 22, 23, 24] (.blk (.s .r (.s .r (.s .r (.c .r
 .l)))))) .r)))))) (.s .r (.blk (.loop [(48, (.int .i64))] [0, 5, 7, 46, 47] a8))))))
theorem W.conf_differ_service_ok (d : Option Addr) (was : Array Value) (there : Bool) (s : Array Value) (w : World) (Q : Value → World → Prop) (h : W.conf_differ_service d was there s w Q) : Ret Tryz.prog F.conf_differ_service #[.pointer d, .agg was, .bool there, .agg s] w Q := okF A.conf_differ_service Tryz.func68 (by kernel_rfl) (by kernel_rfl) h
def W.conf_lays (f : Option Addr) (s : Array Value) (w : World) (Q : Value → World → Prop) : Prop := Nx (w.alloc (.cells s Ty.api_Service)) fun w1 => ∃ l2 : List Value, rdCells w1 (nA w) 0 23 = some l2 ∧ c15 F.conf_bare #[.agg l2.toArray]
 w1 fun c5 w3 => c1 F.farm_Farm_AddService #[.pointer f, .agg c5] w3 fun n8 w6 => Br (n8 != 0) (Q (.bool false) w6) (r1 w6 (Addr.add (nA w) 22) fun s9 => ∃ (I10 : Sl → Int → World → Prop) (μ11 : Sl → Int → World → Nat), I10 ⟨none, 0, 0⟩ 0 w6
 ∧ ∀ (s12 : Sl) (n13 : Int) (w14 : World), I10 s12 n13 w14 → Br (decide (n13 < (s9.len:Int))) (ix s9 n13 w14 21 fun l16 => al w14 z5 l16 21 fun w18 => r3 w18 (nA w14) fun n19 => Nx (w18.alloc (.cells #[.int .i64 n19] Ty.int)) fun w20 => ∃
 s21 : Sl, ∃ w22 : World, Sem.run Tryz.prog (Builtin.append_ #[Ty.Sl_int, Ty.Sl_int] Ty.Sl_int #[.slice s12.a s12.len s12.cap, .slice (some (nA w18)) 1 1]) w20 = .ok (.slice s21.a s21.len s21.cap) w22 ∧ st w22 (Addr.add (nA w14) 20) (.bool
 false) fun w23 => r3 w23 (nA w) fun n24 => ∃ l25 : List Value, rdCells w23 (nA w14) 0 21 = some l25 ∧ c1 F.farm_Farm_AddBackend #[.pointer f, .int .i64 n24, .agg l25.toArray] w23 fun n28 w26 => Br (n28 != 0) (Q (.bool false) w26) (I10 s21
 (wI (n13 + 1)) w26 ∧ μ11 s21 (wI (n13 + 1)) w26 < μ11 s12 n13 w14)) (c9 F.conf_rises #[.slice s12.a s12.len s12.cap] w14 fun b31 w29 => Q (.bool b31) w29))
def A.conf_lays : AT := (.s .r (.s a1 (.s .r (.s (.s .r (.blk (.loop [(5, .slice), (16, (.int .i64))] [0, 3, 14, 15] (.s .r (.s (.c .l .l) (.s (.blk (.s .r (.s .r (.s .r a1)))) .r)))))) (.s .r .l)))))
theorem W.conf_lays_ok (f : Option Addr) (s : Array Value) (w : World) (Q : Value → World → Prop) (h : W.conf_lays f s w Q) : Ret Tryz.prog F.conf_lays #[.pointer f, .agg s] w Q := okF A.conf_lays Tryz.func69 (by kernel_rfl) (by kernel_rfl) h
def W.conf_rises (l : Sl) (w : World) (Q : Value → World → Prop) : Prop := ∃ (I1 : Int → World → Prop) (μ2 : Int → World → Nat), I1 1 w ∧ ∀ (n3 : Int) (w4 : World), I1 n3 w4 → Br (decide (n3 < (l.len:Int))) (Nx (w4.drew) fun w5 => ∃ a6 :
 Addr, l.a = some a6 ∧ bd (wI (n3 - 1)) l.len ∧ ¬ False ∧ r3 w5 (a6.add (Int.toNat (wI (n3 - 1)) * 1)) fun n7 => ∃ a8 : Addr, l.a = some a8 ∧ bd n3 l.len ∧ ¬ False ∧ r3 w5 (a8.add (Int.toNat n3 * 1)) fun n9 => Br (decide (n7 ≥ n9)) (Q (.bool
 false) w5) (I1 (wI (n3 + 1)) w5 ∧ μ2 (wI (n3 + 1)) w5 < μ2 n3 w4)) (Q (.bool true) w4)
def A.conf_rises : AT := (.s .r (.s (.s .r (.blk (.loop [(3, (.int .i64))] [0] (.s (.s .r (.c .l .l)) (.s (.blk (.s (.drw 9 false ⟨[0, 0, 2, 5, 8, 0, 0, 96, 128, 272], [0, 0, 2, 5, 8, 0, 0, 96, 128, 272]⟩ [1024, 2048, 4096, 8192, 16384,
 32768, 65536, 131072, 262144, 524288] [1, 8, 2048, 5120, 8192, 1, 8, 98304, 131072, 278528] (.take 0 (.take 1 (.take 2 (.take 3 (.take 4 (.take 5 (.take 6 (.take 7 (.take 8 (.tail [.run]))))))))))) (.c (.s .r .l) .l))) .r))))) (.s .r .l)))
theorem W.conf_rises_ok (l : Sl) (w : World) (Q : Value → World → Prop) (h : W.conf_rises l w Q) : Ret Tryz.prog F.conf_rises #[.slice l.a l.len l.cap] w Q := okF A.conf_rises Tryz.func70 (by kernel_rfl) (by kernel_rfl) h
def W.conf_does (f : Option Addr) (op : Array Value) (w : World) (Q : Value → World → Prop) : Prop := Nx (w.alloc (.cells op Ty.api_Op)) fun w1 => r3 w1 (nA w) fun n2 => Br (n2 == 3) (∃ l3 : List Value, rdCells w1 (Addr.add (nA w) 6) 0 23 =
 some l3 ∧ c1 F.farm_Farm_AddService #[.pointer f, .agg l3.toArray] w1 fun n6 w4 => Q (.int .i64 n6) w4) (Br (n2 == 4) (r3 w1 (Addr.add (nA w) 2) fun n7 => c1 F.farm_Farm_DropService #[.pointer f, .int .i64 n7] w1 fun n10 w8 => Q (.int .i64
 n10) w8) (Br (n2 == 5) (r3 w1 (Addr.add (nA w) 2) fun n11 => ∃ l12 : List Value, rdCells w1 (Addr.add (nA w) 29) 0 21 = some l12 ∧ c1 F.farm_Farm_AddBackend #[.pointer f, .int .i64 n11, .agg l12.toArray] w1 fun n15 w13 => Q (.int .i64 n15)
 w13) (Br (n2 == 6) (r3 w1 (Addr.add (nA w) 2) fun n16 => r3 w1 (Addr.add (nA w) 3) fun n17 => c1 F.farm_Farm_DropBackend #[.pointer f, .int .i64 n16, .int .i64 n17] w1 fun n20 w18 => Q (.int .i64 n20) w18) (Br (n2 == 7) (r3 w1 (Addr.add (nA
 w) 2) fun n21 => r3 w1 (Addr.add (nA w) 3) fun n22 => r8 w1 (Addr.add (nA w) 5) fun b23 => c1 F.farm_Farm_Drain #[.pointer f, .int .i64 n21, .int .i64 n22, .bool b23] w1 fun n26 w24 => Q (.int .i64 n26) w24) (Br (n2 == 8) (r3 w1 (Addr.add
 (nA w) 2) fun n27 => r3 w1 (Addr.add (nA w) 3) fun n28 => r5 w1 (Addr.add (nA w) 4) fun n29 => c1 F.farm_Farm_Weigh #[.pointer f, .int .i64 n27, .int .i64 n28, .int .i64 (wI n29)] w1 fun n32 w30 => Q (.int .i64 n32) w30) (Q (.int .i64 1)
 w1))))))
def A.conf_does : AT := (.s .r (.s (.s .r (.blk (.s .r (.c (.s .r .l) (.s .r (.c (.s .r .l) (.s .r (.c (.s .r .l) (.s .r (.c (.s .r .l) a20)))))))))) (.s .r .l)))
theorem W.conf_does_ok (f : Option Addr) (op : Array Value) (w : World) (Q : Value → World → Prop) (h : W.conf_does f op w Q) : Ret Tryz.prog F.conf_does #[.pointer f, .agg op] w Q := okF A.conf_does Tryz.func71 (by kernel_rfl) (by kernel_rfl) h
def W.farm_Farm_IDs (f : Option Addr) (w : World) (Q : Value → World → Prop) : Prop := Br (Option.isNone f) (Q (.slice none 0 0) w) (∃ a1 : Addr, f = some a1 ∧ ∃ m2 : Option Nat, w.cell? a1 = some (.map m2) ∧ c16
 F.maps_Keys_map_int_P_api_Service_int_P_api_Service #[.map m2] w fun g5 w3 => c5 F.slices_Sorted_int #[.func (.func g5.f) g5.pre g5.cap] w3 fun s8 w6 => Q (.slice s8.a s8.len s8.cap) w6)
def A.farm_Farm_IDs : AT := a17
theorem W.farm_Farm_IDs_ok (f : Option Addr) (w : World) (Q : Value → World → Prop) (h : W.farm_Farm_IDs f w Q) : Ret Tryz.prog F.farm_Farm_IDs #[.pointer f] w Q := okF A.farm_Farm_IDs Tryz.func72 (by kernel_rfl) (by kernel_rfl) h
def W.farm_Farm_Service (f : Option Addr) (id : Int) (w : World) (Q : Value → World → Prop) : Prop := Nx (w.alloc z1) fun w1 => Br (Option.isNone f) (T9 w1 w Q) (∃ a5 : Addr, f = some a5 ∧ ∃ m6 : Option Nat, w1.cell? a5 = some (.map m6) ∧ ∃
 p7 : Option Addr, ∃ b8 : Bool, ∃ w9 : World, Sem.run Tryz.prog (Instr.lookup Ty.map_int_P_api_Service (.map m6) (.int .i64 id) true) w1 = .ok (.tuple #[.pointer p7, .bool b8]) w9 ∧ Br (!b8) (T9 w9 w Q) (∃ a13 : Addr, p7 = some a13 ∧ ∃ l14 :
 List Value, rdCells w9 a13 0 23 = some l14 ∧ al w9 z1 l14 23 fun w16 => ∃ a17 : Addr, p7 = some a17 ∧ r1 w16 (a17.add 22) fun s18 => c5 F.slices_Clone_Sl_api_Backend_api_Backend #[.slice s18.a s18.len s18.cap] w16 fun s21 w19 => st w19
 (Addr.add (nA w9) 22) (.slice s21.a s21.len s21.cap) fun w22 => ∃ l23 : List Value, rdCells w22 (nA w9) 0 23 = some l23 ∧ T23 w22 w l23 Q))
def A.farm_Farm_Service : AT := (.s .r (.s a1 (.s .r (.s a1 a7))))
theorem W.farm_Farm_Service_ok (f : Option Addr) (id : Int) (w : World) (Q : Value → World → Prop) (h : W.farm_Farm_Service f id w Q) : Ret Tryz.prog F.farm_Farm_Service #[.pointer f, .int .i64 id] w Q := okF A.farm_Farm_Service Tryz.func73 (by kernel_rfl) (by kernel_rfl) h
def W.script_line_text (l : Option Addr) (s : Sl) (w : World) (Q : Value → World → Prop) : Prop := ∃ a1 : Addr, l = some a1 ∧ r1 w a1 fun s2 => ∃ s3 : Sl, ∃ w4 : World, Sem.run Tryz.prog (Builtin.append_ #[Ty.Sl_string, Ty.Sl_string]
 Ty.Sl_string #[.slice s2.a s2.len s2.cap, .slice s.a s.len s.cap]) w = .ok (.slice s3.a s3.len s3.cap) w4 ∧ ∃ a5 : Addr, l = some a5 ∧ (∃ u : Value, w4.cell? a5 = some u) ∧ w4.frozen? a5 = false ∧ Nx (w4.setCell a5 (.slice s3.a s3.len
 s3.cap)) fun w6 => Q (.tuple #[]) w6
def A.script_line_text : AT := .r
theorem W.script_line_text_ok (l : Option Addr) (s : Sl) (w : World) (Q : Value → World → Prop) (h : W.script_line_text l s w Q) : Ret Tryz.prog F.script_line_text #[.pointer l, .slice s.a s.len s.cap] w Q := okF A.script_line_text Tryz.func76 (by kernel_rfl) (by kernel_rfl) h
def W.script_names  (w : World) (Q : Value → World → Prop) : Prop := c5 F.strings_Fields #[.string (ByteArray.mk #[112, 97, 99, 107, 101, 116, 32, 116, 105, 99, 107, 32, 115, 101, 114, 118, 105, 99, 101, 32, 100, 114, 111, 112, 32, 98, 97,
 99, 107, 101, 110, 100, 32, 114, 101, 109, 111, 118, 101, 32, 100, 114, 97, 105, 110, 32, 119, 101, 105, 103, 104, 32, 99, 104, 101, 99, 107, 32, 115, 121, 110, 99, 32, 99, 114, 97, 115, 104, 32, 102, 97, 105, 108, 32, 115, 112, 111, 105,
 108, 32, 109, 111, 117, 110, 116]) ] w fun s3 w1 => Q (.slice s3.a s3.len s3.cap) w1
def A.script_names : AT := (.s .r (.s .r .l))
theorem W.script_names_ok  (w : World) (Q : Value → World → Prop) (h : W.script_names  w Q) : Ret Tryz.prog F.script_names #[] w Q := okF A.script_names Tryz.func77 (by kernel_rfl) (by kernel_rfl) h
def W.script_hex (b : Sl) (w : World) (Q : Value → World → Prop) : Prop := Br ((b.len:Int) == 0) (Q (.string (ByteArray.mk #[45])) w) (Nx (w.alloc z2) fun w1 => ∃ (I2 : Int → World → Prop) (μ3 : Int → World → Nat), I2 0 w1 ∧ ∀ (n4 : Int)
 (w5 : World), I2 n4 w5 → Br (decide (n4 < (b.len:Int))) (∃ a6 : Addr, b.a = some a6 ∧ bd n4 b.len ∧ r4 w5 (a6.add (Int.toNat n4 * 1)) fun n7 => (0 : Int) ≤ 4 ∧ (0 : Int) ≤ (Int.fdiv n7 (2 ^ (min (Int.toNat 4) 8))) ∧ ∃ b8 : UInt8, byteAt
 (ByteArray.mk #[48, 49, 50, 51, 52, 53, 54, 55, 56, 57, 97, 98, 99, 100, 101, 102]) (Int.toNat (Int.fdiv n7 (2 ^ (min (Int.toNat 4) 8)))) = some b8 ∧ c8 F.strings_Builder_WriteByte #[.pointer (some (nA w)), .int .u8 ((b8.toNat : Nat) :
 Int)] w5 fun v11 w9 => (0 : Int) ≤ (bAnd .u8 n7 15) ∧ ∃ b12 : UInt8, byteAt (ByteArray.mk #[48, 49, 50, 51, 52, 53, 54, 55, 56, 57, 97, 98, 99, 100, 101, 102]) (Int.toNat (bAnd .u8 n7 15)) = some b12 ∧ c8 F.strings_Builder_WriteByte
 #[.pointer (some (nA w)), .int .u8 ((b12.toNat : Nat) : Int)] w9 fun v15 w13 => I2 (wI (n4 + 1)) w13 ∧ μ3 (wI (n4 + 1)) w13 < μ3 n4 w5) (c4 F.strings_Builder_String #[.pointer (some (nA w))] w5 fun s18 w16 => Q (.string s18) w16))
def A.script_hex : AT := (.s .r (.s a1 (.s .r (.s (.s .r (.blk (.loop [(11, (.int .i64))] [3, 9, 10] a5))) (.s .r .l)))))
theorem W.script_hex_ok (b : Sl) (w : World) (Q : Value → World → Prop) (h : W.script_hex b w Q) : Ret Tryz.prog F.script_hex #[.slice b.a b.len b.cap] w Q := okF A.script_hex Tryz.func78 (by kernel_rfl) (by kernel_rfl) h
def W.script_line_long (l : Option Addr) (n : Int) (w : World) (Q : Value → World → Prop) : Prop := c4 F.strconv_FormatUint #[.int .u64 n, .int .i64 10] w fun s3 w1 => Nx (w1.alloc (.cells #[.string s3] Ty.string)) fun w4 => c2
 F.script_line_text #[.pointer l, .slice (some (nA w1)) 1 1] w4 fun w5 => Q (.tuple #[]) w5
def A.script_line_long : AT := .r
theorem W.script_line_long_ok (l : Option Addr) (n : Int) (w : World) (Q : Value → World → Prop) (h : W.script_line_long l n w Q) : Ret Tryz.prog F.script_line_long #[.pointer l, .int .u64 n] w Q := okF A.script_line_long Tryz.func79 (by kernel_rfl) (by kernel_rfl) h
def W.script_line_ints (l : Option Addr) (n : Sl) (w : World) (Q : Value → World → Prop) : Prop := ∃ (I1 : Int → World → Prop) (μ2 : Int → World → Nat), I1 0 w ∧ ∀ (n3 : Int) (w4 : World), I1 n3 w4 → Br (decide (n3 < (n.len:Int))) (∃ a5 :
 Addr, n.a = some a5 ∧ bd n3 n.len ∧ r3 w4 (a5.add (Int.toNat n3 * 1)) fun n6 => c4 F.strconv_Itoa #[.int .i64 n6] w4 fun s9 w7 => Nx (w7.alloc (.cells #[.string s9] Ty.string)) fun w10 => c2 F.script_line_text #[.pointer l, .slice (some (nA
 w7)) 1 1] w10 fun w11 => I1 (wI (n3 + 1)) w11 ∧ μ2 (wI (n3 + 1)) w11 < μ2 n3 w4) (Q (.tuple #[]) w4)
def A.script_line_ints : AT := (.s .r (.blk (.loop [(8, (.int .i64))] [0, 6, 7] a8)))
theorem W.script_line_ints_ok (l : Option Addr) (n : Sl) (w : World) (Q : Value → World → Prop) (h : W.script_line_ints l n w Q) : Ret Tryz.prog F.script_line_ints #[.pointer l, .slice n.a n.len n.cap] w Q := okF A.script_line_ints Tryz.func80 (by kernel_rfl) (by kernel_rfl) h
def W.addr_Show (a : Array Value) (w : World) (Q : Value → World → Prop) : Prop := Nx (w.alloc (.cells a Ty.api_Addr)) fun w1 => ∃ l2 : List Value, rdCells w1 (nA w) 0 17 = some l2 ∧ c4 F.addr_show #[.agg l2.toArray] w1 fun s5 w3 => Q
 (.string s5) w3
def A.addr_Show : AT := (.s .r (.s .r .l))
theorem W.addr_Show_ok (a : Array Value) (w : World) (Q : Value → World → Prop) (h : W.addr_Show a w Q) : Ret Tryz.prog F.addr_Show #[.agg a] w Q := okF A.addr_Show Tryz.func81 (by kernel_rfl) (by kernel_rfl) h
def W.script_on (is : Bool) (w : World) (Q : Value → World → Prop) : Prop := Br is (Q (.string (ByteArray.mk #[111, 110])) w) (Q (.string (ByteArray.mk #[111, 102, 102])) w)
def A.script_on : AT := a17
theorem W.script_on_ok (is : Bool) (w : World) (Q : Value → World → Prop) (h : W.script_on is w Q) : Ret Tryz.prog F.script_on #[.bool is] w Q := okF A.script_on Tryz.func82 (by kernel_rfl) (by kernel_rfl) h
def W.script_reader_step (r : Option Addr) (kind : Int) (w : World) (Q : Value → World → Prop) : Prop := Nx (w.alloc z4) fun w1 => st w1 (nA w) (.int .i64 kind) fun w2 => Jn (fun k3 : World → Prop => Br (kind == 1) (c4 F.script_reader_word
 #[.pointer r] w2 fun s6 w4 => c17 F.script_unhex #[.string s6] w4 fun s9 b10 w7 => ∃ a11 : Addr, r = some a11 ∧ r8 w7 (a11.add 1) fun b12 => st w7 (Addr.add (nA w) 1) (.slice s9.a s9.len s9.cap) fun w13 => ∃ a14 : Addr, r = some a14 ∧ st
 w13 (a14.add 1) (.bool (b12 && b10)) fun w15 => k3 w15) (Br (kind == 2) (c18 F.script_reader_long #[.pointer r] w2 fun n18 w16 => st w16 (Addr.add (nA w) 4) (.int .u64 n18) fun w19 => k3 w19) (Br (kind == 3) (c1 F.script_reader_int
 #[.pointer r] w2 fun n22 w20 => c15 F.script_reader_addr #[.pointer r] w20 fun c25 w23 => c18 F.script_reader_small #[.pointer r, .int .i64 16] w23 fun n28 w26 => c18 F.script_reader_small #[.pointer r, .int .i64 8] w26 fun n31 w29 => c1
 F.script_reader_int #[.pointer r] w29 fun n34 w32 => c18 F.script_reader_long #[.pointer r] w32 fun n37 w35 => ∃ c38 : Array Value, Sem.run Tryz.prog (Instr.build Ty.api_Service #[(0, .int .i64 n22), (1, .agg c25), (2, .int .u16
 (IntKind.wrap .u16 n28)), (3, .int .u8 (IntKind.wrap .u8 n31)), (4, .int .i64 n34), (5, .int .u64 n37)]) w35 = .ok (.agg c38) w35 ∧ StoreOk w35 (Addr.add (nA w) 6) (Array.toList c38) ∧ Array.size c38 = 23 ∧ Nx (setCells w35 (Addr.add (nA w)
 6) 0 (Array.toList c38)) fun w39 => k3 w39) (Br (kind == 4) (c1 F.script_reader_int #[.pointer r] w2 fun n42 w40 => st w40 (Addr.add (nA w) 2) (.int .i64 n42) fun w43 => k3 w43) (Br (kind == 5) (c1 F.script_reader_int #[.pointer r] w2 fun
 n46 w44 => st w44 (Addr.add (nA w) 2) (.int .i64 n46) fun w47 => c1 F.script_reader_int #[.pointer r] w47 fun n50 w48 => c15 F.script_reader_addr #[.pointer r] w48 fun c53 w51 => c18 F.script_reader_small #[.pointer r, .int .i64 16] w51 fun
 n56 w54 => c1 F.script_reader_int #[.pointer r] w54 fun n59 w57 => ∃ c60 : Array Value, Sem.run Tryz.prog (Instr.build Ty.api_Backend #[(0, .int .i64 n50), (1, .agg c53), (2, .int .u16 (IntKind.wrap .u16 n56)), (3, .int .i64 n59)]) w57 =
 .ok (.agg c60) w57 ∧ StoreOk w57 (Addr.add (nA w) 29) (Array.toList c60) ∧ Array.size c60 = 21 ∧ Nx (setCells w57 (Addr.add (nA w) 29) 0 (Array.toList c60)) fun w61 => k3 w61) (Jn (fun k62 : Bool → World → Prop => Br (kind == 6) (k62 (kind
 == 6) w2) (k62 (kind == 12) w2)) (fun (b63 : Bool) w64 => Br b63 (c1 F.script_reader_int #[.pointer r] w64 fun n67 w65 => c1 F.script_reader_int #[.pointer r] w65 fun n70 w68 => st w68 (Addr.add (nA w) 2) (.int .i64 n67) fun w71 => st w71
 (Addr.add (nA w) 3) (.int .i64 n70) fun w72 => k3 w72) (Jn (fun k73 : Bool → World → Prop => Br (kind == 7) (k73 (kind == 7) w64) (k73 (kind == 9) w64)) (fun (b74 : Bool) w75 => Br b74 (c1 F.script_reader_int #[.pointer r] w75 fun n78 w76
 => c1 F.script_reader_int #[.pointer r] w76 fun n81 w79 => c9 F.script_reader_on #[.pointer r] w79 fun b84 w82 => st w82 (Addr.add (nA w) 2) (.int .i64 n78) fun w85 => st w85 (Addr.add (nA w) 3) (.int .i64 n81) fun w86 => st w86 (Addr.add
 (nA w) 5) (.bool b84) fun w87 => k3 w87) (Jn (fun k88 : Bool → World → Prop => Br (kind == 8) (k88 (kind == 8) w75) (k88 (kind == 13) w75)) (fun (b89 : Bool) w90 => Br b89 (c1 F.script_reader_int #[.pointer r] w90 fun n93 w91 => c1
 F.script_reader_int #[.pointer r] w91 fun n96 w94 => c18 F.script_reader_long #[.pointer r] w94 fun n99 w97 => st w97 (Addr.add (nA w) 2) (.int .i64 n93) fun w100 => st w100 (Addr.add (nA w) 3) (.int .i64 n96) fun w101 => st w101 (Addr.add
 (nA w) 4) (.int .u64 n99) fun w102 => k3 w102) (Br (kind == 11) (∃ (I103 : World → Prop) (μ104 : World → Nat), I103 w90 ∧ ∀ (w105 : World), I103 w105 → ∃ a106 : Addr, r = some a106 ∧ r8 w105 (a106.add 1) fun b107 => Jn (fun k108 : Bool →
 World → Prop => Br b107 (∃ a109 : Addr, r = some a109 ∧ r1 w105 a109 fun s110 => k108 (decide ((s110.len:Int) > 0)) w105) (k108 false w105)) (fun (b111 : Bool) w112 => Br b111 (Nx (w112.drew) fun w113 => ∃ W114 : Nat → Prop, ¬ W114
 (Addr.add (nA w) 50).block ∧ r1 w113 (Addr.add (nA w) 50) fun s115 => c1 F.script_reader_int #[.pointer r] w113 fun n118 w116 => Chg W114 w113 w116 ∧ Nx (w116.alloc (.cells #[.int .i64 n118] Ty.int)) fun w119 => Chg W114 w116 w119 ∧ ∃ s120
 : Sl, ∃ w121 : World, Sem.run Tryz.prog (Builtin.append_ #[Ty.Sl_int, Ty.Sl_int] Ty.Sl_int #[.slice s115.a s115.len s115.cap, .slice (some (nA w116)) 1 1]) w119 = .ok (.slice s120.a s120.len s120.cap) w121 ∧ st w121 (Addr.add (nA w) 50)
 (.slice s120.a s120.len s120.cap) fun w122 => I103 w122 ∧ μ104 w122 < μ104 w105) (k3 w112))) (k3 w90))))))))))))) (fun w123 => ∃ l124 : List Value, rdCells w123 (nA w) 0 51 = some l124 ∧ T25 w123 w l124 Q)
def A.script_reader_step : AT := (.s .r (.s .r (.s (.jk [] [4] (.s .r (.blk (.s .r (.c (.s .r (.reg [.run, .run, .run, .run, .run, .run, .run, .pure 1])) (.s .r (.c .r (.s .r (.c .r (.s .r (.c .r (.s .r (.c (.s .r .r) (.s (.jk [(74, .bool)]
 [0, 4, 9] (.s .r (.c .l .r))) (.c .r (.s (.jk [(83, .bool)] [0, 4, 9] (.s .r (.c .l .r))) (.c .r (.s (.jk [(95, .bool)] [0, 4, 9] (.s .r (.c .l .r))) (.c .r (.s .r (.c (.blk (.loop [] [0, 4] (.s a22 (.blk (.drw 5 true ⟨[0, 1, 0, 4, 8, 26,
 63, 127], [0, 1, 0, 4, 8, 18, 0, 96]⟩ [2658455991569831745807614120560689152, 5316911983139663491615228241121378304, 10633823966279326983230456482242756608, 21267647932558653966460912964485513216, 42535295865117307932921825928971026432,
 85070591730234615865843651857942052864, 170141183460469231731687303715884105728, 0] [16, 2658455991569831745807614120560689152, 1, 10633823966279326983230456482242756608, 21267647932558653966460912964485513216,
 47852207848256971424537054170092404736, 16, 255211775190703847597530955573826158592] (.take 0 (.take 1 (.take 2 (.eff 3 (.eff 4 (.tail [.run, .run, .run]))))))))))) .l))))))))))))))))))))) (.s .r .l))))
theorem W.script_reader_step_ok (r : Option Addr) (kind : Int) (w : World) (Q : Value → World → Prop) (h : W.script_reader_step r kind w Q) : Ret Tryz.prog F.script_reader_step #[.pointer r, .int .i64 kind] w Q := okF A.script_reader_step Tryz.func84 (by kernel_rfl) (by kernel_rfl) h
def W.conf_of_1 (t : Array Value) (x : Addr) (w : World) (Q : Value → World → Prop) : Prop := Nx (w.alloc (.cells t Ty.api_Service)) fun w1 => ∃ l2 : List Value, rdCells w1 x 0 23 = some l2 ∧ ∃ l3 : List Value, rdCells w1 (nA w) 0 23 = some
 l3 ∧ c9 F.conf_alike #[.agg l2.toArray, .agg l3.toArray] w1 fun b6 w4 => Q (.bool b6) w4
def A.conf_of_1 : AT := (.s .r (.s .r .l))
theorem W.conf_of_1_ok (t : Array Value) (x : Addr) (w : World) (Q : Value → World → Prop) (h : W.conf_of_1 t x w Q) : Ret Tryz.prog F.conf_of_1 #[.agg t, .pointer (some x)] w Q := okF A.conf_of_1 Tryz.func88 (by kernel_rfl) (by kernel_rfl) h
end Go.Proofs.YtgljoledlhmhnaaGreatDoor
