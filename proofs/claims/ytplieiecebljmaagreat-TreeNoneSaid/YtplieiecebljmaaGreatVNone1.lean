/- Printed by gen.py: functions of the program, each as what must be shown of it. -/
import Derived.Test.YtplieiecebljmaaGreatProg
import Derived.Test.YtplieiecebljmaaGreatKNone2
namespace Gx
abbrev AT.s := AT.seq
abbrev AT.l := AT.leaf
abbrev AT.c := AT.cond
abbrev AT.r := AT.reg []
end Gx
namespace Go.Proofs.YtplieiecebljmaaGreat
open Go Gx
namespace F
abbrev law08_TreeNone : Nat := 5
abbrev dev_New : Nat := 11
abbrev dev_Device_Write : Nat := 14
abbrev law01_Few : Nat := 20
abbrev tree_Tree_Get : Nat := 21
abbrev tree_Tree_Delete : Nat := 22
abbrev tree_Tree_Scan : Nat := 23
abbrev law08_Begin : Nat := 24
abbrev tree_New : Nat := 25
abbrev tree_Tree_Put : Nat := 26
abbrev law08_lives : Nat := 27
abbrev dev_Device_Read : Nat := 34
abbrev dev_fuses_clear : Nat := 39
abbrev dev_Device_has : Nat := 43
abbrev dev_fuses_burns : Nat := 44
abbrev dev_Device_Len : Nat := 45
abbrev tree_keyed : Nat := 57
abbrev tree_Tree_way : Nat := 58
abbrev node_Find : Nat := 59
abbrev node_Delete : Nat := 60
abbrev tree_Tree_does : Nat := 61
abbrev tree_Tree_visit : Nat := 62
abbrev tree_Tree_Scan_1 : Nat := 63
abbrev bytes_Compare : Nat := 64
abbrev cache_New : Nat := 65
abbrev space_New : Nat := 66
abbrev space_Space_Room : Nat := 67
abbrev node_Put : Nat := 68
abbrev space_Space_Commit : Nat := 74
abbrev cache_Cache_at : Nat := 76
abbrev space_set_has : Nat := 78
abbrev dev_Device_now : Nat := 79
abbrev page_Decode : Nat := 88
abbrev page_Encode : Nat := 99
abbrev tree_Tree_read : Nat := 104
abbrev node_Kid : Nat := 105
abbrev node_find : Nat := 106
abbrev node_sound : Nat := 107
abbrev node_own : Nat := 108
abbrev tree_Tree_does_1 : Nat := 110
abbrev tree_change_gives : Nat := 111
abbrev tree_change_up : Nat := 112
abbrev internal_bytealg_Compare : Nat := 113
abbrev space_good : Nat := 114
abbrev space_size : Nat := 115
abbrev space_set_put : Nat := 116
abbrev math_bits_OnesCount8 : Nat := 117
abbrev node_keyed : Nat := 118
abbrev slices_Clone_Sl_byte_byte : Nat := 119
abbrev slices_Insert_Sl_Sl_byte_Sl_byte : Nat := 120
abbrev slices_Clone_space_set_byte : Nat := 122
abbrev node_Decode : Nat := 129
abbrev page_sum : Nat := 130
abbrev page_number : Nat := 131
abbrev page_kind : Nat := 132
abbrev page_idle : Nat := 133
abbrev page_has : Nat := 134
abbrev num_Cut : Nat := 135
abbrev space_Space_has : Nat := 138
abbrev num_Bytes : Nat := 141
abbrev num_Put : Nat := 142
abbrev cache_Cache_Get : Nat := 145
abbrev slices_BinarySearchFunc_Sl_Sl_byte_Sl_byte_Sl_byte : Nat := 146
abbrev node_sound_1 : Nat := 147
abbrev slices_ContainsFunc_Sl_Sl_byte_Sl_byte : Nat := 148
abbrev node_sound_2 : Nat := 149
abbrev slices_ContainsFunc_Sl_int_int : Nat := 150
abbrev slices_Clone_Sl_int_int : Nat := 151
abbrev space_Space_Fresh : Nat := 152
abbrev space_Space_Free : Nat := 153
abbrev cache_Cache_Drop : Nat := 154
abbrev tree_last : Nat := 155
abbrev tree_change_lays : Nat := 156
abbrev tree_change_top : Nat := 157
abbrev tree_changed : Nat := 158
abbrev tree_change_one : Nat := 159
abbrev slices_overlaps_Sl_byte : Nat := 160
abbrev slices_rotateRight_Sl_byte : Nat := 161
abbrev node_reader_number : Nat := 164
abbrev node_reader_text : Nat := 165
abbrev node_encode : Nat := 166
abbrev bytes_Equal : Nat := 167
abbrev crc_Parts : Nat := 168
abbrev num_Get : Nat := 169
abbrev num_cut : Nat := 170
abbrev num_good : Nat := 183
abbrev cache_Cache_has : Nat := 184
abbrev cache_Cache_room : Nat := 185
abbrev slices_IndexFunc_Sl_Sl_byte_Sl_byte : Nat := 186
abbrev slices_IndexFunc_Sl_int_int : Nat := 187
abbrev space_set_take : Nat := 188
abbrev node_Size : Nat := 189
abbrev tree_change_fits : Nat := 190
abbrev node_Merge : Nat := 191
abbrev tree_change_put : Nat := 192
abbrev slices_Clone_Sl_Sl_byte_Sl_byte : Nat := 193
abbrev node_reader_take : Nat := 195
abbrev node_written : Nat := 196
abbrev crc_more : Nat := 197
abbrev cache_Cache_empty : Nat := 204
abbrev cache_Cache_victim : Nat := 205
abbrev tree_change_two : Nat := 206
abbrev node_Encode : Nat := 207
abbrev space_Space_Alloc : Nat := 208
abbrev cache_Cache_Put : Nat := 209
abbrev node_cell : Nat := 211
abbrev node_Split : Nat := 213
abbrev space_Space_taken : Nat := 214
abbrev node_half : Nat := 215
end F
namespace Ty
abbrev int : Nat := 3
abbrev bool : Nat := 4
abbrev uint8 : Nat := 5
abbrev string : Nat := 9
abbrev api_Errno : Nat := 24
abbrev Sl_uint8 : Nat := 27
abbrev api_Page : Nat := 32
abbrev Sl_Sl_uint8 : Nat := 44
abbrev Sl_api_Pair : Nat := 56
abbrev law08_Stand : Nat := 67
abbrev Sl_int : Nat := 81
abbrev Sl_dev_sector : Nat := 96
abbrev map_int_Sl_dev_sector : Nat := 97
abbrev dev_Device : Nat := 101
abbrev dev_sector : Nat := 107
abbrev api_Node : Nat := 125
abbrev Sl_tree_step : Nat := 140
abbrev tree_step : Nat := 144
abbrev tree_Tree : Nat := 150
abbrev cache_Cache : Nat := 160
abbrev cache_frame : Nat := 168
abbrev space_set : Nat := 169
abbrev space_Space : Nat := 171
abbrev P_tree_change : Nat := 204
abbrev tree_change : Nat := 206
abbrev Sl_tree_piece : Nat := 241
abbrev tree_piece : Nat := 249
abbrev node_reader : Nat := 259
end Ty
namespace G
end G
def tkL : List RK := [(.tup []),
  (.one (.one .fn)),
  (.one (.one (.int .i64))),
  (.one (.one (.int .i64))),
  (.one (.one .bool)),
  (.one (.one (.int .u8))),
  (.one (.one (.int .u8))),
  (.one (.flat [(.int .i64), (.int .i64), .bool, (.int .u8)])),
  (.one (.flat [(.int .i64), (.int .i64), .bool, (.int .u8)])),
  (.one (.one .str)),
  (.one (.one .str)),
  (.one (.one .str)),
  (.one (.one (.int .u64))),
  (.one (.flat [.str, (.int .u64)])),
  (.one (.flat [.str, (.int .u64)])),
  (.one (.one .ptr)),
  (.one (.one .ptr)),
  (.one (.one .ptr)),
  (.one (.flat [.ptr])),
  (.one (.flat [.ptr])),
  (.one (.one .any)),
  (.one (.one (.int .i32))),
  (.one (.one .slice)),
  (.one (.one .ptr)),
  (.one (.one (.int .i64))),
  (.tup [(.one .ptr), (.one (.int .i64))]),
  (.one (.one .fn)),
  (.one (.one .slice)),
  (.tup [(.one .slice), (.one (.int .i64))]),
  (.one (.one .fn)),
  (.one (.one (.int .u64))),
  (.one (.flat [(.int .i64), (.int .u64), .slice])),
  (.one (.flat [(.int .i64), (.int .u64), .slice])),
  (.one (.one .agg)),
  (.one (.one .agg)),
  (.one (.one .fn)),
  (.one (.one .fn)),
  (.one (.one .agg)),
  (.one (.one .agg)),
  (.one (.one .agg)),
  (.one (.one .agg)),
  (.tup [(.one .agg), (.one (.int .i64))]),
  (.one (.one .fn)),
  (.one (.one .fn)),
  (.one (.one .slice)),
  (.one (.one .fn)),
  (.one (.one .fn)),
  (.one (.one .fn)),
  (.one (.one .fn)),
  (.one (.one .fn)),
  (.one (.one .ptr)),
  (.one (.one .fn)),
  (.tup [(.one .slice), (.one .bool), (.one (.int .i64))]),
  (.one (.one .fn)),
  (.tup [(.one .bool), (.one (.int .i64))]),
  (.one (.one .fn)),
  (.one (.one .slice)),
  (.tup [(.one .slice), (.one (.int .i64))]),
  (.one (.one .fn)),
  (.one (.one .ptr)),
  (.tup [(.one .ptr), (.one .bool)]),
  (.one (.one .fn)),
  (.tup [(.one .ptr), (.one (.int .i64))]),
  (.one (.one .fn)),
  (.one (.one .ptr)),
  (.one (.one .ptr)),
  (.one (.one .agg)),
  (.one (.one .agg)),
  (.one (.one .fn)),
  (.one (.one .fn)),
  (.one (.one .slice)),
  (.one (.one .ptr)),
  (.one (.flat [.slice])),
  (.one (.flat [.slice])),
  (.one (.flat [(.int .i64), .slice, .slice, (.int .i64)])),
  (.one (.flat [(.int .i64), .slice, .slice, (.int .i64)])),
  (.one (.one .fn)),
  (.one (.one .fn)),
  (.one (.one .fn)),
  (.one (.one .fn)),
  (.one (.one .fn)),
  (.one (.one .slice)),
  (.one (.one .fn)),
  (.one (.one .fn)),
  (.one (.one (.int .u16))),
  (.one (.one .fn)),
  (.one (.flat [.slice, .slice])),
  (.one (.flat [.slice, .slice])),
  (.tup [(.one (.int .i64)), (.one (.int .i64))]),
  (.one (.one .fn)),
  (.one (.one .fn)),
  (.one (.one .fn)),
  (.one (.flat [(.int .u8), (.int .u8)])),
  (.one (.flat [(.int .u8), (.int .u8)])),
  (.one (.one .fn)),
  (.one (.one .fn)),
  (.one (.one .slice)),
  (.one (.one .map)),
  (.one (.one .agg)),
  (.one (.one .agg)),
  (.one (.one .agg)),
  (.one (.one .agg)),
  (.one (.one .fn)),
  (.one (.one .fn)),
  (.one (.one (.int .u32))),
  (.one (.one .fn)),
  (.one (.one .agg)),
  (.one (.one .agg)),
  (.one (.one .ptr)),
  (.one (.one .map)),
  (.one (.one .agg)),
  (.one (.one .agg)),
  (.one (.one .fn)),
  (.one (.flat [(.int .i64), (.int .i64), (.int .i64), (.int .u64), (.int .u64), (.int .i64)])),
  (.one (.flat [(.int .i64), (.int .i64), (.int .i64), (.int .u64), (.int .u64), (.int .i64)])),
  (.tup [(.flat [(.int .i64), (.int .i64), (.int .i64), (.int .u64), (.int .u64), (.int .i64)]), (.one (.int .u64)), (.one (.int .i64))]),
  (.one (.one .fn)),
  (.one (.one .fn)),
  (.one (.one .fn)),
  (.tup [(.flat [(.int .i64), (.int .i64), (.int .i64), (.int .u64), (.int .u64), (.int .i64)]), (.one (.int .u64)), (.one (.int .i64))]),
  (.one (.one .fn)),
  (.one (.one .fn)),
  (.tup [(.flat [(.int .i64), (.int .u64), .slice]), (.one (.int .i64))]),
  (.one (.one .fn)),
  (.one (.flat [.bool, .slice, .slice, .slice])),
  (.one (.flat [.bool, .slice, .slice, .slice])),
  (.tup [(.flat [.bool, .slice, .slice, .slice]), (.one .bool)]),
  (.one (.one .fn)),
  (.one (.one .ptr)),
  (.one (.one .fn)),
  (.one (.one .slice)),
  (.one (.flat [.slice, .slice])),
  (.one (.flat [.slice, .slice])),
  (.one (.one .ptr)),
  (.tup [(.one .ptr), (.one (.int .i64))]),
  (.one (.one .fn)),
  (.one (.flat [(.int .i64), (.int .i64), (.int .u64)])),
  (.one (.flat [(.int .i64), (.int .i64), (.int .u64)])),
  (.one (.one .fn)),
  (.one (.one .fn)),
  (.one (.one .slice)),
  (.tup [(.one .slice), (.one (.int .i64))]),
  (.one (.one .fn)),
  (.one (.one .agg)),
  (.one (.one .agg)),
  (.tup [(.one (.int .i64)), (.one .bool)]),
  (.one (.one .fn)),
  (.one (.one .fn)),
  (.one (.one .fn)),
  (.one (.flat [.ptr, .ptr, (.int .u64), (.int .i64), (.int .i64)])),
  (.one (.flat [.ptr, .ptr, (.int .u64), (.int .i64), (.int .i64)])),
  (.one (.one .fn)),
  (.one (.one .fn)),
  (.one (.one .fn)),
  (.tup [(.one .ptr), (.one (.int .i64))]),
  (.one (.one .fn)),
  (.tup [(.one .ptr), (.one (.int .i64))]),
  (.one (.one .fn)),
  (.one (.one .slice)),
  (.one (.flat [.ptr, .slice, (.int .i64)])),
  (.one (.flat [.ptr, .slice, (.int .i64)])),
  (.one (.one .fn)),
  (.one (.one .fn)),
  (.one (.one .fn)),
  (.one (.one .fn)),
  (.one (.one .ptr)),
  (.one (.one .fn)),
  (.one (.flat [.bool, .bool, .bool, (.int .i64), (.int .i64), .slice])),
  (.one (.flat [.bool, .bool, .bool, (.int .i64), (.int .i64), .slice])),
  (.one (.one .slice)),
  (.one (.flat [(.int .i64), .slice, .slice])),
  (.one (.flat [(.int .i64), .slice, .slice])),
  (.one (.one .fn)),
  (.tup [(.one .slice), (.one (.int .i64)), (.one (.int .i64))]),
  (.one (.one .fn)),
  (.one (.one .fn)),
  (.one (.one .ptr)),
  (.one (.one .fn)),
  (.one (.flat [(.int .i64), (.int .i64)])),
  (.one (.flat [(.int .i64), (.int .i64)])),
  (.one (.one .slice)),
  (.one (.one .fn)),
  (.one (.one .fn)),
  (.one (.one .fn)),
  (.one (.one .fn)),
  (.one (.one .fn)),
  (.one (.one .fn)),
  (.tup [(.one .slice), (.one (.int .i64))]),
  (.one (.one .fn)),
  (.one (.one .fn)),
  (.one (.one .fn)),
  (.one (.one (.int .u64))),
  (.one (.one .fn)),
  (.one (.one .fn)),
  (.one (.one .agg)),
  (.one (.one .fn)),
  (.one (.one .fn)),
  (.one (.one .fn)),
  (.tup [(.flat [.bool, .slice, .slice, .slice]), (.one (.int .i64))]),
  (.one (.one .fn)),
  (.one (.one .fn)),
  (.one (.one .fn)),
  (.one (.one .fn)),
  (.one (.one .fn)),
  (.one (.one .ptr)),
  (.one (.flat [.ptr, .slice, .slice])),
  (.one (.flat [.ptr, .slice, .slice])),
  (.tup [(.one (.int .i64)), (.one (.int .i64)), (.one (.int .i64))]),
  (.one (.one .fn)),
  (.one (.one .fn)),
  (.one (.one .fn)),
  (.one (.one .fn)),
  (.one (.one .fn)),
  (.one (.one .fn)),
  (.one (.one .fn)),
  (.one (.one .fn)),
  (.one (.one .ptr)),
  (.one (.flat [.ptr, .slice, (.int .i64)])),
  (.one (.flat [.ptr, .slice, (.int .i64)])),
  (.one (.one .fn)),
  (.one (.one .fn)),
  (.one (.one .fn)),
  (.tup [(.flat [(.int .i64), (.int .i64), (.int .i64), (.int .u64), (.int .u64), (.int .i64)]), (.one (.int .i64)), (.one (.int .u64)), (.one (.int .i64))]),
  (.one (.one .fn)),
  (.one (.one .fn)),
  (.tup [(.one .slice), (.one .bool)]),
  (.one (.one .fn)),
  (.one (.one .fn)),
  (.one (.one .fn)),
  (.one (.one .fn)),
  (.one (.one .fn)),
  (.one (.one .fn)),
  (.one (.one .agg)),
  (.one (.one .agg)),
  (.one (.one .fn)),
  (.one (.one .fn)),
  (.one (.one .fn)),
  (.one (.one .fn)),
  (.one (.one .fn)),
  (.one (.one .fn)),
  (.one (.one .ptr)),
  (.one (.one .slice)),
  (.tup [(.one .slice), (.one (.int .i64)), (.one (.int .i64)), (.one (.int .i64))]),
  (.one (.one .fn)),
  (.one (.one .fn)),
  (.one (.one .fn)),
  (.tup [(.one .slice), (.one (.int .i64))]),
  (.one (.one .fn)),
  (.one (.flat [.slice, (.int .i64)])),
  (.one (.flat [.slice, (.int .i64)])),
  (.one (.one .fn)),
  (.one (.one .fn)),
  (.one (.one .fn)),
  (.one (.one .ptr)),
  (.one (.flat [.slice, (.int .i64)])),
  (.one (.flat [.slice, (.int .i64)])),
  (.one (.one .fn)),
  (.one (.one .ptr)),
  (.one (.flat [.slice, .bool])),
  (.one (.flat [.slice, .bool])),
  (.one (.one .fn)),
  (.one (.one .fn)),
  (.tup [(.one (.int .u64)), (.one .bool)]),
  (.one (.one .fn)),
  (.one (.one .fn)),
  (.one (.one (.int .i64))),
  (.tup [(.one (.int .i64)), (.one (.int .i64))]),
  (.one (.one .fn)),
  (.one (.one .fn)),
  (.one (.one .fn)),
  (.one (.one .fn)),
  (.one (.one .fn)),
  (.one (.one .fn)),
  (.one (.one .fn)),
  (.one (.one .fn)),
  (.tup [(.one .ptr), (.one (.int .i64))]),
  (.one (.one .fn)),
  (.one (.one .fn)),
  (.one (.one .fn)),
  (.one (.one .fn)),
  (.one (.one .fn)),
  (.tup [(.one (.int .i64)), (.one (.int .i64))]),
  (.one (.one .fn)),
  (.one (.one .fn)),
  (.one (.one .fn)),
  (.one (.one .fn)),
  (.one (.one (.int .u64))),
  (.one (.one .fn)),
  (.one (.one .fn)),
  (.one (.one .fn)),
  (.one (.one .ptr)),
  (.one (.one .fn)),
  (.one (.one .fn)),
  (.one (.one .fn)),
  (.one (.one .fn)),
  (.one (.one .ptr)),
  (.one (.one .fn)),
  (.tup [(.flat [.bool, .slice, .slice, .slice]), (.one .slice), (.flat [.bool, .slice, .slice, .slice]), (.one .bool)]),
  (.one (.one .fn)),
  (.one (.one .fn)),
  (.one (.one .fn)),
  (.one (.flat [.ptr, .ptr, .ptr, .str])),
  (.one (.flat [.ptr, .ptr, .ptr, .str])),
  (.one (.one .agg)),
  (.one (.one .agg)),
  (.one (.one .agg)),
  (.one (.one (.int .u8))),
  (.one (.one (.int .u8))),
  (.one (.one .fn)),
  (.one (.one .ptr)),
  (.one (.one (.int .i32))),
  (.one (.one (.int .i32))),
  (.one (.one .agg)),
  (.one (.one .agg)),
  (.one (.one .fn)),
  (.one (.one .ptr))]
def tk : TypeId → RK := fun t => tkL.getD t (.one (.one .any))
theorem hmix : Tryz.prog.follows .mixedOrders = true := by kernel_rfl
def nA (w : World) : Addr := ⟨w.heap.size, 0, none⟩
def wI (n : Int) : Int := IntKind.wrap .i64 n
def bd (n : Int) (k : Nat) : Prop := (0 : Int) ≤ n ∧ n < ((k : Nat) : Int)
def Br (c : Bool) (A B : Prop) : Prop := (c = true → A) ∧ (c = false → B)
def mI : Int := 9223372036854775807
def st (w : World) (A : Addr) (v : Value) (K : World → Prop) : Prop := (∃ u : Value, w.cell? A = some u) ∧ w.frozen? A = false ∧ Nx (w.setCell A v) fun w1 => K w1
def al (w : World) (z : Obj) (l : List Value) (k : Nat) (K : World → Prop) : Prop := Nx (w.alloc z) fun w1 => StoreOk w1 (nA w) (Array.toList l.toArray) ∧ Array.size l.toArray = k ∧ Nx (setCells w1 (nA w) 0 (Array.toList l.toArray)) fun w2 => K w2
def ix (s : Sl) (n : Int) (w : World) (k : Nat) (K : List Value → Prop) : Prop := ∃ a : Addr, s.a = some a ∧ bd n s.len ∧ ∃ l : List Value, rdCells w (a.add (Int.toNat n * k)) 0 k = some l ∧ K l
def c1 (f : Nat) (a : Array Value) (w : World) (K : World → Prop) : Prop := Calls Tryz.prog f a w fun e w' => e = .returned (.tuple #[]) ∧ K w'
def c2 (f : Nat) (a : Array Value) (w : World) (K : Int → World → Prop) : Prop := Calls Tryz.prog f a w fun e w' => ∃ x0 : Int, e = .returned (.int .i64 x0) ∧ K x0 w'
def c3 (f : Nat) (a : Array Value) (w : World) (K : Bool → World → Prop) : Prop := Calls Tryz.prog f a w fun e w' => ∃ x0 : Bool, e = .returned (.bool x0) ∧ K x0 w'
def c4 (f : Nat) (a : Array Value) (w : World) (K : Sl → Int → World → Prop) : Prop := Calls Tryz.prog f a w fun e w' => ∃ x0 : Sl, ∃ x1 : Int, e = .returned (.tuple #[.slice x0.a x0.len x0.cap, .int .i64 x1]) ∧ K x0 x1 w'
def c5 (f : Nat) (a : Array Value) (w : World) (K : Int → Bool → World → Prop) : Prop := Calls Tryz.prog f a w fun e w' => ∃ x0 : Int, ∃ x1 : Bool, e = .returned (.tuple #[.int .i64 x0, .bool x1]) ∧ K x0 x1 w'
def c6 (f : Nat) (a : Array Value) (w : World) (K : Bool → Sl → Sl → Sl → Bool → World → Prop) : Prop := Calls Tryz.prog f a w fun e w' => ∃ x0 : Bool, ∃ x1 : Sl, ∃ x2 : Sl, ∃ x3 : Sl, ∃ x4 : Bool, e = .returned (.tuple #[.agg #[.bool x0, .slice x1.a x1.len x1.cap, .slice x2.a x2.len x2.cap, .slice x3.a x3.len x3.cap], .bool x4]) ∧ K x0 x1 x2 x3 x4 w'
def c7 (f : Nat) (a : Array Value) (w : World) (K : Bool → Int → World → Prop) : Prop := Calls Tryz.prog f a w fun e w' => ∃ x0 : Bool, ∃ x1 : Int, e = .returned (.tuple #[.bool x0, .int .i64 x1]) ∧ K x0 x1 w'
def c8 (f : Nat) (a : Array Value) (w : World) (K : Array Value → World → Prop) : Prop := Calls Tryz.prog f a w fun e w' => ∃ x0 : Array Value, e = .returned (.agg x0) ∧ K x0 w'
def c9 (f : Nat) (a : Array Value) (w : World) (K : Bool → Sl → Sl → Sl → Int → World → Prop) : Prop := Calls Tryz.prog f a w fun e w' => ∃ x0 : Bool, ∃ x1 : Sl, ∃ x2 : Sl, ∃ x3 : Sl, ∃ x4 : Int, e = .returned (.tuple #[.agg #[.bool x0, .slice x1.a x1.len x1.cap, .slice x2.a x2.len x2.cap, .slice x3.a x3.len x3.cap], .int .i64 x4]) ∧ K x0 x1 x2 x3 x4 w'
def c10 (f : Nat) (a : Array Value) (w : World) (K : Int → Int → Int → World → Prop) : Prop := Calls Tryz.prog f a w fun e w' => ∃ x0 : Int, ∃ x1 : Int, ∃ x2 : Int, e = .returned (.tuple #[.int .i64 x0, .int .i64 x1, .int .i64 x2]) ∧ K x0 x1 x2 w'
def c11 (f : Nat) (a : Array Value) (w : World) (K : Bool → Sl → Sl → Sl → World → Prop) : Prop := Calls Tryz.prog f a w fun e w' => ∃ x0 : Bool, ∃ x1 : Sl, ∃ x2 : Sl, ∃ x3 : Sl, e = .returned (.agg #[.bool x0, .slice x1.a x1.len x1.cap, .slice x2.a x2.len x2.cap, .slice x3.a x3.len x3.cap]) ∧ K x0 x1 x2 x3 w'
def c12 (f : Nat) (a : Array Value) (w : World) (K : Sl → World → Prop) : Prop := Calls Tryz.prog f a w fun e w' => ∃ x0 : Sl, e = .returned (.slice x0.a x0.len x0.cap) ∧ K x0 w'
def c13 (f : Nat) (a : Array Value) (w : World) (K : Int → World → Prop) : Prop := Calls Tryz.prog f a w fun e w' => ∃ x0 : Int, e = .returned (.int .u32 x0) ∧ K x0 w'
def c14 (f : Nat) (a : Array Value) (w : World) (K : Int → World → Prop) : Prop := Calls Tryz.prog f a w fun e w' => ∃ x0 : Int, e = .returned (.int .u64 x0) ∧ K x0 w'
def c15 (f : Nat) (a : Array Value) (w : World) (K : Sl → Bool → World → Prop) : Prop := Calls Tryz.prog f a w fun e w' => ∃ x0 : Sl, ∃ x1 : Bool, e = .returned (.tuple #[.slice x0.a x0.len x0.cap, .bool x1]) ∧ K x0 x1 w'
def c16 (f : Nat) (a : Array Value) (w : World) (K : Int → Int → Sl → Int → World → Prop) : Prop := Calls Tryz.prog f a w fun e w' => ∃ x0 : Int, ∃ x1 : Int, ∃ x2 : Sl, ∃ x3 : Int, e = .returned (.tuple #[.agg #[.int .i64 x0, .int .u64 x1, .slice x2.a x2.len x2.cap], .int .i64 x3]) ∧ K x0 x1 x2 x3 w'
def c17 (f : Nat) (a : Array Value) (w : World) (K : Sl → Int → Int → Int → World → Prop) : Prop := Calls Tryz.prog f a w fun e w' => ∃ x0 : Sl, ∃ x1 : Int, ∃ x2 : Int, ∃ x3 : Int, e = .returned (.tuple #[.slice x0.a x0.len x0.cap, .int .i64 x1, .int .i64 x2, .int .i64 x3]) ∧ K x0 x1 x2 x3 w'
def c18 (f : Nat) (a : Array Value) (w : World) (K : Int → Bool → World → Prop) : Prop := Calls Tryz.prog f a w fun e w' => ∃ x0 : Int, ∃ x1 : Bool, e = .returned (.tuple #[.int .u64 x0, .bool x1]) ∧ K x0 x1 w'
def c19 (f : Nat) (a : Array Value) (w : World) (K : Option Addr → World → Prop) : Prop := Calls Tryz.prog f a w fun e w' => ∃ x0 : Option Addr, e = .returned (.pointer x0) ∧ K x0 w'
def c20 (f : Nat) (a : Array Value) (w : World) (K : Option Addr → Int → World → Prop) : Prop := Calls Tryz.prog f a w fun e w' => ∃ x0 : Option Addr, ∃ x1 : Int, e = .returned (.tuple #[.pointer x0, .int .i64 x1]) ∧ K x0 x1 w'
def c21 (f : Nat) (a : Array Value) (w : World) (K : Int → Int → World → Prop) : Prop := Calls Tryz.prog f a w fun e w' => ∃ x0 : Int, ∃ x1 : Int, e = .returned (.tuple #[.int .i64 x0, .int .i64 x1]) ∧ K x0 x1 w'
def c22 (f : Nat) (a : Array Value) (w : World) (K : Bool → Sl → Sl → Sl → Sl → Bool → Sl → Sl → Sl → Bool → World → Prop) : Prop := Calls Tryz.prog f a w fun e w' => ∃ x0 : Bool, ∃ x1 : Sl, ∃ x2 : Sl, ∃ x3 : Sl, ∃ x4 : Sl, ∃ x5 : Bool, ∃ x6 : Sl, ∃ x7 : Sl, ∃ x8 : Sl, ∃ x9 : Bool, e = .returned (.tuple #[.agg #[.bool x0, .slice x1.a x1.len x1.cap, .slice x2.a x2.len x2.cap, .slice x3.a x3.len x3.cap], .slice x4.a x4.len x4.cap, .agg #[.bool x5, .slice x6.a x6.len x6.cap, .slice x7.a x7.len x7.cap, .slice x8.a x8.len x8.cap], .bool x9]) ∧ K x0 x1 x2 x3 x4 x5 x6 x7 x8 x9 w'
def c23 (f : Nat) (a : Array Value) (w : World) (K : Sl → Bool → Int → World → Prop) : Prop := Calls Tryz.prog f a w fun e w' => ∃ x0 : Sl, ∃ x1 : Bool, ∃ x2 : Int, e = .returned (.tuple #[.slice x0.a x0.len x0.cap, .bool x1, .int .i64 x2]) ∧ K x0 x1 x2 w'
def c24 (f : Nat) (a : Array Value) (w : World) (K : Option Addr → Bool → World → Prop) : Prop := Calls Tryz.prog f a w fun e w' => ∃ x0 : Option Addr, ∃ x1 : Bool, e = .returned (.tuple #[.pointer x0, .bool x1]) ∧ K x0 x1 w'
def r1 (w : World) (A : Addr) (K : Sl → Prop) : Prop := ∃ x : Sl, w.cell? A = some (.slice x.a x.len x.cap) ∧ K x
def r2 (w : World) (A : Addr) (K : Int → Prop) : Prop := ∃ x : Int, w.cell? A = some (.int .i64 x) ∧ K x
def r3 (w : World) (A : Addr) (K : Bool → Prop) : Prop := ∃ x : Bool, w.cell? A = some (.bool x) ∧ K x
def r4 (w : World) (A : Addr) (K : Int → Prop) : Prop := ∃ x : Int, w.cell? A = some (.int .u8 x) ∧ K x
def r5 (w : World) (A : Addr) (K : Int → Prop) : Prop := ∃ x : Int, w.cell? A = some (.int .u64 x) ∧ K x
def z1 : Obj := .cells #[.bool false, .slice none 0 0, .slice none 0 0, .slice none 0 0] Ty.api_Node
def z2 : Obj := .cells #[.int .u8 0, .int .u8 0, .int .u8 0, .int .u8 0, .int .u8 0, .int .u8 0, .int .u8 0, .int .u8 0, .int .u8 0, .int .u8 0, .int .u8 0, .int .u8 0, .int .u8 0, .int .u8 0, .int .u8 0, .int .u8 0, .int .u8 0, .int .u8 0, .int .u8 0, .int .u8 0, .int .u8 0, .int .u8 0, .int .u8 0, .int .u8 0, .int .u8 0, .int .u8 0, .int .u8 0, .int .u8 0, .int .u8 0, .int .u8 0, .int .u8 0, .int .u8 0, .int .u8 0, .int .u8 0, .int .u8 0, .int .u8 0, .int .u8 0, .int .u8 0, .int .u8 0, .int .u8 0, .int .u8 0, .int .u8 0, .int .u8 0, .int .u8 0, .int .u8 0, .int .u8 0, .int .u8 0, .int .u8 0, .int .u8 0, .int .u8 0, .int .u8 0, .int .u8 0, .int .u8 0, .int .u8 0, .int .u8 0, .int .u8 0, .int .u8 0, .int .u8 0, .int .u8 0, .int .u8 0, .int .u8 0, .int .u8 0, .int .u8 0, .int .u8 0, .int .u8 0, .int .u8 0, .int .u8 0, .int .u8 0, .int .u8 0, .int .u8 0, .int .u8 0, .int .u8 0, .int .u8 0, .int .u8 0, .int .u8 0, .int .u8 0, .int .u8 0, .int .u8 0, .int .u8 0, .int .u8 0, .int .u8 0, .int .u8 0, .int .u8 0, .int .u8 0, .int .u8 0, .int .u8 0, .int .u8 0, .int .u8 0, .int .u8 0, .int .u8 0, .int .u8 0, .int .u8 0, .int .u8 0, .int .u8 0, .int .u8 0, .int .u8 0, .int .u8 0, .int .u8 0, .int .u8 0, .int .u8 0, .int .u8 0, .int .u8 0, .int .u8 0, .int .u8 0, .int .u8 0, .int .u8 0, .int .u8 0, .int .u8 0, .int .u8 0, .int .u8 0, .int .u8 0, .int .u8 0, .int .u8 0, .int .u8 0, .int .u8 0, .int .u8 0, .int .u8 0, .int .u8 0, .int .u8 0, .int .u8 0, .int .u8 0, .int .u8 0, .int .u8 0, .int .u8 0, .int .u8 0, .int .u8 0, .int .u8 0, .int .u8 0, .int .u8 0, .int .u8 0, .int .u8 0, .int .u8 0, .int .u8 0, .int .u8 0, .int .u8 0, .int .u8 0, .int .u8 0, .int .u8 0, .int .u8 0, .int .u8 0, .int .u8 0, .int .u8 0, .int .u8 0, .int .u8 0, .int .u8 0, .int .u8 0, .int .u8 0, .int .u8 0, .int .u8 0, .int .u8 0, .int .u8 0, .int .u8 0, .int .u8 0, .int .u8 0, .int .u8 0, .int .u8 0, .int .u8 0, .int .u8 0, .int .u8 0, .int .u8 0, .int .u8 0, .int .u8 0, .int .u8 0, .int .u8 0, .int .u8 0, .int .u8 0, .int .u8 0, .int .u8 0, .int .u8 0, .int .u8 0, .int .u8 0, .int .u8 0, .int .u8 0, .int .u8 0, .int .u8 0, .int .u8 0, .int .u8 0, .int .u8 0, .int .u8 0, .int .u8 0, .int .u8 0, .int .u8 0, .int .u8 0, .int .u8 0, .int .u8 0, .int .u8 0, .int .u8 0, .int .u8 0, .int .u8 0, .int .u8 0, .int .u8 0, .int .u8 0, .int .u8 0, .int .u8 0, .int .u8 0, .int .u8 0, .int .u8 0, .int .u8 0, .int .u8 0, .int .u8 0, .int .u8 0, .int .u8 0, .int .u8 0, .int .u8 0, .int .u8 0, .int .u8 0, .int .u8 0, .int .u8 0, .int .u8 0, .int .u8 0, .int .u8 0, .int .u8 0, .int .u8 0, .int .u8 0, .int .u8 0, .int .u8 0, .int .u8 0, .int .u8 0, .int .u8 0, .int .u8 0, .int .u8 0, .int .u8 0, .int .u8 0, .int .u8 0, .int .u8 0, .int .u8 0, .int .u8 0, .int .u8 0, .int .u8 0, .int .u8 0, .int .u8 0, .int .u8 0, .int .u8 0, .int .u8 0, .int .u8 0, .int .u8 0, .int .u8 0, .int .u8 0, .int .u8 0, .int .u8 0, .int .u8 0, .int .u8 0, .int .u8 0, .int .u8 0, .int .u8 0, .int .u8 0, .int .u8 0, .int .u8 0, .int .u8 0, .int .u8 0, .int .u8 0, .int .u8 0, .int .u8 0, .int .u8 0, .int .u8 0, .int .u8 0] Ty.dev_sector
def z3 : Obj := .cells #[.int .i64 0, .int .u64 0, .slice none 0 0] Ty.api_Page
def z4 : Obj := .cells #[.slice none 0 0, .int .i64 0] Ty.tree_piece
def z5 : Obj := .cells #[.int .u8 97] Ty.uint8
def a1 : AT := (.s .r (.c (.s .r .l) .l))
def a11 : AT := (.s .r (.s (.c .l .l) (.s (.blk (.s .r a1)) .r)))
def a14 : AT := (.s .r (.s (.s .r (.blk (.loop [(8, (.int .i64))] [0, 1, 7] a11))) (.s .r .l)))
def a10 : AT := (.s .r (.s a1 (.s .r .l)))
def a12 : AT := (.s a1 (.s .r (.s .r .l)))
def a13 : AT := (.s .r (.s (.blk (.s .r (.c (.s .r .l) a1))) (.s .r (.s .r .l))))
def a2 : AT := (.s .r (.s (.c .l .l) (.s (.blk (.s .r .r)) .r)))
def a3 : AT := (.s .r (.s (.reg [.run, .run, .run, .pure 2]) .l))
def a4 : AT := (.s .r (.s .r (.s .r .l)))
def a5 : AT := (.s .r (.s (.reg [.run, .run, .run, .pure 2, .run, .run, .run, .split 7]) .l))
def a6 : AT := (.c (.s .r (.s .r .l)) .l)
def a7 : AT := (.s (.reg [.run, .run, .run, .split 3]) (.c (.s .r .l) .l))
def a8 : AT := (.s (.reg [.run, .run, .run, .pure 3]) (.c (.s .r .l) .l))
def a9 : AT := (.s .r (.s (.reg [.run, .run, .run, .run, .pure 3]) .l))
theorem okF {f : Nat} {fn : Func} (A : AT) {args : List Value} {w : World} {Q : Value → World → Prop} {p : Prop} (hf : Tryz.prog.funcs[f]? = some fn) (h1 : dfOk fn args.length = true) (h2 : p = DF Tryz.prog tk A fn args w Q) (h : p) : Ret Tryz.prog f args.toArray w Q := calls_of_DF hmix hf h1 (Eq.mp h2 h)
def T26 (w92 : World) (w2 : World) (Q : Value → World → Prop) (b93 : Bool) : Prop := r1 w92 (Addr.add (nA w2) 1) fun s94 => r1 w92 (Addr.add (nA w2) 2) fun s95 => r1 w92 (Addr.add (nA w2) 3) fun s96 => Q (.tuple #[.agg #[.bool b93, .slice
 s94.a s94.len s94.cap, .slice s95.a s95.len s95.cap, .slice s96.a s96.len s96.cap], .bool false]) w92
def T21 (w89 : World) (w47 : World) (w2 : World) (b97 : Bool) (Q : Value → World → Prop) : Prop := r1 w89 (Addr.add (nA w47) 1) fun s98 => r1 w89 (Addr.add (nA w47) 2) fun s99 => r1 w89 (Addr.add (nA w47) 3) fun s100 => StoreOk w89 (nA w2)
 [.bool b97, .slice s98.a s98.len s98.cap, .slice s99.a s99.len s99.cap, .slice s100.a s100.len s100.cap] ∧ (4 : Nat) = 4 ∧ Nx (setCells w89 (nA w2) 0 [.bool b97, .slice s98.a s98.len s98.cap, .slice s99.a s99.len s99.cap, .slice s100.a
 s100.len s100.cap]) fun w101 => r3 w101 (nA w2) fun b102 => r1 w101 (Addr.add (nA w2) 1) fun s103 => r1 w101 (Addr.add (nA w2) 2) fun s104 => r1 w101 (Addr.add (nA w2) 3) fun s105 => Q (.tuple #[.agg #[.bool b102, .slice s103.a s103.len
 s103.cap, .slice s104.a s104.len s104.cap, .slice s105.a s105.len s105.cap], .bool true]) w101
def T25 (s61 : Sl) (w62 : World) (w65 : World) (w47 : World) (k57 : World → Prop) : Prop := ∃ s66 : Sl, ∃ w67 : World, Sem.run Tryz.prog (Builtin.append_ #[Ty.Sl_Sl_uint8, Ty.Sl_Sl_uint8] Ty.Sl_Sl_uint8 #[.slice s61.a s61.len s61.cap,
 .slice (some (nA w62)) 1 1]) w65 = .ok (.slice s66.a s66.len s66.cap) w67 ∧ st w67 (Addr.add (nA w47) 1) (.slice s66.a s66.len s66.cap) fun w68 => k57 w68
def T1 (w54 : World) (w47 : World) (b43 : Bool) (s44 : Sl) (s45 : Sl) (s46 : Sl) (w53 : World) (b49 : Bool) (s50 : Sl) (s51 : Sl) (s52 : Sl) (w : World) (key : Sl) (w2 : World) (Q : Value → World → Prop) : Prop := StoreOk w54 (nA w47)
 [.bool b43, .slice s44.a s44.len s44.cap, .slice s45.a s45.len s45.cap, .slice s46.a s46.len s46.cap] ∧ (4 : Nat) = 4 ∧ Nx (setCells w54 (nA w47) 0 [.bool b43, .slice s44.a s44.len s44.cap, .slice s45.a s45.len s45.cap, .slice s46.a s46.len
 s46.cap]) fun w55 => StoreOk w55 (nA w53) [.bool b49, .slice s50.a s50.len s50.cap, .slice s51.a s51.len s51.cap, .slice s52.a s52.len s52.cap] ∧ (4 : Nat) = 4 ∧ Nx (setCells w55 (nA w53) 0 [.bool b49, .slice s50.a s50.len s50.cap, .slice
 s51.a s51.len s51.cap, .slice s52.a s52.len s52.cap]) fun w56 => Jn (fun k57 : World → Prop => r3 w56 (nA w) fun b58 => Br (!b58) (Nx (w56.drew) fun w59 => ∃ W60 : Nat → Prop, ¬ W60 (Addr.add (nA w47) 1).block ∧ r1 w59 (Addr.add (nA w47) 1)
 fun s61 => c12 F.slices_Clone_Sl_byte_byte #[.slice key.a key.len key.cap] w59 fun s64 w62 => Chg W60 w59 w62 ∧ Nx (w62.alloc (.cells #[.slice s64.a s64.len s64.cap] Ty.Sl_uint8)) fun w65 => Chg W60 w62 w65 ∧ T25 s61 w62 w65 w47 k57) (k57
 w56)) (fun w69 => r1 w69 (Addr.add (nA w47) 1) fun s70 => r1 w69 (Addr.add (nA w53) 1) fun s71 => ∃ s72 : Sl, ∃ w73 : World, Sem.run Tryz.prog (Builtin.append_ #[Ty.Sl_Sl_uint8, Ty.Sl_Sl_uint8] Ty.Sl_Sl_uint8 #[.slice s70.a s70.len s70.cap,
 .slice s71.a s71.len s71.cap]) w69 = .ok (.slice s72.a s72.len s72.cap) w73 ∧ st w73 (Addr.add (nA w47) 1) (.slice s72.a s72.len s72.cap) fun w74 => r1 w74 (Addr.add (nA w47) 2) fun s75 => r1 w74 (Addr.add (nA w53) 2) fun s76 => ∃ s77 : Sl,
 ∃ w78 : World, Sem.run Tryz.prog (Builtin.append_ #[Ty.Sl_Sl_uint8, Ty.Sl_Sl_uint8] Ty.Sl_Sl_uint8 #[.slice s75.a s75.len s75.cap, .slice s76.a s76.len s76.cap]) w74 = .ok (.slice s77.a s77.len s77.cap) w78 ∧ st w78 (Addr.add (nA w47) 2)
 (.slice s77.a s77.len s77.cap) fun w79 => r1 w79 (Addr.add (nA w47) 3) fun s80 => r1 w79 (Addr.add (nA w53) 3) fun s81 => ∃ s82 : Sl, ∃ w83 : World, Sem.run Tryz.prog (Builtin.append_ #[Ty.Sl_int, Ty.Sl_int] Ty.Sl_int #[.slice s80.a s80.len
 s80.cap, .slice s81.a s81.len s81.cap]) w79 = .ok (.slice s82.a s82.len s82.cap) w83 ∧ st w83 (Addr.add (nA w47) 3) (.slice s82.a s82.len s82.cap) fun w84 => r3 w84 (nA w47) fun b85 => r1 w84 (Addr.add (nA w47) 1) fun s86 => r1 w84
 (Addr.add (nA w47) 2) fun s87 => r1 w84 (Addr.add (nA w47) 3) fun s88 => c3 F.node_sound #[.agg #[.bool b85, .slice s86.a s86.len s86.cap, .slice s87.a s87.len s87.cap, .slice s88.a s88.len s88.cap]] w84 fun b91 w89 => Br (!b91) (StoreOk
 w89 (nA w2) [.bool false, .slice none 0 0, .slice none 0 0, .slice none 0 0] ∧ (4 : Nat) = 4 ∧ Nx (setCells w89 (nA w2) 0 [.bool false, .slice none 0 0, .slice none 0 0, .slice none 0 0]) fun w92 => r3 w92 (nA w2) fun b93 => T26 w92 w2 Q
 b93) (r3 w89 (nA w47) fun b97 => T21 w89 w47 w2 b97 Q))
def T27 (w21 : World) (w16 : World) (b24 : Bool) (s25 : Sl) (s26 : Sl) (s27 : Sl) (k22 : World → Prop) : Prop := StoreOk w21 (nA w16) [.bool b24, .slice s25.a s25.len s25.cap, .slice s26.a s26.len s26.cap, .slice s27.a s27.len s27.cap] ∧ (4
 : Nat) = 4 ∧ Nx (setCells w21 (nA w16) 0 [.bool b24, .slice s25.a s25.len s25.cap, .slice s26.a s26.len s26.cap, .slice s27.a s27.len s27.cap]) fun w28 => k22 w28
def T20 (w114 : World) (w107 : World) (b109 : Bool) (s110 : Sl) (s111 : Sl) (s112 : Sl) (b113 : Bool) (Q : Value → World → Prop) (c : Option Addr) (n31 : Int) : Prop := StoreOk w114 (nA w107) [.bool b109, .slice s110.a s110.len s110.cap,
 .slice s111.a s111.len s111.cap, .slice s112.a s112.len s112.cap] ∧ (4 : Nat) = 4 ∧ Nx (setCells w114 (nA w107) 0 [.bool b109, .slice s110.a s110.len s110.cap, .slice s111.a s111.len s111.cap, .slice s112.a s112.len s112.cap]) fun w115 =>
 Br (!b113) (Q (.tuple #[.slice none 0 0, .int .i64 0, .int .i64 0, .int .i64 4]) w115) (r3 w115 (nA w107) fun b116 => r1 w115 (Addr.add (nA w107) 1) fun s117 => r1 w115 (Addr.add (nA w107) 2) fun s118 => r1 w115 (Addr.add (nA w107) 3) fun
 s119 => c4 F.tree_change_fits #[.pointer c, .agg #[.bool b116, .slice s117.a s117.len s117.cap, .slice s118.a s118.len s118.cap, .slice s119.a s119.len s119.cap]] w115 fun s122 n123 w120 => Q (.tuple #[.slice s122.a s122.len s122.cap, .int
 .i64 n31, .int .i64 (wI (n31 + 2)), .int .i64 n123]) w120)
def T2 (w74 : World) (w63 : World) (b65 : Bool) (s66 : Sl) (s67 : Sl) (s68 : Sl) (W64 : Nat → Prop) (w73 : World) (b69 : Bool) (s70 : Sl) (s71 : Sl) (s72 : Sl) (up : Option Addr) (n36 : Int) (w : World) (w47 : World) (n31 : Int) (Q : Value
 → World → Prop) (c : Option Addr) : Prop := StoreOk w74 (nA w63) [.bool b65, .slice s66.a s66.len s66.cap, .slice s67.a s67.len s67.cap, .slice s68.a s68.len s68.cap] ∧ (4 : Nat) = 4 ∧ Nx (setCells w74 (nA w63) 0 [.bool b65, .slice s66.a
 s66.len s66.cap, .slice s67.a s67.len s67.cap, .slice s68.a s68.len s68.cap]) fun w75 => Chg W64 w74 w75 ∧ StoreOk w75 (nA w73) [.bool b69, .slice s70.a s70.len s70.cap, .slice s71.a s71.len s71.cap, .slice s72.a s72.len s72.cap] ∧ (4 :
 Nat) = 4 ∧ Nx (setCells w75 (nA w73) 0 [.bool b69, .slice s70.a s70.len s70.cap, .slice s71.a s71.len s71.cap, .slice s72.a s72.len s72.cap]) fun w76 => Jn (fun k77 : World → Prop => ∃ a78 : Addr, up = some a78 ∧ r2 w76 (a78.add 5) fun n79
 => Br (decide (n36 > n79)) (Nx (w76.drew) fun w80 => ∃ W81 : Nat → Prop, ¬ W81 ((nA w) : Addr).block ∧ r3 w80 (nA w) fun b82 => r1 w80 (Addr.add (nA w) 1) fun s83 => r1 w80 (Addr.add (nA w) 2) fun s84 => r1 w80 (Addr.add (nA w) 3) fun s85
 => ¬ W81 ((nA w47) : Addr).block ∧ r3 w80 (nA w47) fun b86 => r1 w80 (Addr.add (nA w47) 1) fun s87 => r1 w80 (Addr.add (nA w47) 2) fun s88 => r1 w80 (Addr.add (nA w47) 3) fun s89 => StoreOk w80 (nA w63) [.bool b82, .slice s83.a s83.len
 s83.cap, .slice s84.a s84.len s84.cap, .slice s85.a s85.len s85.cap] ∧ (4 : Nat) = 4 ∧ Nx (setCells w80 (nA w63) 0 [.bool b82, .slice s83.a s83.len s83.cap, .slice s84.a s84.len s84.cap, .slice s85.a s85.len s85.cap]) fun w90 => Chg W81 w80
 w90 ∧ T27 w90 w73 b86 s87 s88 s89 k77) (k77 w76)) (fun w92 => Nx (w92.drew) fun w93 => ∃ W94 : Nat → Prop, ¬ W94 ((nA w63) : Addr).block ∧ r3 w93 (nA w63) fun b95 => r1 w93 (Addr.add (nA w63) 1) fun s96 => r1 w93 (Addr.add (nA w63) 2) fun
 s97 => r1 w93 (Addr.add (nA w63) 3) fun s98 => ∃ a99 : Addr, up = some a99 ∧ ¬ W94 ((a99.add 1).add 1).block ∧ r1 w93 ((a99.add 1).add 1) fun s100 => ∃ a101 : Addr, s100.a = some a101 ∧ bd n31 s100.len ∧ ¬ W94 (a101.add (Int.toNat n31 *
 1)).block ∧ r1 w93 (a101.add (Int.toNat n31 * 1)) fun s102 => ¬ W94 ((nA w73) : Addr).block ∧ r3 w93 (nA w73) fun b103 => r1 w93 (Addr.add (nA w73) 1) fun s104 => r1 w93 (Addr.add (nA w73) 2) fun s105 => r1 w93 (Addr.add (nA w73) 3) fun
 s106 => (c6 F.node_Merge #[.agg #[.bool b95, .slice s96.a s96.len s96.cap, .slice s97.a s97.len s97.cap, .slice s98.a s98.len s98.cap], .slice s102.a s102.len s102.cap, .agg #[.bool b103, .slice s104.a s104.len s104.cap, .slice s105.a
 s105.len s105.cap, .slice s106.a s106.len s106.cap]] w93 fun b109 s110 s111 s112 b113 w107 => Chg W94 w93 w107 ∧ Nx (w107.alloc z1) fun w114 => Chg W94 w107 w114 ∧ T20 w114 w107 b109 s110 s111 s112 b113 Q c n31) ∧ (Nx (w93.alloc z1) fun
 w124 => Chg W94 w93 w124 ∧ c6 F.node_Merge #[.agg #[.bool b95, .slice s96.a s96.len s96.cap, .slice s97.a s97.len s97.cap, .slice s98.a s98.len s98.cap], .slice s102.a s102.len s102.cap, .agg #[.bool b103, .slice s104.a s104.len s104.cap,
 .slice s105.a s105.len s105.cap, .slice s106.a s106.len s106.cap]] w124 fun b127 s128 s129 s130 b131 w125 => Chg W94 w124 w125 ∧ T20 w125 w93 b127 s128 s129 s130 b131 Q c n31))
def T3 (w52 : World) (w29 : World) (w1 : World) (Q : Value → World → Prop) : Prop := r3 w52 (nA w29) fun b53 => T21 w52 w29 w1 b53 Q
def T23 (w52 : World) (w10 : World) (w1 : World) (b53 : Bool) (Q : Value → World → Prop) : Prop := r1 w52 (Addr.add (nA w10) 1) fun s54 => r1 w52 (Addr.add (nA w10) 2) fun s55 => r1 w52 (Addr.add (nA w10) 3) fun s56 => StoreOk w52 (nA w1)
 [.bool b53, .slice s54.a s54.len s54.cap, .slice s55.a s55.len s55.cap, .slice s56.a s56.len s56.cap] ∧ (4 : Nat) = 4 ∧ Nx (setCells w52 (nA w1) 0 [.bool b53, .slice s54.a s54.len s54.cap, .slice s55.a s55.len s55.cap, .slice s56.a s56.len
 s56.cap]) fun w57 => r3 w57 (nA w1) fun b58 => r1 w57 (Addr.add (nA w1) 1) fun s59 => r1 w57 (Addr.add (nA w1) 2) fun s60 => r1 w57 (Addr.add (nA w1) 3) fun s61 => Q (.agg #[.bool b58, .slice s59.a s59.len s59.cap, .slice s60.a s60.len
 s60.cap, .slice s61.a s61.len s61.cap]) w57
def T4 (w15 : World) (w10 : World) (c13 : Array Value) (l : Sl) (w : World) (to : Int) (w1 : World) (Q : Value → World → Prop) : Prop := StoreOk w15 (nA w10) (Array.toList c13) ∧ Array.size c13 = 4 ∧ Nx (setCells w15 (nA w10) 0
 (Array.toList c13)) fun w16 => ∃ (I17 : Int → World → Prop) (μ18 : Int → World → Nat), I17 0 w16 ∧ ∀ (n19 : Int) (w20 : World), I17 n19 w20 → Br (decide (n19 < (l.len:Int))) (∃ a21 : Addr, l.a = some a21 ∧ bd n19 l.len ∧ r1 w20 (a21.add
 (Int.toNat n19 * 2)) fun s22 => r2 w20 ((a21.add (Int.toNat n19 * 2)).add 1) fun n23 => Nx (w20.alloc z4) fun w24 => StoreOk w24 (nA w20) [.slice s22.a s22.len s22.cap, .int .i64 n23] ∧ (2 : Nat) = 2 ∧ Nx (setCells w24 (nA w20) 0 [.slice
 s22.a s22.len s22.cap, .int .i64 n23]) fun w25 => Jn (fun k26 : World → Prop => r1 w25 (nA w20) fun s27 => Br (!(Option.isNone s27.a)) (r1 w25 (Addr.add (nA w10) 1) fun s28 => r1 w25 (nA w20) fun s29 => Nx (w25.alloc (.cells #[.slice s29.a
 s29.len s29.cap] Ty.Sl_uint8)) fun w30 => T25 s28 w25 w30 w10 k26) (k26 w25)) (fun w34 => r1 w34 (Addr.add (nA w10) 3) fun s35 => r2 w34 (Addr.add (nA w20) 1) fun n36 => Nx (w34.alloc (.cells #[.int .i64 n36] Ty.int)) fun w37 => ∃ s38 : Sl,
 ∃ w39 : World, Sem.run Tryz.prog (Builtin.append_ #[Ty.Sl_int, Ty.Sl_int] Ty.Sl_int #[.slice s35.a s35.len s35.cap, .slice (some (nA w34)) 1 1]) w37 = .ok (.slice s38.a s38.len s38.cap) w39 ∧ st w39 (Addr.add (nA w10) 3) (.slice s38.a
 s38.len s38.cap) fun w40 => I17 (wI (n19 + 1)) w40 ∧ μ18 (wI (n19 + 1)) w40 < μ18 n19 w20)) (Nx (w20.drew) fun w41 => ¬ False ∧ r1 w41 (Addr.add (nA w10) 1) fun s42 => ¬ False ∧ r1 w41 (Addr.add (nA w) 1) fun s43 => ((0 : Int) ≤ (wI (to -
 1)) ∧ (wI (to - 1)) ≤ (s43.len:Int)) ∧ ∃ s44 : Sl, ∃ w45 : World, Sem.run Tryz.prog (Builtin.append_ #[Ty.Sl_Sl_uint8, Ty.Sl_Sl_uint8] Ty.Sl_Sl_uint8 #[.slice s42.a s42.len s42.cap, .slice (cutA s43.a 1 (Int.toNat (wI (to - 1))) s43.cap)
 (s43.len - (Int.toNat (wI (to - 1)))) (s43.cap - (Int.toNat (wI (to - 1))))]) w41 = .ok (.slice s44.a s44.len s44.cap) w45 ∧ st w45 (Addr.add (nA w10) 1) (.slice s44.a s44.len s44.cap) fun w46 => Nx (w46.drew) fun w47 => ¬ False ∧ r1 w47
 (Addr.add (nA w10) 3) fun s48 => ¬ False ∧ r1 w47 (Addr.add (nA w) 3) fun s49 => ((0 : Int) ≤ to ∧ to ≤ (s49.len:Int)) ∧ ∃ s50 : Sl, ∃ w51 : World, Sem.run Tryz.prog (Builtin.append_ #[Ty.Sl_int, Ty.Sl_int] Ty.Sl_int #[.slice s48.a s48.len
 s48.cap, .slice (cutA s49.a 1 (Int.toNat to) s49.cap) (s49.len - (Int.toNat to)) (s49.cap - (Int.toNat to))]) w47 = .ok (.slice s50.a s50.len s50.cap) w51 ∧ st w51 (Addr.add (nA w10) 3) (.slice s50.a s50.len s50.cap) fun w52 => r3 w52 (nA
 w10) fun b53 => T23 w52 w10 w1 b53 Q)
def T5 (c58 : Array Value) (w54 : World) (W55 : Nat → Prop) (c62 : Array Value) (w1 : World) (w2 : World) (Q : Value → World → Prop) (s52 : Sl) : Prop := c11 F.node_own #[.agg c58] w54 fun b66 s67 s68 s69 w64 => Chg W55 w54 w64 ∧ c11
 F.node_own #[.agg c62] w64 fun b72 s73 s74 s75 w70 => Chg W55 w64 w70 ∧ StoreOk w70 (nA w1) [.bool b66, .slice s67.a s67.len s67.cap, .slice s68.a s68.len s68.cap, .slice s69.a s69.len s69.cap] ∧ (4 : Nat) = 4 ∧ Nx (setCells w70 (nA w1) 0
 [.bool b66, .slice s67.a s67.len s67.cap, .slice s68.a s68.len s68.cap, .slice s69.a s69.len s69.cap]) fun w76 => Chg W55 w70 w76 ∧ StoreOk w76 (nA w2) [.bool b72, .slice s73.a s73.len s73.cap, .slice s74.a s74.len s74.cap, .slice s75.a
 s75.len s75.cap] ∧ (4 : Nat) = 4 ∧ Nx (setCells w76 (nA w2) 0 [.bool b72, .slice s73.a s73.len s73.cap, .slice s74.a s74.len s74.cap, .slice s75.a s75.len s75.cap]) fun w77 => r3 w77 (nA w1) fun b78 => r1 w77 (Addr.add (nA w1) 1) fun s79 =>
 r1 w77 (Addr.add (nA w1) 2) fun s80 => r1 w77 (Addr.add (nA w1) 3) fun s81 => r3 w77 (nA w2) fun b82 => r1 w77 (Addr.add (nA w2) 1) fun s83 => r1 w77 (Addr.add (nA w2) 2) fun s84 => r1 w77 (Addr.add (nA w2) 3) fun s85 => Q (.tuple #[.agg
 #[.bool b78, .slice s79.a s79.len s79.cap, .slice s80.a s80.len s80.cap, .slice s81.a s81.len s81.cap], .slice s52.a s52.len s52.cap, .agg #[.bool b82, .slice s83.a s83.len s83.cap, .slice s84.a s84.len s84.cap, .slice s85.a s85.len
 s85.cap], .bool true]) w77
def T6 (w20 : World) (w1 : World) (Q : Value → World → Prop) : Prop := r3 w20 (nA w1) fun b21 => T26 w20 w1 Q b21
def T7 (w35 : World) (w7 : World) (w1 : World) (Q : Value → World → Prop) : Prop := r3 w35 (nA w7) fun b48 => T23 w35 w7 w1 b48 Q
def T8 (w8 : World) (w : World) (Q : Value → World → Prop) (n7 : Int) : Prop := r3 w8 (nA w) fun b9 => r1 w8 (Addr.add (nA w) 1) fun s10 => r1 w8 (Addr.add (nA w) 2) fun s11 => r1 w8 (Addr.add (nA w) 3) fun s12 => Q (.tuple #[.agg #[.bool
 b9, .slice s10.a s10.len s10.cap, .slice s11.a s11.len s11.cap, .slice s12.a s12.len s12.cap], .int .i64 n7]) w8
def T9 (s14 : Sl) (n17 : Int) (w18 : World) (w7 : World) (I15 : Int → World → Prop) (μ16 : Int → World → Nat) : Prop := ∃ a19 : Addr, s14.a = some a19 ∧ bd n17 s14.len ∧ r1 w18 (a19.add (Int.toNat n17 * 1)) fun s20 => Nx (w18.drew) fun w21
 => ∃ W22 : Nat → Prop, ¬ W22 (Addr.add (nA w7) 1).block ∧ r1 w21 (Addr.add (nA w7) 1) fun s23 => c12 F.slices_Clone_Sl_byte_byte #[.slice s20.a s20.len s20.cap] w21 fun s26 w24 => Chg W22 w21 w24 ∧ Nx (w24.alloc (.cells #[.slice s26.a
 s26.len s26.cap] Ty.Sl_uint8)) fun w27 => Chg W22 w24 w27 ∧ ∃ s28 : Sl, ∃ w29 : World, Sem.run Tryz.prog (Builtin.append_ #[Ty.Sl_Sl_uint8, Ty.Sl_Sl_uint8] Ty.Sl_Sl_uint8 #[.slice s23.a s23.len s23.cap, .slice (some (nA w24)) 1 1]) w27 =
 .ok (.slice s28.a s28.len s28.cap) w29 ∧ st w29 (Addr.add (nA w7) 1) (.slice s28.a s28.len s28.cap) fun w30 => I15 (wI (n17 + 1)) w30 ∧ μ16 (wI (n17 + 1)) w30 < μ16 n17 w18
def T10 (s31 : Sl) (n34 : Int) (w35 : World) (w7 : World) (I32 : Int → World → Prop) (μ33 : Int → World → Nat) : Prop := ∃ a36 : Addr, s31.a = some a36 ∧ bd n34 s31.len ∧ r1 w35 (a36.add (Int.toNat n34 * 1)) fun s37 => Nx (w35.drew) fun w38
 => ∃ W39 : Nat → Prop, ¬ W39 (Addr.add (nA w7) 2).block ∧ r1 w38 (Addr.add (nA w7) 2) fun s40 => c12 F.slices_Clone_Sl_byte_byte #[.slice s37.a s37.len s37.cap] w38 fun s43 w41 => Chg W39 w38 w41 ∧ Nx (w41.alloc (.cells #[.slice s43.a
 s43.len s43.cap] Ty.Sl_uint8)) fun w44 => Chg W39 w41 w44 ∧ ∃ s45 : Sl, ∃ w46 : World, Sem.run Tryz.prog (Builtin.append_ #[Ty.Sl_Sl_uint8, Ty.Sl_Sl_uint8] Ty.Sl_Sl_uint8 #[.slice s40.a s40.len s40.cap, .slice (some (nA w41)) 1 1]) w44 =
 .ok (.slice s45.a s45.len s45.cap) w46 ∧ st w46 (Addr.add (nA w7) 2) (.slice s45.a s45.len s45.cap) fun w47 => I32 (wI (n34 + 1)) w47 ∧ μ33 (wI (n34 + 1)) w47 < μ33 n34 w35
def T11 (w5 : World) (w2 : World) (w1 : World) (k8 : World → Prop) : Prop := Nx (w5.drew) fun w9 => ∃ W10 : Nat → Prop, ¬ W10 (Addr.add (nA w2) 3).block ∧ r1 w9 (Addr.add (nA w2) 3) fun s11 => c2 F.node_reader_number #[.pointer (some (nA
 w1)), .int .i64 2] w9 fun n14 w12 => Chg W10 w9 w12 ∧ Nx (w12.alloc (.cells #[.int .i64 n14] Ty.int)) fun w15 => Chg W10 w12 w15 ∧ ∃ s16 : Sl, ∃ w17 : World, Sem.run Tryz.prog (Builtin.append_ #[Ty.Sl_int, Ty.Sl_int] Ty.Sl_int #[.slice
 s11.a s11.len s11.cap, .slice (some (nA w12)) 1 1]) w15 = .ok (.slice s16.a s16.len s16.cap) w17 ∧ st w17 (Addr.add (nA w2) 3) (.slice s16.a s16.len s16.cap) fun w18 => k8 w18
def T12 (w38 : World) (w : World) (Q : Value → World → Prop) : Prop := r3 w38 (nA w) fun b39 => r1 w38 (Addr.add (nA w) 1) fun s40 => r1 w38 (Addr.add (nA w) 2) fun s41 => r1 w38 (Addr.add (nA w) 3) fun s42 => Q (.tuple #[.agg #[.bool b39,
 .slice s40.a s40.len s40.cap, .slice s41.a s41.len s41.cap, .slice s42.a s42.len s42.cap], .int .i64 4]) w38
def T13 (s16 : Sl) (s18 : Sl) (w19 : World) (W9 : Nat → Prop) (m11 : Option Nat) (i : Int) (d : Option Addr) (Q : Value → World → Prop) : Prop := ∃ s20 : Sl, ∃ w21 : World, Sem.run Tryz.prog (Builtin.append_ #[Ty.Sl_dev_sector,
 Ty.Sl_dev_sector] Ty.Sl_dev_sector #[.slice s16.a s16.len s16.cap, .slice s18.a s18.len s18.cap]) w19 = .ok (.slice s20.a s20.len s20.cap) w21 ∧ Chg W9 w19 w21 ∧ ∃ w22 : World, Sem.run Tryz.prog (Instr.mapUpdate Ty.map_int_Sl_dev_sector
 (.map m11) (.int .i64 i) (.slice s20.a s20.len s20.cap)) w21 = .ok () w22 ∧ ∃ a23 : Addr, d = some a23 ∧ r2 w22 (a23.add 6) fun n24 => ∃ a25 : Addr, d = some a25 ∧ st w22 (a25.add 6) (.int .i64 (wI (n24 + 1))) fun w26 => Q (.int .i64 0) w26
def T14 (b3 : Bool) (k4 : Bool → World → Prop) (w2 : World) (w : World) : Prop := Br (!b3) (k4 true w2) (r3 w2 (nA w) fun b5 => r1 w2 (Addr.add (nA w) 1) fun s6 => r1 w2 (Addr.add (nA w) 2) fun s7 => r1 w2 (Addr.add (nA w) 3) fun s8 => c3
 F.node_sound #[.agg #[.bool b5, .slice s6.a s6.len s6.cap, .slice s7.a s7.len s7.cap, .slice s8.a s8.len s8.cap]] w2 fun b11 w9 => k4 (!b11) w9)
def T15 (s37 : Sl) : Prop := (0 : Int) ≤ (wI (232 - (s37.len:Int))) ∧ ((wI (232 - (s37.len:Int))) : Int) ≤ (wI (232 - (s37.len:Int))) ∧ ((wI (232 - (s37.len:Int))) : Int) ≤ mI ∧ ((1 : Nat) : Int) * (wI (232 - (s37.len:Int))) ≤
 140737488355328
def T16 (w39 : World) (s32 : Sl) (w34 : World) (s36 : Sl) (w38 : World) (s37 : Sl) (k33 : Sl → World → Prop) : Prop := Nx (w39.alloc (.cells #[.slice s32.a s32.len s32.cap, .slice (some (nA w34)) (Int.toNat 4) (Int.toNat 4), .slice s36.a
 s36.len s36.cap, .slice (some (nA w38)) (Int.toNat (wI (232 - (s37.len:Int)))) (Int.toNat (wI (232 - (s37.len:Int))))] Ty.Sl_uint8)) fun w40 => c12 F.num_Bytes #[.slice (some (nA w39)) 4 4] w40 fun s43 w41 => k33 s43 w41
def T17 (w8 : World) (w : World) (Q : Value → World → Prop) : Prop := r2 w8 (nA w) fun n9 => r5 w8 (Addr.add (nA w) 1) fun n10 => r1 w8 (Addr.add (nA w) 2) fun s11 => Q (.tuple #[.agg #[.int .i64 n9, .int .u64 n10, .slice s11.a s11.len
 s11.cap], .int .i64 4]) w8
def T18 (w5 : World) (w : World) (l7 : List Value) (Q : Value → World → Prop) : Prop := StoreOk w5 (nA w) (Array.toList l7.toArray) ∧ Array.size l7.toArray = 256 ∧ Nx (setCells w5 (nA w) 0 (Array.toList l7.toArray)) fun w8 => ∃ l9 : List
 Value, rdCells w8 (nA w) 0 256 = some l9 ∧ Q (.agg l9.toArray) w8
def T19 (w54 : World) (w47 : World) (b49 : Bool) (s50 : Sl) (s51 : Sl) (s52 : Sl) (n53 : Int) (Q : Value → World → Prop) (c : Option Addr) (n41 : Int) (w : World) (up : Option Addr) (n36 : Int) (n31 : Int) : Prop := StoreOk w54 (nA w47)
 [.bool b49, .slice s50.a s50.len s50.cap, .slice s51.a s51.len s51.cap, .slice s52.a s52.len s52.cap] ∧ (4 : Nat) = 4 ∧ Nx (setCells w54 (nA w47) 0 [.bool b49, .slice s50.a s50.len s50.cap, .slice s51.a s51.len s51.cap, .slice s52.a s52.len
 s52.cap]) fun w55 => Br (n53 != 0) (Q (.tuple #[.slice none 0 0, .int .i64 0, .int .i64 0, .int .i64 n53]) w55) (∃ a56 : Addr, c = some a56 ∧ r1 w55 (a56.add 2) fun s57 => Nx (w55.alloc (.cells #[.int .i64 n41] Ty.int)) fun w58 => ∃ s59 :
 Sl, ∃ w60 : World, Sem.run Tryz.prog (Builtin.append_ #[Ty.Sl_int, Ty.Sl_int] Ty.Sl_int #[.slice s57.a s57.len s57.cap, .slice (some (nA w55)) 1 1]) w58 = .ok (.slice s59.a s59.len s59.cap) w60 ∧ ∃ a61 : Addr, c = some a61 ∧ st w60 (a61.add
 2) (.slice s59.a s59.len s59.cap) fun w62 => Nx (w62.drew) fun w63 => ∃ W64 : Nat → Prop, ¬ W64 ((nA w47) : Addr).block ∧ r3 w63 (nA w47) fun b65 => r1 w63 (Addr.add (nA w47) 1) fun s66 => r1 w63 (Addr.add (nA w47) 2) fun s67 => r1 w63
 (Addr.add (nA w47) 3) fun s68 => ¬ W64 ((nA w) : Addr).block ∧ r3 w63 (nA w) fun b69 => r1 w63 (Addr.add (nA w) 1) fun s70 => r1 w63 (Addr.add (nA w) 2) fun s71 => r1 w63 (Addr.add (nA w) 3) fun s72 => (Nx (w63.alloc z1) fun w73 => Chg W64
 w63 w73 ∧ Nx (w73.alloc z1) fun w74 => Chg W64 w73 w74 ∧ T2 w74 w63 b65 s66 s67 s68 W64 w73 b69 s70 s71 s72 up n36 w w47 n31 Q c) ∧ (Nx (w63.alloc z1) fun w141 => Chg W64 w63 w141 ∧ Nx (w141.alloc z1) fun w142 => Chg W64 w141 w142 ∧ T2 w142
 w141 b65 s66 s67 s68 W64 w63 b69 s70 s71 s72 up n36 w w47 n31 Q c))
def T22 (b37 : Bool) (s38 : Sl) (s39 : Sl) (s40 : Sl) (w218 : World) (W32 : Nat → Prop) (w41 : World) (b43 : Bool) (s44 : Sl) (s45 : Sl) (s46 : Sl) (w159 : World) (w : World) (key : Sl) (w2 : World) (Q : Value → World → Prop) : Prop := c11
 F.node_own #[.agg #[.bool b37, .slice s38.a s38.len s38.cap, .slice s39.a s39.len s39.cap, .slice s40.a s40.len s40.cap]] w218 fun b221 s222 s223 s224 w219 => Chg W32 w218 w219 ∧ T1 w219 w41 b43 s44 s45 s46 w159 b221 s222 s223 s224 w key w2
 Q
def T24 (w12 : World) (w7 : World) (c10 : Array Value) (w : World) (w1 : World) (Q : Value → World → Prop) : Prop := StoreOk w12 (nA w7) (Array.toList c10) ∧ Array.size c10 = 4 ∧ Nx (setCells w12 (nA w7) 0 (Array.toList c10)) fun w13 => r1
 w13 (Addr.add (nA w) 1) fun s14 => ∃ (I15 : Int → World → Prop) (μ16 : Int → World → Nat), I15 0 w13 ∧ ∀ (n17 : Int) (w18 : World), I15 n17 w18 → Br (decide (n17 < (s14.len:Int))) (T9 s14 n17 w18 w7 I15 μ16) (r1 w18 (Addr.add (nA w) 2) fun
 s31 => ∃ (I32 : Int → World → Prop) (μ33 : Int → World → Nat), I32 0 w18 ∧ ∀ (n34 : Int) (w35 : World), I32 n34 w35 → Br (decide (n34 < (s31.len:Int))) (T10 s31 n34 w35 w7 I32 μ33) (T7 w35 w7 w1 Q))
def T28 (w4 : World) (w : World) (Q : Value → World → Prop) (n7 : Int) : Prop := StoreOk w4 (nA w) [.bool false, .slice none 0 0, .slice none 0 0, .slice none 0 0] ∧ (4 : Nat) = 4 ∧ Nx (setCells w4 (nA w) 0 [.bool false, .slice none 0 0,
 .slice none 0 0, .slice none 0 0]) fun w8 => T8 w8 w Q n7
end Go.Proofs.YtplieiecebljmaaGreat
namespace Go.Proofs.YtplieiecebljmaaGreat
open Go Gx
set_option maxRecDepth 100000
def W.bytes_Compare (a : Sl) (b : Sl) (w : World) (Q : Value → World → Prop) : Prop := ∃ n1 : Int, ∃ w2 : World, Sem.run Tryz.prog (callFunc F.internal_bytealg_Compare #[.slice a.a a.len a.cap, .slice b.a b.len b.cap]) w = .ok (.value (.int
 .i64 n1)) w2 ∧ Q (.int .i64 n1) w2
def A.bytes_Compare : AT := (.s .r (.s .r .l))
theorem W.bytes_Compare_ok (a : Sl) (b : Sl) (w : World) (Q : Value → World → Prop) (h : W.bytes_Compare a b w Q) : Ret Tryz.prog F.bytes_Compare #[.slice a.a a.len a.cap, .slice b.a b.len b.cap] w Q := okF A.bytes_Compare Tryz.func64 (by kernel_rfl) (by kernel_rfl) h
def W.math_bits_OnesCount8 (x : Int) (w : World) (Q : Value → World → Prop) : Prop := (0 : Int) ≤ x ∧ ∃ b1 : UInt8, byteAt (ByteArray.mk #[0, 1, 1, 2, 1, 2, 2, 3, 1, 2, 2, 3, 2, 3, 3, 4, 1, 2, 2, 3, 2, 3, 3, 4, 2, 3, 3, 4, 3, 4, 4, 5, 1, 2,
 2, 3, 2, 3, 3, 4, 2, 3, 3, 4, 3, 4, 4, 5, 2, 3, 3, 4, 3, 4, 4, 5, 3, 4, 4, 5, 4, 5, 5, 6, 1, 2, 2, 3, 2, 3, 3, 4, 2, 3, 3, 4, 3, 4, 4, 5, 2, 3, 3, 4, 3, 4, 4, 5, 3, 4, 4, 5, 4, 5, 5, 6, 2, 3, 3, 4, 3, 4, 4, 5, 3, 4, 4, 5, 4, 5, 5, 6, 3, 4,
 4, 5, 4, 5, 5, 6, 4, 5, 5, 6, 5, 6, 6, 7, 1, 2, 2, 3, 2, 3, 3, 4, 2, 3, 3, 4, 3, 4, 4, 5, 2, 3, 3, 4, 3, 4, 4, 5, 3, 4, 4, 5, 4, 5, 5, 6, 2, 3, 3, 4, 3, 4, 4, 5, 3, 4, 4, 5, 4, 5, 5, 6, 3, 4, 4, 5, 4, 5, 5, 6, 4, 5, 5, 6, 5, 6, 6, 7, 2, 3,
 3, 4, 3, 4, 4, 5, 3, 4, 4, 5, 4, 5, 5, 6, 3, 4, 4, 5, 4, 5, 5, 6, 4, 5, 5, 6, 5, 6, 6, 7, 3, 4, 4, 5, 4, 5, 5, 6, 4, 5, 5, 6, 5, 6, 6, 7, 4, 5, 5, 6, 5, 6, 6, 7, 5, 6, 6, 7, 6, 7, 7, 8]) (Int.toNat x) = some b1 ∧ Q (.int .i64 (wI ((b1.toNat
 : Nat) : Int))) w
def A.math_bits_OnesCount8 : AT := (.s .r (.s .r .l))
theorem W.math_bits_OnesCount8_ok (x : Int) (w : World) (Q : Value → World → Prop) (h : W.math_bits_OnesCount8 x w Q) : Ret Tryz.prog F.math_bits_OnesCount8 #[.int .u8 x] w Q := okF A.math_bits_OnesCount8 Tryz.func117 (by kernel_rfl) (by kernel_rfl) h
def W.slices_Clone_Sl_byte_byte (s : Sl) (w : World) (Q : Value → World → Prop) : Prop := Br (Option.isNone s.a) (Q (.slice none 0 0) w) (Nx (w.alloc (.cells #[] Ty.uint8)) fun w1 => ∃ s2 : Sl, ∃ w3 : World, Sem.run Tryz.prog
 (Builtin.append_ #[Ty.Sl_uint8, Ty.Sl_uint8] Ty.Sl_uint8 #[.slice (some (nA w)) 0 0, .slice s.a s.len s.cap]) w1 = .ok (.slice s2.a s2.len s2.cap) w3 ∧ Q (.slice s2.a s2.len s2.cap) w3)
def A.slices_Clone_Sl_byte_byte : AT := a10
theorem W.slices_Clone_Sl_byte_byte_ok (s : Sl) (w : World) (Q : Value → World → Prop) (h : W.slices_Clone_Sl_byte_byte s w Q) : Ret Tryz.prog F.slices_Clone_Sl_byte_byte #[.slice s.a s.len s.cap] w Q := okF A.slices_Clone_Sl_byte_byte Tryz.func119 (by kernel_rfl) (by kernel_rfl) h
def W.slices_Insert_Sl_Sl_byte_Sl_byte (s : Sl) (i : Int) (v : Sl) (w : World) (Q : Value → World → Prop) : Prop := ((0 : Int) ≤ i ∧ i ≤ (s.len:Int)) ∧ Br ((v.len:Int) == 0) (Q (.slice s.a s.len s.cap) w) (Br (i == (s.len:Int)) (∃ s1 : Sl,
 ∃ w2 : World, Sem.run Tryz.prog (Builtin.append_ #[Ty.Sl_Sl_uint8, Ty.Sl_Sl_uint8] Ty.Sl_Sl_uint8 #[.slice s.a s.len s.cap, .slice v.a v.len v.cap]) w = .ok (.slice s1.a s1.len s1.cap) w2 ∧ Q (.slice s1.a s1.len s1.cap) w2) (Br (decide
 (((wI ((s.len:Int) + (v.len:Int))) : Int) > ((s.cap : Nat) : Int))) (((0 : Int) ≤ i ∧ i ≤ ((s.cap : Nat) : Int)) ∧ ∃ s3 : Sl, ∃ w4 : World, Sem.run Tryz.prog (Builtin.append_ #[Ty.Sl_Sl_uint8, Ty.int] Ty.Sl_Sl_uint8 #[.slice (cutA s.a 1 0
 s.cap) ((Int.toNat i) - 0) (s.cap - 0), .int .i64 (wI ((wI ((s.len:Int) + (v.len:Int))) - i))]) w = .ok (.slice s3.a s3.len s3.cap) w4 ∧ ((0 : Int) ≤ i ∧ i ≤ (s3.len:Int)) ∧ ∃ n5 : Int, ∃ w6 : World, Sem.run Tryz.prog (Builtin.copy_
 #[Ty.Sl_Sl_uint8, Ty.Sl_Sl_uint8] Ty.int #[.slice (cutA s3.a 1 (Int.toNat i) s3.cap) (s3.len - (Int.toNat i)) (s3.cap - (Int.toNat i)), .slice v.a v.len v.cap]) w4 = .ok (.int .i64 n5) w6 ∧ Nx (w6.drew) fun w7 => ((0 : Int) ≤ (wI (i +
 (v.len:Int))) ∧ (wI (i + (v.len:Int))) ≤ (s3.len:Int)) ∧ ((0 : Int) ≤ i ∧ i ≤ (s.len:Int)) ∧ ∃ n8 : Int, ∃ w9 : World, Sem.run Tryz.prog (Builtin.copy_ #[Ty.Sl_Sl_uint8, Ty.Sl_Sl_uint8] Ty.int #[.slice (cutA s3.a 1 (Int.toNat (wI (i +
 (v.len:Int)))) s3.cap) (s3.len - (Int.toNat (wI (i + (v.len:Int))))) (s3.cap - (Int.toNat (wI (i + (v.len:Int))))), .slice (cutA s.a 1 (Int.toNat i) s.cap) (s.len - (Int.toNat i)) (s.cap - (Int.toNat i))]) w7 = .ok (.int .i64 n8) w9 ∧ Q
 (.slice s3.a s3.len s3.cap) w9) (((0 : Int) ≤ (wI ((s.len:Int) + (v.len:Int))) ∧ (wI ((s.len:Int) + (v.len:Int))) ≤ ((s.cap : Nat) : Int)) ∧ ((0 : Int) ≤ (wI (i + (v.len:Int))) ∧ (wI (i + (v.len:Int))) ≤ ((((Int.toNat (wI ((s.len:Int) +
 (v.len:Int)))) - 0) : Nat) : Int)) ∧ ∃ b10 : Bool, ∃ w11 : World, Sem.run Tryz.prog (callFunc F.slices_overlaps_Sl_byte #[.slice v.a v.len v.cap, .slice (cutA (cutA s.a 1 0 s.cap) 1 (Int.toNat (wI (i + (v.len:Int)))) (s.cap - 0))
 (((Int.toNat (wI ((s.len:Int) + (v.len:Int)))) - 0) - (Int.toNat (wI (i + (v.len:Int))))) ((s.cap - 0) - (Int.toNat (wI (i + (v.len:Int)))))]) w = .ok (.value (.bool b10)) w11 ∧ Br (!b10) (Nx (w11.drew) fun w12 => ((0 : Int) ≤ (wI (i +
 (v.len:Int))) ∧ (wI (i + (v.len:Int))) ≤ ((((Int.toNat (wI ((s.len:Int) + (v.len:Int)))) - 0) : Nat) : Int)) ∧ ((0 : Int) ≤ i ∧ i ≤ ((((Int.toNat (wI ((s.len:Int) + (v.len:Int)))) - 0) : Nat) : Int)) ∧ ∃ n13 : Int, ∃ w14 : World, Sem.run
 Tryz.prog (Builtin.copy_ #[Ty.Sl_Sl_uint8, Ty.Sl_Sl_uint8] Ty.int #[.slice (cutA (cutA s.a 1 0 s.cap) 1 (Int.toNat (wI (i + (v.len:Int)))) (s.cap - 0)) (((Int.toNat (wI ((s.len:Int) + (v.len:Int)))) - 0) - (Int.toNat (wI (i +
 (v.len:Int))))) ((s.cap - 0) - (Int.toNat (wI (i + (v.len:Int))))), .slice (cutA (cutA s.a 1 0 s.cap) 1 (Int.toNat i) (s.cap - 0)) (((Int.toNat (wI ((s.len:Int) + (v.len:Int)))) - 0) - (Int.toNat i)) ((s.cap - 0) - (Int.toNat i))]) w12 =
 .ok (.int .i64 n13) w14 ∧ ((0 : Int) ≤ i ∧ i ≤ ((((Int.toNat (wI ((s.len:Int) + (v.len:Int)))) - 0) : Nat) : Int)) ∧ ∃ n15 : Int, ∃ w16 : World, Sem.run Tryz.prog (Builtin.copy_ #[Ty.Sl_Sl_uint8, Ty.Sl_Sl_uint8] Ty.int #[.slice (cutA (cutA
 s.a 1 0 s.cap) 1 (Int.toNat i) (s.cap - 0)) (((Int.toNat (wI ((s.len:Int) + (v.len:Int)))) - 0) - (Int.toNat i)) ((s.cap - 0) - (Int.toNat i)), .slice v.a v.len v.cap]) w14 = .ok (.int .i64 n15) w16 ∧ Q (.slice (cutA s.a 1 0 s.cap)
 ((Int.toNat (wI ((s.len:Int) + (v.len:Int)))) - 0) (s.cap - 0)) w16) (((0 : Int) ≤ (s.len:Int) ∧ (s.len:Int) ≤ ((((Int.toNat (wI ((s.len:Int) + (v.len:Int)))) - 0) : Nat) : Int)) ∧ ∃ n17 : Int, ∃ w18 : World, Sem.run Tryz.prog
 (Builtin.copy_ #[Ty.Sl_Sl_uint8, Ty.Sl_Sl_uint8] Ty.int #[.slice (cutA (cutA s.a 1 0 s.cap) 1 (Int.toNat (s.len:Int)) (s.cap - 0)) (((Int.toNat (wI ((s.len:Int) + (v.len:Int)))) - 0) - (Int.toNat (s.len:Int))) ((s.cap - 0) - (Int.toNat
 (s.len:Int))), .slice v.a v.len v.cap]) w11 = .ok (.int .i64 n17) w18 ∧ ((0 : Int) ≤ i ∧ i ≤ ((((Int.toNat (wI ((s.len:Int) + (v.len:Int)))) - 0) : Nat) : Int)) ∧ c1 F.slices_rotateRight_Sl_byte #[.slice (cutA (cutA s.a 1 0 s.cap) 1
 (Int.toNat i) (s.cap - 0)) (((Int.toNat (wI ((s.len:Int) + (v.len:Int)))) - 0) - (Int.toNat i)) ((s.cap - 0) - (Int.toNat i)), .int .i64 (v.len:Int)] w18 fun w19 => Q (.slice (cutA s.a 1 0 s.cap) ((Int.toNat (wI ((s.len:Int) +
 (v.len:Int)))) - 0) (s.cap - 0)) w19))))
def A.slices_Insert_Sl_Sl_byte_Sl_byte : AT := (.s .r (.s .r (.s .r (.s a1 (.s .r (.s a1 (.s (.s .r (.c (.s .r (.s .r (.s (.drw 8 false ⟨[0, 0, 0, 6, 9, 0, 0, 96, 144], [0, 0, 0, 6, 9, 0, 0, 96, 144]⟩ [70368744177664, 140737488355328,
 281474976710656, 562949953421312, 1125899906842624, 2251799813685248, 4503599627370496, 9007199254740992, 18014398509481984] [512, 2, 128, 422212465065984, 633318697598976, 1, 2, 6755399441055744, 10133099161583616] (.take 0 (.take 1 (.take
 2 (.take 3 (.take 4 (.take 5 (.take 6 (.take 7 (.tail [.run])))))))))) (.s .r .l)))) .l)) (.s .r (.s (.s .r (.c (.s (.drw 8 false ⟨[0, 0, 0, 6, 9, 0, 0, 96, 144], [0, 0, 0, 6, 9, 0, 0, 96, 144]⟩ [590295810358705651712,
 1180591620717411303424, 2361183241434822606848, 4722366482869645213696, 9444732965739290427392, 18889465931478580854784, 37778931862957161709568, 75557863725914323419136, 151115727451828646838272] [1, 2, 128, 3541774862152233910272,
 5312662293228350865408, 1, 2, 56668397794435742564352, 85002596691653613846528] (.take 0 (.take 1 (.take 2 (.take 3 (.take 4 (.take 5 (.take 6 (.take 7 (.tail [.run])))))))))) (.s .r (.s .r .l))) .l)) a4)))))))))
theorem W.slices_Insert_Sl_Sl_byte_Sl_byte_ok (s : Sl) (i : Int) (v : Sl) (w : World) (Q : Value → World → Prop) (h : W.slices_Insert_Sl_Sl_byte_Sl_byte s i v w Q) : Ret Tryz.prog F.slices_Insert_Sl_Sl_byte_Sl_byte #[.slice s.a s.len s.cap, .int .i64 i, .slice v.a v.len v.cap] w Q := okF A.slices_Insert_Sl_Sl_byte_Sl_byte Tryz.func120 (by kernel_rfl) (by kernel_rfl) h
def W.slices_Clone_space_set_byte (s : Sl) (w : World) (Q : Value → World → Prop) : Prop := Br (Option.isNone s.a) (Q (.slice none 0 0) w) (Nx (w.alloc (.cells #[] Ty.uint8)) fun w1 => ∃ s2 : Sl, ∃ w3 : World, Sem.run Tryz.prog
 (Builtin.append_ #[Ty.space_set, Ty.space_set] Ty.space_set #[.slice (some (nA w)) 0 0, .slice s.a s.len s.cap]) w1 = .ok (.slice s2.a s2.len s2.cap) w3 ∧ Q (.slice s2.a s2.len s2.cap) w3)
def A.slices_Clone_space_set_byte : AT := a10
theorem W.slices_Clone_space_set_byte_ok (s : Sl) (w : World) (Q : Value → World → Prop) (h : W.slices_Clone_space_set_byte s w Q) : Ret Tryz.prog F.slices_Clone_space_set_byte #[.slice s.a s.len s.cap] w Q := okF A.slices_Clone_space_set_byte Tryz.func122 (by kernel_rfl) (by kernel_rfl) h
def W.slices_BinarySearchFunc_Sl_Sl_byte_Sl_byte_Sl_byte (x : Sl) (target : Sl) (cmp : Fv) (w : World) (Q : Value → World → Prop) : Prop := ∃ (I1 : Int → Int → World → Prop) (μ2 : Int → Int → World → Nat), I1 0 (x.len:Int) w ∧ ∀ (n3 : Int)
 (n4 : Int) (w5 : World), I1 n3 n4 w5 → Br (decide (n3 < n4)) ((0 : Int) ≤ 1 ∧ ∃ a6 : Addr, x.a = some a6 ∧ ((0 : Int) ≤ (wI (Int.fdiv (IntKind.wrap .u64 (wI (n3 + n4))) (2 ^ (min (Int.toNat 1) 64)))) ∧ (wI (Int.fdiv (IntKind.wrap .u64 (wI
 (n3 + n4))) (2 ^ (min (Int.toNat 1) 64)))) < (x.len:Int)) ∧ r1 w5 (a6.add (Int.toNat (wI (Int.fdiv (IntKind.wrap .u64 (wI (n3 + n4))) (2 ^ (min (Int.toNat 1) 64)))) * 1)) fun s7 => Callable Tryz.prog cmp.f ∧ Calls Tryz.prog cmp.f (cmp.pre
 ++ #[.slice s7.a s7.len s7.cap, .slice target.a target.len target.cap] ++ cmp.cap) w5 fun e9 w8 => ∃ n10 : Int, e9 = .returned (.int .i64 n10) ∧ Br (decide (n10 < 0)) (I1 (wI ((wI (Int.fdiv (IntKind.wrap .u64 (wI (n3 + n4))) (2 ^ (min
 (Int.toNat 1) 64)))) + 1)) n4 w8 ∧ μ2 (wI ((wI (Int.fdiv (IntKind.wrap .u64 (wI (n3 + n4))) (2 ^ (min (Int.toNat 1) 64)))) + 1)) n4 w8 < μ2 n3 n4 w5) (I1 n3 (wI (Int.fdiv (IntKind.wrap .u64 (wI (n3 + n4))) (2 ^ (min (Int.toNat 1) 64)))) w8
 ∧ μ2 n3 (wI (Int.fdiv (IntKind.wrap .u64 (wI (n3 + n4))) (2 ^ (min (Int.toNat 1) 64)))) w8 < μ2 n3 n4 w5)) (Jn (fun k11 : Bool → World → Prop => Br (decide (n3 < (x.len:Int))) (∃ a12 : Addr, x.a = some a12 ∧ bd n3 x.len ∧ r1 w5 (a12.add
 (Int.toNat n3 * 1)) fun s13 => Callable Tryz.prog cmp.f ∧ Calls Tryz.prog cmp.f (cmp.pre ++ #[.slice s13.a s13.len s13.cap, .slice target.a target.len target.cap] ++ cmp.cap) w5 fun e15 w14 => ∃ n16 : Int, e15 = .returned (.int .i64 n16) ∧
 k11 (n16 == 0) w14) (k11 false w5)) (fun (b17 : Bool) w18 => Q (.tuple #[.int .i64 n3, .bool b17]) w18))
def A.slices_BinarySearchFunc_Sl_Sl_byte_Sl_byte_Sl_byte : AT := (.s .r (.s .r (.s .r (.s (.blk (.loop [(9, (.int .i64)), (10, (.int .i64))] [0, 1, 2, 8] (.s (.s .r (.c .l .l)) (.blk (.s .r (.s .r (.c .r .r))))))) (.s (.reg [.run, .run,
 .run, .run, .run, .split 8]) .l)))))
theorem W.slices_BinarySearchFunc_Sl_Sl_byte_Sl_byte_Sl_byte_ok (x : Sl) (target : Sl) (cmp : Fv) (w : World) (Q : Value → World → Prop) (h : W.slices_BinarySearchFunc_Sl_Sl_byte_Sl_byte_Sl_byte x target cmp w Q) : Ret Tryz.prog F.slices_BinarySearchFunc_Sl_Sl_byte_Sl_byte_Sl_byte #[.slice x.a x.len x.cap, .slice target.a target.len target.cap, .func (.func cmp.f) cmp.pre cmp.cap] w Q := okF A.slices_BinarySearchFunc_Sl_Sl_byte_Sl_byte_Sl_byte Tryz.func146 (by kernel_rfl) (by kernel_rfl) h
def W.slices_ContainsFunc_Sl_Sl_byte_Sl_byte (s : Sl) (f : Fv) (w : World) (Q : Value → World → Prop) : Prop := c2 F.slices_IndexFunc_Sl_Sl_byte_Sl_byte #[.slice s.a s.len s.cap, .func (.func f.f) f.pre f.cap] w fun n3 w1 => Q (.bool
 (decide (n3 ≥ 0))) w1
def A.slices_ContainsFunc_Sl_Sl_byte_Sl_byte : AT := (.s .r (.s .r .l))
theorem W.slices_ContainsFunc_Sl_Sl_byte_Sl_byte_ok (s : Sl) (f : Fv) (w : World) (Q : Value → World → Prop) (h : W.slices_ContainsFunc_Sl_Sl_byte_Sl_byte s f w Q) : Ret Tryz.prog F.slices_ContainsFunc_Sl_Sl_byte_Sl_byte #[.slice s.a s.len s.cap, .func (.func f.f) f.pre f.cap] w Q := okF A.slices_ContainsFunc_Sl_Sl_byte_Sl_byte Tryz.func148 (by kernel_rfl) (by kernel_rfl) h
def W.slices_ContainsFunc_Sl_int_int (s : Sl) (f : Fv) (w : World) (Q : Value → World → Prop) : Prop := c2 F.slices_IndexFunc_Sl_int_int #[.slice s.a s.len s.cap, .func (.func f.f) f.pre f.cap] w fun n3 w1 => Q (.bool (decide (n3 ≥ 0))) w1
def A.slices_ContainsFunc_Sl_int_int : AT := (.s .r (.s .r .l))
theorem W.slices_ContainsFunc_Sl_int_int_ok (s : Sl) (f : Fv) (w : World) (Q : Value → World → Prop) (h : W.slices_ContainsFunc_Sl_int_int s f w Q) : Ret Tryz.prog F.slices_ContainsFunc_Sl_int_int #[.slice s.a s.len s.cap, .func (.func f.f) f.pre f.cap] w Q := okF A.slices_ContainsFunc_Sl_int_int Tryz.func150 (by kernel_rfl) (by kernel_rfl) h
def W.slices_Clone_Sl_int_int (s : Sl) (w : World) (Q : Value → World → Prop) : Prop := Br (Option.isNone s.a) (Q (.slice none 0 0) w) (Nx (w.alloc (.cells #[] Ty.int)) fun w1 => ∃ s2 : Sl, ∃ w3 : World, Sem.run Tryz.prog (Builtin.append_
 #[Ty.Sl_int, Ty.Sl_int] Ty.Sl_int #[.slice (some (nA w)) 0 0, .slice s.a s.len s.cap]) w1 = .ok (.slice s2.a s2.len s2.cap) w3 ∧ Q (.slice s2.a s2.len s2.cap) w3)
def A.slices_Clone_Sl_int_int : AT := a10
theorem W.slices_Clone_Sl_int_int_ok (s : Sl) (w : World) (Q : Value → World → Prop) (h : W.slices_Clone_Sl_int_int s w Q) : Ret Tryz.prog F.slices_Clone_Sl_int_int #[.slice s.a s.len s.cap] w Q := okF A.slices_Clone_Sl_int_int Tryz.func151 (by kernel_rfl) (by kernel_rfl) h
def W.bytes_Equal (a : Sl) (b : Sl) (w : World) (Q : Value → World → Prop) : Prop := ∃ s1 : ByteArray, ∃ w2 : World, Sem.run Tryz.prog (convert Ty.Sl_uint8 Ty.string (.slice a.a a.len a.cap)) w = .ok (.string s1) w2 ∧ ∃ s3 : ByteArray, ∃ w4
 : World, Sem.run Tryz.prog (convert Ty.Sl_uint8 Ty.string (.slice b.a b.len b.cap)) w2 = .ok (.string s3) w4 ∧ Q (.bool (ByteArray.toList s1 == ByteArray.toList s3)) w4
def A.bytes_Equal : AT := (.s .r (.s .r .l))
theorem W.bytes_Equal_ok (a : Sl) (b : Sl) (w : World) (Q : Value → World → Prop) (h : W.bytes_Equal a b w Q) : Ret Tryz.prog F.bytes_Equal #[.slice a.a a.len a.cap, .slice b.a b.len b.cap] w Q := okF A.bytes_Equal Tryz.func167 (by kernel_rfl) (by kernel_rfl) h
end Go.Proofs.YtplieiecebljmaaGreat
namespace Go.Proofs.YtplieiecebljmaaGreat
open Go Gx
set_option maxRecDepth 100000
def W.slices_IndexFunc_Sl_Sl_byte_Sl_byte (s : Sl) (f : Fv) (w : World) (Q : Value → World → Prop) : Prop := ∃ (I1 : Int → World → Prop) (μ2 : Int → World → Nat), I1 0 w ∧ ∀ (n3 : Int) (w4 : World), I1 n3 w4 → Br (decide (n3 < (s.len:Int)))
 (∃ a5 : Addr, s.a = some a5 ∧ bd n3 s.len ∧ r1 w4 (a5.add (Int.toNat n3 * 1)) fun s6 => Callable Tryz.prog f.f ∧ Calls Tryz.prog f.f (f.pre ++ #[.slice s6.a s6.len s6.cap] ++ f.cap) w4 fun e8 w7 => ∃ b9 : Bool, e8 = .returned (.bool b9) ∧
 Br b9 (Q (.int .i64 n3) w7) (I1 (wI (n3 + 1)) w7 ∧ μ2 (wI (n3 + 1)) w7 < μ2 n3 w4)) (Q (.int .i64 (-1)) w4)
def A.slices_IndexFunc_Sl_Sl_byte_Sl_byte : AT := a14
theorem W.slices_IndexFunc_Sl_Sl_byte_Sl_byte_ok (s : Sl) (f : Fv) (w : World) (Q : Value → World → Prop) (h : W.slices_IndexFunc_Sl_Sl_byte_Sl_byte s f w Q) : Ret Tryz.prog F.slices_IndexFunc_Sl_Sl_byte_Sl_byte #[.slice s.a s.len s.cap, .func (.func f.f) f.pre f.cap] w Q := okF A.slices_IndexFunc_Sl_Sl_byte_Sl_byte Tryz.func186 (by kernel_rfl) (by kernel_rfl) h
def W.slices_IndexFunc_Sl_int_int (s : Sl) (f : Fv) (w : World) (Q : Value → World → Prop) : Prop := ∃ (I1 : Int → World → Prop) (μ2 : Int → World → Nat), I1 0 w ∧ ∀ (n3 : Int) (w4 : World), I1 n3 w4 → Br (decide (n3 < (s.len:Int))) (∃ a5 :
 Addr, s.a = some a5 ∧ bd n3 s.len ∧ r2 w4 (a5.add (Int.toNat n3 * 1)) fun n6 => Callable Tryz.prog f.f ∧ Calls Tryz.prog f.f (f.pre ++ #[.int .i64 n6] ++ f.cap) w4 fun e8 w7 => ∃ b9 : Bool, e8 = .returned (.bool b9) ∧ Br b9 (Q (.int .i64
 n3) w7) (I1 (wI (n3 + 1)) w7 ∧ μ2 (wI (n3 + 1)) w7 < μ2 n3 w4)) (Q (.int .i64 (-1)) w4)
def A.slices_IndexFunc_Sl_int_int : AT := a14
theorem W.slices_IndexFunc_Sl_int_int_ok (s : Sl) (f : Fv) (w : World) (Q : Value → World → Prop) (h : W.slices_IndexFunc_Sl_int_int s f w Q) : Ret Tryz.prog F.slices_IndexFunc_Sl_int_int #[.slice s.a s.len s.cap, .func (.func f.f) f.pre f.cap] w Q := okF A.slices_IndexFunc_Sl_int_int Tryz.func187 (by kernel_rfl) (by kernel_rfl) h
def W.slices_Clone_Sl_Sl_byte_Sl_byte (s : Sl) (w : World) (Q : Value → World → Prop) : Prop := Br (Option.isNone s.a) (Q (.slice none 0 0) w) (Nx (w.alloc (.cells #[] Ty.Sl_uint8)) fun w1 => ∃ s2 : Sl, ∃ w3 : World, Sem.run Tryz.prog
 (Builtin.append_ #[Ty.Sl_Sl_uint8, Ty.Sl_Sl_uint8] Ty.Sl_Sl_uint8 #[.slice (some (nA w)) 0 0, .slice s.a s.len s.cap]) w1 = .ok (.slice s2.a s2.len s2.cap) w3 ∧ Q (.slice s2.a s2.len s2.cap) w3)
def A.slices_Clone_Sl_Sl_byte_Sl_byte : AT := a10
theorem W.slices_Clone_Sl_Sl_byte_Sl_byte_ok (s : Sl) (w : World) (Q : Value → World → Prop) (h : W.slices_Clone_Sl_Sl_byte_Sl_byte s w Q) : Ret Tryz.prog F.slices_Clone_Sl_Sl_byte_Sl_byte #[.slice s.a s.len s.cap] w Q := okF A.slices_Clone_Sl_Sl_byte_Sl_byte Tryz.func193 (by kernel_rfl) (by kernel_rfl) h
end Go.Proofs.YtplieiecebljmaaGreat
namespace Go.Proofs.YtplieiecebljmaaGreat
open Go Gx
set_option maxRecDepth 100000
def W.dev_New (n : Int) (w : World) (Q : Value → World → Prop) : Prop := Br ((decide (n < 16)) || (decide (n > 1600))) (Q (.tuple #[.pointer none, .int .i64 1]) w) (((0 : Int) ≤ n ∧ n ≤ n ∧ n ≤ mI ∧ ((256 : Nat) : Int) * n ≤
 140737488355328) ∧ Nx (w.alloc (.cells (zrow Tryz.prog Ty.dev_sector (Int.toNat n)) Ty.dev_sector)) fun w1 => ∃ m2 : Option Nat, ∃ w3 : World, Sem.run Tryz.prog (Instr.makeMap Ty.map_int_Sl_dev_sector none) w1 = .ok (.map m2) w3 ∧ ∃ c4 :
 Array Value, Sem.run Tryz.prog (Instr.build Ty.dev_Device #[(1, .slice (some (nA w)) (Int.toNat n) (Int.toNat n)), (2, .map m2)]) w3 = .ok (.agg c4) w3 ∧ Nx (w3.alloc (.cells c4 Ty.dev_Device)) fun w5 => ∃ a6 : Addr, (some (nA w3) : Option
 Addr) = some a6 ∧ c1 F.dev_fuses_clear #[.pointer (some a6)] w5 fun w7 => Q (.tuple #[.pointer (some (nA w3)), .int .i64 0]) w7)
def A.dev_New : AT := (.s .r (.s (.s (.reg [.run, .run, .run, .pure 2]) (.c (.s .r .l) .l)) a4))
theorem W.dev_New_ok (n : Int) (w : World) (Q : Value → World → Prop) (h : W.dev_New n w Q) : Ret Tryz.prog F.dev_New #[.int .i64 n] w Q := okF A.dev_New Tryz.func11 (by kernel_rfl) (by kernel_rfl) h
def W.dev_Device_Write (d : Option Addr) (i : Int) (b : Sl) (w : World) (Q : Value → World → Prop) : Prop := c3 F.dev_Device_has #[.pointer d, .int .i64 i] w fun b3 w1 => Br ((!b3) || ((b.len:Int) != 256)) (Q (.int .i64 1) w1) (∃ a4 : Addr,
 d = some a4 ∧ c3 F.dev_fuses_burns #[.pointer (some a4), .int .i64 2] w1 fun b7 w5 => Br b7 (Q (.int .i64 3) w5) (Nx (w5.drew) fun w8 => ∃ W9 : Nat → Prop, ∃ a10 : Addr, d = some a10 ∧ ¬ W9 (a10.add 5).block ∧ ∃ m11 : Option Nat, w8.cell?
 (a10.add 5) = some (.map m11) ∧ ∃ a12 : Addr, d = some a12 ∧ ¬ W9 (a12.add 5).block ∧ ∃ m13 : Option Nat, w8.cell? (a12.add 5) = some (.map m13) ∧ 256 ≤ b.len ∧ ∃ a14 : Addr, b.a = some a14 ∧ ¬ W9 a14.block ∧ ∃ l15 : List Value, rdCells w8
 a14 0 256 = some l15 ∧ (∃ s16 : Sl, ∃ w17 : World, Sem.run Tryz.prog (Instr.lookup Ty.map_int_Sl_dev_sector (.map m13) (.int .i64 i) false) w8 = .ok (.slice s16.a s16.len s16.cap) w17 ∧ Chg W9 w8 w17 ∧ ∃ s18 : Sl, ∃ w19 : World, Sem.run
 Tryz.prog (Instr.buildSlice Ty.Sl_dev_sector 1 #[(0, .agg l15.toArray)]) w17 = .ok (.slice s18.a s18.len s18.cap) w19 ∧ Chg W9 w17 w19 ∧ T13 s16 s18 w19 W9 m11 i d Q) ∧ (∃ s27 : Sl, ∃ w28 : World, Sem.run Tryz.prog (Instr.buildSlice
 Ty.Sl_dev_sector 1 #[(0, .agg l15.toArray)]) w8 = .ok (.slice s27.a s27.len s27.cap) w28 ∧ Chg W9 w8 w28 ∧ ∃ s29 : Sl, ∃ w30 : World, Sem.run Tryz.prog (Instr.lookup Ty.map_int_Sl_dev_sector (.map m13) (.int .i64 i) false) w28 = .ok (.slice
 s29.a s29.len s29.cap) w30 ∧ Chg W9 w28 w30 ∧ T13 s29 s27 w30 W9 m11 i d Q)))
def A.dev_Device_Write : AT := (.s .r (.s (.blk (.s (.reg [.run, .run, .run, .run, .run, .pure 3]) (.c (.s .r .l) a1))) (.s (.drw 16 true ⟨[0, 1, 2, 4, 0, 0, 32, 64, 128, 0, 768, 0, 2048, 4096, 8192, 17408, 65535], [0, 1, 2, 4, 0, 0, 32,
 64, 128, 0, 768, 0, 2048, 4096, 8192, 17408, 32792]⟩ [4194304, 8388608, 16777216, 33554432, 67108864, 134217728, 268435456, 536870912, 1073741824, 2147483648, 4294967296, 8589934592, 17179869184, 34359738368, 68719476736, 137438953472, 0]
 [1, 4194304, 8388608, 16777216, 2, 1, 134217728, 268435456, 536870912, 2, 3221225472, 4, 8589934592, 17179869184, 34359738368, 73014444032, 137539616768] (.take 0 (.take 1 (.take 2 (.take 3 (.take 4 (.take 5 (.take 6 (.take 7 (.take 8
 (.take 9 (.take 11 (.take 12 (.take 13 (.two 10 (.eff 14 (.eff 15 (.tail [.run]))) 14 (.eff 10 (.eff 15 (.tail [.run])))))))))))))))))) (.s .r (.s .r .l)))))
theorem W.dev_Device_Write_ok (d : Option Addr) (i : Int) (b : Sl) (w : World) (Q : Value → World → Prop) (h : W.dev_Device_Write d i b w Q) : Ret Tryz.prog F.dev_Device_Write #[.pointer d, .int .i64 i, .slice b.a b.len b.cap] w Q := okF A.dev_Device_Write Tryz.func14 (by kernel_rfl) (by kernel_rfl) h
def W.tree_Tree_Get (t : Option Addr) (key : Sl) (w : World) (Q : Value → World → Prop) : Prop := Jn (fun k1 : Bool → World → Prop => Br (Option.isNone t) (k1 true w) (c3 F.tree_keyed #[.slice key.a key.len key.cap] w fun b4 w2 => k1 (!b4)
 w2)) (fun (b5 : Bool) w6 => Br b5 (Br (Option.isNone t) (Q (.tuple #[.slice none 0 0, .bool false, .int .i64 1]) w6) (Q (.tuple #[.slice none 0 0, .bool false, .int .i64 0]) w6)) (c4 F.tree_Tree_way #[.pointer t, .slice key.a key.len
 key.cap] w6 fun s9 n10 w7 => Br ((n10 != 0) || ((s9.len:Int) == 0)) (Q (.tuple #[.slice none 0 0, .bool false, .int .i64 n10]) w7) (∃ a11 : Addr, s9.a = some a11 ∧ ((0 : Int) ≤ (wI ((s9.len:Int) - 1)) ∧ (wI ((s9.len:Int) - 1)) <
 (s9.len:Int)) ∧ r3 w7 ((a11.add (Int.toNat (wI ((s9.len:Int) - 1)) * 6)).add 1) fun b12 => r1 w7 (((a11.add (Int.toNat (wI ((s9.len:Int) - 1)) * 6)).add 1).add 1) fun s13 => r1 w7 (((a11.add (Int.toNat (wI ((s9.len:Int) - 1)) * 6)).add
 1).add 2) fun s14 => r1 w7 (((a11.add (Int.toNat (wI ((s9.len:Int) - 1)) * 6)).add 1).add 3) fun s15 => Nx (w7.alloc z1) fun w16 => StoreOk w16 (nA w7) [.bool b12, .slice s13.a s13.len s13.cap, .slice s14.a s14.len s14.cap, .slice s15.a
 s15.len s15.cap] ∧ (4 : Nat) = 4 ∧ Nx (setCells w16 (nA w7) 0 [.bool b12, .slice s13.a s13.len s13.cap, .slice s14.a s14.len s14.cap, .slice s15.a s15.len s15.cap]) fun w17 => r3 w17 (nA w7) fun b18 => r1 w17 (Addr.add (nA w7) 1) fun s19 =>
 r1 w17 (Addr.add (nA w7) 2) fun s20 => r1 w17 (Addr.add (nA w7) 3) fun s21 => c5 F.node_Find #[.agg #[.bool b18, .slice s19.a s19.len s19.cap, .slice s20.a s20.len s20.cap, .slice s21.a s21.len s21.cap], .slice key.a key.len key.cap] w17
 fun n24 b25 w22 => Br (!b25) (Q (.tuple #[.slice none 0 0, .bool false, .int .i64 0]) w22) (r1 w22 (Addr.add (nA w7) 2) fun s26 => ∃ a27 : Addr, s26.a = some a27 ∧ bd n24 s26.len ∧ r1 w22 (a27.add (Int.toNat n24 * 1)) fun s28 => Q (.tuple
 #[.slice s28.a s28.len s28.cap, .bool true, .int .i64 0]) w22))))
def A.tree_Tree_Get : AT := (.s .r (.s (.s (.reg [.run, .run, .run, .split 3]) (.c (.s a1 (.s .r .l)) .l)) (.s .r (.s a8 (.s .r a10)))))
theorem W.tree_Tree_Get_ok (t : Option Addr) (key : Sl) (w : World) (Q : Value → World → Prop) (h : W.tree_Tree_Get t key w Q) : Ret Tryz.prog F.tree_Tree_Get #[.pointer t, .slice key.a key.len key.cap] w Q := okF A.tree_Tree_Get Tryz.func21 (by kernel_rfl) (by kernel_rfl) h
def W.tree_Tree_Delete (t : Option Addr) (key : Sl) (w : World) (Q : Value → World → Prop) : Prop := Jn (fun k1 : Bool → World → Prop => Br (Option.isNone t) (k1 true w) (c3 F.tree_keyed #[.slice key.a key.len key.cap] w fun b4 w2 => k1
 (!b4) w2)) (fun (b5 : Bool) w6 => Br b5 (Q (.tuple #[.bool false, .int .i64 1]) w6) (c4 F.tree_Tree_way #[.pointer t, .slice key.a key.len key.cap] w6 fun s9 n10 w7 => Br ((n10 != 0) || ((s9.len:Int) == 0)) (Q (.tuple #[.bool false, .int
 .i64 n10]) w7) (∃ a11 : Addr, s9.a = some a11 ∧ ((0 : Int) ≤ (wI ((s9.len:Int) - 1)) ∧ (wI ((s9.len:Int) - 1)) < (s9.len:Int)) ∧ r3 w7 ((a11.add (Int.toNat (wI ((s9.len:Int) - 1)) * 6)).add 1) fun b12 => r1 w7 (((a11.add (Int.toNat (wI
 ((s9.len:Int) - 1)) * 6)).add 1).add 1) fun s13 => r1 w7 (((a11.add (Int.toNat (wI ((s9.len:Int) - 1)) * 6)).add 1).add 2) fun s14 => r1 w7 (((a11.add (Int.toNat (wI ((s9.len:Int) - 1)) * 6)).add 1).add 3) fun s15 => c6 F.node_Delete #[.agg
 #[.bool b12, .slice s13.a s13.len s13.cap, .slice s14.a s14.len s14.cap, .slice s15.a s15.len s15.cap], .slice key.a key.len key.cap] w7 fun b18 s19 s20 s21 b22 w16 => Nx (w16.alloc z1) fun w23 => StoreOk w23 (nA w16) [.bool b18, .slice
 s19.a s19.len s19.cap, .slice s20.a s20.len s20.cap, .slice s21.a s21.len s21.cap] ∧ (4 : Nat) = 4 ∧ Nx (setCells w23 (nA w16) 0 [.bool b18, .slice s19.a s19.len s19.cap, .slice s20.a s20.len s20.cap, .slice s21.a s21.len s21.cap]) fun w24
 => Br (!b22) (Q (.tuple #[.bool false, .int .i64 0]) w24) (r3 w24 (nA w16) fun b25 => r1 w24 (Addr.add (nA w16) 1) fun s26 => r1 w24 (Addr.add (nA w16) 2) fun s27 => r1 w24 (Addr.add (nA w16) 3) fun s28 => c2 F.tree_Tree_does #[.pointer t,
 .slice s9.a s9.len s9.cap, .agg #[.bool b25, .slice s26.a s26.len s26.cap, .slice s27.a s27.len s27.cap, .slice s28.a s28.len s28.cap]] w24 fun n31 w29 => Q (.tuple #[.bool (n31 == 0), .int .i64 n31]) w29))))
def A.tree_Tree_Delete : AT := (.s .r (.s a7 (.s .r (.s a8 (.s .r a12)))))
theorem W.tree_Tree_Delete_ok (t : Option Addr) (key : Sl) (w : World) (Q : Value → World → Prop) (h : W.tree_Tree_Delete t key w Q) : Ret Tryz.prog F.tree_Tree_Delete #[.pointer t, .slice key.a key.len key.cap] w Q := okF A.tree_Tree_Delete Tryz.func22 (by kernel_rfl) (by kernel_rfl) h
def W.tree_Tree_Scan (t : Option Addr) (v_from : Sl) (to : Sl) (most : Int) (w : World) (Q : Value → World → Prop) : Prop := Nx (w.alloc (.cells #[.slice v_from.a v_from.len v_from.cap] Ty.Sl_uint8)) fun w1 => Nx (w1.alloc (.cells #[.slice
 to.a to.len to.cap] Ty.Sl_uint8)) fun w2 => Nx (w2.alloc (.cells #[.int .i64 most] Ty.int)) fun w3 => Br (Option.isNone t) (Q (.tuple #[.slice none 0 0, .int .i64 1]) w3) (∃ a4 : Addr, t = some a4 ∧ r2 w3 (a4.add 4) fun n5 => Jn (fun k6 :
 Bool → World → Prop => Br (n5 == 0) (k6 true w3) (r2 w3 (nA w2) fun n7 => k6 (decide (n7 < 1)) w3)) (fun (b8 : Bool) w9 => Br b8 (Q (.tuple #[.slice none 0 0, .int .i64 0]) w9) (Nx (w9.alloc (.cells #[.slice none 0 0] Ty.Sl_api_Pair)) fun
 w10 => Nx (w10.drew) fun w11 => ∃ W12 : Nat → Prop, ∃ a13 : Addr, t = some a13 ∧ ¬ W12 (a13.add 3).block ∧ r2 w11 (a13.add 3) fun n14 => ∃ a15 : Addr, t = some a15 ∧ ¬ W12 (a15.add 4).block ∧ r2 w11 (a15.add 4) fun n16 => ¬ W12 ((nA w) :
 Addr).block ∧ r1 w11 (nA w) fun s17 => Chg W12 w11 w11 ∧ c7 F.tree_Tree_visit #[.pointer t, .int .i64 n14, .int .i64 n16, .slice s17.a s17.len s17.cap, .func (.func F.tree_Tree_Scan_1) #[] #[.pointer (some (nA w1)), .pointer (some (nA w)),
 .pointer (some (nA w9)), .pointer (some (nA w2))]] w11 fun b20 n21 w18 => Br (n21 != 0) (Q (.tuple #[.slice none 0 0, .int .i64 n21]) w18) (r1 w18 (nA w9) fun s22 => Q (.tuple #[.slice s22.a s22.len s22.cap, .int .i64 0]) w18))))
def A.tree_Tree_Scan : AT := (.s .r (.s a1 (.s (.s (.reg [.run, .run, .run, .run, .run, .run, .split 2]) (.c (.s .r .l) .l)) (.s .r (.s (.drw 16 true ⟨[0, 0, 2, 4, 8, 0, 32, 64, 128, 0, 0, 1809, 2048, 4096, 4096, 16383, 65535], [0, 0, 2, 4,
 8, 0, 32, 64, 128, 0, 0, 1809, 2048, 4096, 4096, 8192, 16384]⟩ [33554432, 67108864, 134217728, 268435456, 536870912, 1073741824, 2147483648, 4294967296, 8589934592, 17179869184, 34359738368, 68719476736, 16777216, 137438953472,
 274877906944, 2048, 4096] [1, 1, 67108864, 134217728, 268435456, 1, 1073741824, 2147483648, 4294967296, 32, 1248, 60699967488, 68719476736, 16777216, 16777216, 137438953472, 274877906944] (.take 0 (.take 1 (.take 2 (.take 3 (.take 4 (.take
 5 (.take 6 (.take 7 (.take 8 (.take 9 (.eff 10 (.out 11 false (.take 12 (.take 13 (.take 14 (.take 15 (.tail [.run])))))))))))))))))) (.s a1 (.s .r .l)))))))
theorem W.tree_Tree_Scan_ok (t : Option Addr) (v_from : Sl) (to : Sl) (most : Int) (w : World) (Q : Value → World → Prop) (h : W.tree_Tree_Scan t v_from to most w Q) : Ret Tryz.prog F.tree_Tree_Scan #[.pointer t, .slice v_from.a v_from.len v_from.cap, .slice to.a to.len to.cap, .int .i64 most] w Q := okF A.tree_Tree_Scan Tryz.func23 (by kernel_rfl) (by kernel_rfl) h
def W.tree_New (c : Option Addr) (s : Option Addr) (gen : Int) (root : Int) (height : Int) (w : World) (Q : Value → World → Prop) : Prop := Jn (fun k1 : Bool → World → Prop => Br (((((Option.isNone c) || (Option.isNone s)) || (decide
 (height < 0))) || (decide (height > 12))) || (decide (root < 0))) (k1 true w) (∃ a2 : Addr, c = some a2 ∧ ∃ p3 : Option Addr, w.cell? a2 = some (.pointer p3) ∧ c2 F.dev_Device_Len #[.pointer p3] w fun n6 w4 => k1 (decide (root ≥ n6)) w4))
 (fun (b7 : Bool) w8 => Br (b7 || (!((root == 0) == (height == 0)))) (Q (.tuple #[.pointer none, .int .i64 1]) w8) (Nx (w8.alloc (.cells #[.pointer c, .pointer s, .int .u64 gen, .int .i64 root, .int .i64 height] Ty.tree_Tree)) fun w9 => Q
 (.tuple #[.pointer (some (nA w8)), .int .i64 0]) w9))
def A.tree_New : AT := (.s .r (.s (.s (.reg [.run, .run, .run, .pure 2, .run, .run, .run, .pure 2, .run, .run, .run, .pure 2, .run, .run, .run, .pure 2, .run, .run, .run, .split 7, .run, .run, .run, .run, .run, .run, .run, .run, .pure 5])
 (.c (.s .r .l) .l)) (.s .r .l)))
theorem W.tree_New_ok (c : Option Addr) (s : Option Addr) (gen : Int) (root : Int) (height : Int) (w : World) (Q : Value → World → Prop) (h : W.tree_New c s gen root height w Q) : Ret Tryz.prog F.tree_New #[.pointer c, .pointer s, .int .u64 gen, .int .i64 root, .int .i64 height] w Q := okF A.tree_New Tryz.func25 (by kernel_rfl) (by kernel_rfl) h
def W.tree_Tree_Put (t : Option Addr) (key : Sl) (val : Sl) (w : World) (Q : Value → World → Prop) : Prop := Jn (fun k1 : Bool → World → Prop => Br (Option.isNone t) (k1 true w) (c3 F.tree_keyed #[.slice key.a key.len key.cap] w fun b4 w2
 => k1 (!b4) w2)) (fun (b5 : Bool) w6 => Br (b5 || (decide ((val.len:Int) > 24))) (Q (.int .i64 1) w6) (Nx (w6.drew) fun w7 => ∃ W8 : Nat → Prop, ∃ a9 : Addr, t = some a9 ∧ ¬ W8 (a9.add 1).block ∧ ∃ p10 : Option Addr, w7.cell? (a9.add 1) =
 some (.pointer p10) ∧ ∃ a11 : Addr, t = some a11 ∧ ¬ W8 (a11.add 4).block ∧ r2 w7 (a11.add 4) fun n12 => c2 F.space_Space_Room #[.pointer p10] w7 fun n15 w13 => Chg W8 w7 w13 ∧ Br (decide (n15 < (wI ((wI (2 * n12)) + 3)))) (Q (.int .i64 2)
 w13) (c4 F.tree_Tree_way #[.pointer t, .slice key.a key.len key.cap] w13 fun s18 n19 w16 => Br (n19 != 0) (Q (.int .i64 n19) w16) (Nx (w16.alloc z1) fun w20 => StoreOk w20 (nA w16) [.bool true, .slice none 0 0, .slice none 0 0, .slice none
 0 0] ∧ (4 : Nat) = 4 ∧ Nx (setCells w20 (nA w16) 0 [.bool true, .slice none 0 0, .slice none 0 0, .slice none 0 0]) fun w21 => Jn (fun k22 : World → Prop => Br (decide ((s18.len:Int) > 0)) (∃ a23 : Addr, s18.a = some a23 ∧ ((0 : Int) ≤ (wI
 ((s18.len:Int) - 1)) ∧ (wI ((s18.len:Int) - 1)) < (s18.len:Int)) ∧ r3 w21 ((a23.add (Int.toNat (wI ((s18.len:Int) - 1)) * 6)).add 1) fun b24 => r1 w21 (((a23.add (Int.toNat (wI ((s18.len:Int) - 1)) * 6)).add 1).add 1) fun s25 => r1 w21
 (((a23.add (Int.toNat (wI ((s18.len:Int) - 1)) * 6)).add 1).add 2) fun s26 => r1 w21 (((a23.add (Int.toNat (wI ((s18.len:Int) - 1)) * 6)).add 1).add 3) fun s27 => T27 w21 w16 b24 s25 s26 s27 k22) (k22 w21)) (fun w29 => r3 w29 (nA w16) fun
 b30 => r1 w29 (Addr.add (nA w16) 1) fun s31 => r1 w29 (Addr.add (nA w16) 2) fun s32 => r1 w29 (Addr.add (nA w16) 3) fun s33 => c6 F.node_Put #[.agg #[.bool b30, .slice s31.a s31.len s31.cap, .slice s32.a s32.len s32.cap, .slice s33.a
 s33.len s33.cap], .slice key.a key.len key.cap, .slice val.a val.len val.cap] w29 fun b36 s37 s38 s39 b40 w34 => Nx (w34.alloc z1) fun w41 => StoreOk w41 (nA w34) [.bool b36, .slice s37.a s37.len s37.cap, .slice s38.a s38.len s38.cap,
 .slice s39.a s39.len s39.cap] ∧ (4 : Nat) = 4 ∧ Nx (setCells w41 (nA w34) 0 [.bool b36, .slice s37.a s37.len s37.cap, .slice s38.a s38.len s38.cap, .slice s39.a s39.len s39.cap]) fun w42 => Br (!b40) (Q (.int .i64 4) w42) (r3 w42 (nA w34)
 fun b43 => r1 w42 (Addr.add (nA w34) 1) fun s44 => r1 w42 (Addr.add (nA w34) 2) fun s45 => r1 w42 (Addr.add (nA w34) 3) fun s46 => c2 F.tree_Tree_does #[.pointer t, .slice s18.a s18.len s18.cap, .agg #[.bool b43, .slice s44.a s44.len
 s44.cap, .slice s45.a s45.len s45.cap, .slice s46.a s46.len s46.cap]] w42 fun n49 w47 => Q (.int .i64 n49) w47))))))
def A.tree_Tree_Put : AT := (.s .r (.s (.blk (.s (.reg [.run, .run, .run, .split 3, .run, .run, .run, .run, .pure 3]) (.c (.s .r .l) (.s (.drw 11 true ⟨[0, 1, 2, 4, 8, 0, 32, 64, 128, 256, 512, 1040, 2064], [0, 1, 2, 4, 8, 0, 32, 64, 128,
 256, 512, 1040, 2048]⟩ [67108864, 134217728, 268435456, 536870912, 1073741824, 2147483648, 4294967296, 8589934592, 17179869184, 34359738368, 68719476736, 137438953472, 33554432] [1, 67108864, 134217728, 268435456, 536870912, 1, 2147483648,
 4294967296, 8589934592, 17179869184, 34359738368, 69793218560, 137438953472] (.take 0 (.take 1 (.take 2 (.take 3 (.take 5 (.take 6 (.take 7 (.take 8 (.take 9 (.take 10 (.eff 4 (.tail [.run, .run]))))))))))))) (.c (.s .r .l) .l))))) (.s .r
 (.s a1 (.s .r (.s (.jk [] [0, 1, 2, 7, 9] (.s .r (.c .r .l))) a10))))))
theorem W.tree_Tree_Put_ok (t : Option Addr) (key : Sl) (val : Sl) (w : World) (Q : Value → World → Prop) (h : W.tree_Tree_Put t key val w Q) : Ret Tryz.prog F.tree_Tree_Put #[.pointer t, .slice key.a key.len key.cap, .slice val.a val.len val.cap] w Q := okF A.tree_Tree_Put Tryz.func26 (by kernel_rfl) (by kernel_rfl) h
def W.dev_Device_Read (d : Option Addr) (i : Int) (w : World) (Q : Value → World → Prop) : Prop := c3 F.dev_Device_has #[.pointer d, .int .i64 i] w fun b3 w1 => Br (!b3) (Q (.tuple #[.slice none 0 0, .int .i64 1]) w1) (∃ a4 : Addr, d = some
 a4 ∧ c3 F.dev_fuses_burns #[.pointer (some a4), .int .i64 1] w1 fun b7 w5 => Br b7 (Q (.tuple #[.slice none 0 0, .int .i64 3]) w5) (c8 F.dev_Device_now #[.pointer d, .int .i64 i] w5 fun c10 w8 => Nx (w8.alloc z2) fun w11 => StoreOk w11 (nA
 w8) (Array.toList c10) ∧ Array.size c10 = 256 ∧ Nx (setCells w11 (nA w8) 0 (Array.toList c10)) fun w12 => Q (.tuple #[.slice (cutA (some (nA w8)) 1 0 256) (256 - 0) (256 - 0), .int .i64 0]) w12))
def A.dev_Device_Read : AT := a13
theorem W.dev_Device_Read_ok (d : Option Addr) (i : Int) (w : World) (Q : Value → World → Prop) (h : W.dev_Device_Read d i w Q) : Ret Tryz.prog F.dev_Device_Read #[.pointer d, .int .i64 i] w Q := okF A.dev_Device_Read Tryz.func34 (by kernel_rfl) (by kernel_rfl) h
def W.dev_fuses_clear (f : Option Addr) (w : World) (Q : Value → World → Prop) : Prop := ∃ (I1 : Int → World → Prop) (μ2 : Int → World → Nat), I1 0 w ∧ ∀ (n3 : Int) (w4 : World), I1 n3 w4 → Br (decide (n3 < 4)) (∃ a5 : Addr, f = some a5 ∧
 ((0 : Int) ≤ n3 ∧ n3 < ((4 : Nat) : Int)) ∧ st w4 (Addr.add a5 (Int.toNat n3 * 1)) (.int .i64 (-1)) fun w6 => I1 (wI (n3 + 1)) w6 ∧ μ2 (wI (n3 + 1)) w6 < μ2 n3 w4) (Q (.tuple #[]) w4)
def A.dev_fuses_clear : AT := (.s .r (.blk (.loop [(3, (.int .i64))] [0] a2)))
theorem W.dev_fuses_clear_ok (f : Option Addr) (w : World) (Q : Value → World → Prop) (h : W.dev_fuses_clear f w Q) : Ret Tryz.prog F.dev_fuses_clear #[.pointer f] w Q := okF A.dev_fuses_clear Tryz.func39 (by kernel_rfl) (by kernel_rfl) h
def W.dev_Device_has (d : Option Addr) (i : Int) (w : World) (Q : Value → World → Prop) : Prop := Jn (fun k1 : Bool → World → Prop => Br ((!(Option.isNone d)) && (decide (i ≥ 0))) (∃ a2 : Addr, d = some a2 ∧ r1 w (a2.add 4) fun s3 => k1
 (decide (i < (s3.len:Int))) w) (k1 false w)) (fun (b4 : Bool) w5 => Q (.bool b4) w5)
def A.dev_Device_has : AT := a5
theorem W.dev_Device_has_ok (d : Option Addr) (i : Int) (w : World) (Q : Value → World → Prop) (h : W.dev_Device_has d i w Q) : Ret Tryz.prog F.dev_Device_has #[.pointer d, .int .i64 i] w Q := okF A.dev_Device_has Tryz.func43 (by kernel_rfl) (by kernel_rfl) h
def W.dev_fuses_burns (f : Option Addr) (what : Int) (w : World) (Q : Value → World → Prop) : Prop := ∃ a1 : Addr, f = some a1 ∧ ((0 : Int) ≤ what ∧ what < ((4 : Nat) : Int)) ∧ r2 w (Addr.add a1 (Int.toNat what * 1)) fun n2 => Br (n2 ==
 (-1)) (Q (.bool false) w) (Br (n2 == 0) (∃ a3 : Addr, f = some a3 ∧ ((0 : Int) ≤ what ∧ what < ((4 : Nat) : Int)) ∧ st w (Addr.add a3 (Int.toNat what * 1)) (.int .i64 (-1)) fun w4 => Q (.bool true) w4) (Nx (w.drew) fun w5 => ∃ a6 : Addr, f
 = some a6 ∧ ((0 : Int) ≤ what ∧ what < ((4 : Nat) : Int)) ∧ ¬ False ∧ r2 w5 (Addr.add a6 (Int.toNat what * 1)) fun n7 => ∃ a8 : Addr, f = some a8 ∧ ((0 : Int) ≤ what ∧ what < ((4 : Nat) : Int)) ∧ st w5 (Addr.add a8 (Int.toNat what * 1))
 (.int .i64 (wI (n7 - 1))) fun w9 => Q (.bool false) w9))
def A.dev_fuses_burns : AT := (.s .r (.s (.s .r (.blk (.s .r (.c (.s .r .l) (.s .r a6))))) (.s (.drw 7 false ⟨[0, 0, 1, 6, 8, 16, 1, 127, 191], [0, 0, 1, 6, 8, 16, 1, 66, 160]⟩ [262144, 524288, 1048576, 2097152, 4194304, 8388608, 16777216,
 33554432, 0] [1, 2, 262144, 1572864, 2097152, 4194304, 262144, 17301504, 41943040] (.take 0 (.take 1 (.take 2 (.take 3 (.take 4 (.take 5 (.take 6 (.tail [.run, .run]))))))))) (.s .r .l))))
theorem W.dev_fuses_burns_ok (f : Option Addr) (what : Int) (w : World) (Q : Value → World → Prop) (h : W.dev_fuses_burns f what w Q) : Ret Tryz.prog F.dev_fuses_burns #[.pointer f, .int .i64 what] w Q := okF A.dev_fuses_burns Tryz.func44 (by kernel_rfl) (by kernel_rfl) h
def W.dev_Device_Len (d : Option Addr) (w : World) (Q : Value → World → Prop) : Prop := Br (Option.isNone d) (Q (.int .i64 0) w) (∃ a1 : Addr, d = some a1 ∧ r1 w (a1.add 4) fun s2 => Q (.int .i64 (s2.len:Int)) w)
def A.dev_Device_Len : AT := a10
theorem W.dev_Device_Len_ok (d : Option Addr) (w : World) (Q : Value → World → Prop) (h : W.dev_Device_Len d w Q) : Ret Tryz.prog F.dev_Device_Len #[.pointer d] w Q := okF A.dev_Device_Len Tryz.func45 (by kernel_rfl) (by kernel_rfl) h
def W.tree_keyed (v_k : Sl) (w : World) (Q : Value → World → Prop) : Prop := Q (.bool ((decide ((v_k.len:Int) ≥ 1)) && (decide ((v_k.len:Int) ≤ 24)))) w
def A.tree_keyed : AT := a9
theorem W.tree_keyed_ok (v_k : Sl) (w : World) (Q : Value → World → Prop) (h : W.tree_keyed v_k w Q) : Ret Tryz.prog F.tree_keyed #[.slice v_k.a v_k.len v_k.cap] w Q := okF A.tree_keyed Tryz.func57 (by kernel_rfl) (by kernel_rfl) h
def W.tree_Tree_way (t : Option Addr) (key : Sl) (w : World) (Q : Value → World → Prop) : Prop := ∃ a1 : Addr, t = some a1 ∧ r2 w (a1.add 3) fun n2 => ∃ a3 : Addr, t = some a3 ∧ r2 w (a3.add 4) fun n4 => ∃ (I5 : Sl → Int → Int → World →
 Prop) (μ6 : Sl → Int → Int → World → Nat), I5 ⟨none, 0, 0⟩ n2 n4 w ∧ ∀ (s7 : Sl) (n8 : Int) (n9 : Int) (w10 : World), I5 s7 n8 n9 w10 → Br (decide (n9 > 0)) (c9 F.tree_Tree_read #[.pointer t, .int .i64 n8, .bool (n9 == 1)] w10 fun b13 s14
 s15 s16 n17 w11 => Nx (w11.alloc z1) fun w18 => StoreOk w18 (nA w11) [.bool b13, .slice s14.a s14.len s14.cap, .slice s15.a s15.len s15.cap, .slice s16.a s16.len s16.cap] ∧ (4 : Nat) = 4 ∧ Nx (setCells w18 (nA w11) 0 [.bool b13, .slice
 s14.a s14.len s14.cap, .slice s15.a s15.len s15.cap, .slice s16.a s16.len s16.cap]) fun w19 => Br (n17 != 0) (Q (.tuple #[.slice none 0 0, .int .i64 n17]) w19) (r3 w19 (nA w11) fun b20 => r1 w19 (Addr.add (nA w11) 1) fun s21 => r1 w19
 (Addr.add (nA w11) 2) fun s22 => r1 w19 (Addr.add (nA w11) 3) fun s23 => ∃ c24 : Array Value, Sem.run Tryz.prog (Instr.build Ty.tree_step #[(0, .int .i64 n8), (1, .agg #[.bool b20, .slice s21.a s21.len s21.cap, .slice s22.a s22.len s22.cap,
 .slice s23.a s23.len s23.cap]) ]) w19 = .ok (.agg c24) w19 ∧ Nx (w19.alloc (.cells #[.int .i64 0, .bool false, .slice none 0 0, .slice none 0 0, .slice none 0 0, .int .i64 0] Ty.tree_step)) fun w25 => StoreOk w25 (nA w19) (Array.toList c24)
 ∧ Array.size c24 = 6 ∧ Nx (setCells w25 (nA w19) 0 (Array.toList c24)) fun w26 => Jn (fun k27 : Int → World → Prop => Br (decide (n9 > 1)) (r3 w26 (nA w11) fun b28 => r1 w26 (Addr.add (nA w11) 1) fun s29 => r1 w26 (Addr.add (nA w11) 2) fun
 s30 => r1 w26 (Addr.add (nA w11) 3) fun s31 => c2 F.node_Kid #[.agg #[.bool b28, .slice s29.a s29.len s29.cap, .slice s30.a s30.len s30.cap, .slice s31.a s31.len s31.cap], .slice key.a key.len key.cap] w26 fun n34 w32 => st w32 (Addr.add
 (nA w19) 5) (.int .i64 n34) fun w35 => r1 w35 (Addr.add (nA w11) 3) fun s36 => r2 w35 (Addr.add (nA w19) 5) fun n37 => ∃ a38 : Addr, s36.a = some a38 ∧ bd n37 s36.len ∧ r2 w35 (a38.add (Int.toNat n37 * 1)) fun n39 => k27 n39 w35) (k27 n8
 w26)) (fun (n40 : Int) w41 => ∃ l42 : List Value, rdCells w41 (nA w19) 0 6 = some l42 ∧ ∃ s43 : Sl, ∃ w44 : World, Sem.run Tryz.prog (Instr.buildSlice Ty.Sl_tree_step 1 #[(0, .agg l42.toArray)]) w41 = .ok (.slice s43.a s43.len s43.cap) w44
 ∧ ∃ s45 : Sl, ∃ w46 : World, Sem.run Tryz.prog (Builtin.append_ #[Ty.Sl_tree_step, Ty.Sl_tree_step] Ty.Sl_tree_step #[.slice s7.a s7.len s7.cap, .slice s43.a s43.len s43.cap]) w44 = .ok (.slice s45.a s45.len s45.cap) w46 ∧ I5 s45 n40 (wI
 (n9 - 1)) w46 ∧ μ6 s45 n40 (wI (n9 - 1)) w46 < μ6 s7 n8 n9 w10))) (Q (.tuple #[.slice s7.a s7.len s7.cap, .int .i64 0]) w10)
def A.tree_Tree_way : AT := (.s .r (.s .r (.s .r (.s (.s .r (.blk (.loop [(6, .slice), (7, (.int .i64)), (8, (.int .i64))] [0, 1] (.s (.s .r (.c .l .l)) (.s (.blk (.s .r (.s a1 (.s .r (.s (.jk [(7, (.int .i64))] [0, 1, 6, 8, 11] (.s .r (.c
 (.s .r .r) .l))) .r))))) .r))))) (.s .r .l)))))
theorem W.tree_Tree_way_ok (t : Option Addr) (key : Sl) (w : World) (Q : Value → World → Prop) (h : W.tree_Tree_way t key w Q) : Ret Tryz.prog F.tree_Tree_way #[.pointer t, .slice key.a key.len key.cap] w Q := okF A.tree_Tree_way Tryz.func58 (by kernel_rfl) (by kernel_rfl) h
def W.node_Find (n_Leaf : Bool) (n_Keys : Sl) (n_Vals : Sl) (n_Kids : Sl) (key : Sl) (w : World) (Q : Value → World → Prop) : Prop := Nx (w.alloc (.cells #[.bool n_Leaf, .slice n_Keys.a n_Keys.len n_Keys.cap, .slice n_Vals.a n_Vals.len
 n_Vals.cap, .slice n_Kids.a n_Kids.len n_Kids.cap] Ty.api_Node)) fun w1 => r3 w1 (nA w) fun b2 => r1 w1 (Addr.add (nA w) 1) fun s3 => r1 w1 (Addr.add (nA w) 2) fun s4 => r1 w1 (Addr.add (nA w) 3) fun s5 => c5 F.node_find #[.agg #[.bool b2,
 .slice s3.a s3.len s3.cap, .slice s4.a s4.len s4.cap, .slice s5.a s5.len s5.cap], .slice key.a key.len key.cap] w1 fun n8 b9 w6 => Q (.tuple #[.int .i64 n8, .bool b9]) w6
def A.node_Find : AT := (.s .r (.s .r .l))
theorem W.node_Find_ok (n_Leaf : Bool) (n_Keys : Sl) (n_Vals : Sl) (n_Kids : Sl) (key : Sl) (w : World) (Q : Value → World → Prop) (h : W.node_Find n_Leaf n_Keys n_Vals n_Kids key w Q) : Ret Tryz.prog F.node_Find #[.agg #[.bool n_Leaf, .slice n_Keys.a n_Keys.len n_Keys.cap, .slice n_Vals.a n_Vals.len n_Vals.cap, .slice n_Kids.a n_Kids.len n_Kids.cap], .slice key.a key.len key.cap] w Q := okF A.node_Find Tryz.func59 (by kernel_rfl) (by kernel_rfl) h
def W.tree_Tree_does (t : Option Addr) (way : Sl) (leaf_Leaf : Bool) (leaf_Keys : Sl) (leaf_Vals : Sl) (leaf_Kids : Sl) (w : World) (Q : Value → World → Prop) : Prop := Nx (w.alloc (.cells #[.bool leaf_Leaf, .slice leaf_Keys.a leaf_Keys.len
 leaf_Keys.cap, .slice leaf_Vals.a leaf_Vals.len leaf_Vals.cap, .slice leaf_Kids.a leaf_Kids.len leaf_Kids.cap] Ty.api_Node)) fun w1 => Nx (w1.alloc (.cells #[.int .i64 0] Ty.api_Errno)) fun w2 => Nx (w2.drew) fun w3 => ∃ W4 : Nat → Prop, ∃
 a5 : Addr, t = some a5 ∧ ¬ W4 (a5.add 1).block ∧ ∃ p6 : Option Addr, w3.cell? (a5.add 1) = some (.pointer p6) ∧ ∃ a7 : Addr, t = some a7 ∧ ¬ W4 (a7.add 4).block ∧ r2 w3 (a7.add 4) fun n8 => c2 F.space_Space_Room #[.pointer p6] w3 fun n11 w9
 => Chg W4 w3 w9 ∧ Br (decide (n11 < (wI ((wI (2 * n8)) + 3)))) (st w9 (nA w1) (.int .i64 2) fun w12 => r2 w12 (nA w1) fun n13 => Q (.int .i64 n13) w12) (Nx (w9.alloc (.cells #[.pointer t, .slice none 0 0, .slice none 0 0] Ty.tree_change))
 fun w14 => Nx (w14.alloc (.cells #[.pointer none] Ty.P_tree_change)) fun w15 => st w15 (nA w14) (.pointer (some (nA w9))) fun w16 => ∃ p17 : Option Addr, w16.cell? (nA w14) = some (.pointer p17) ∧ r3 w16 (nA w) fun b18 => r1 w16 (Addr.add
 (nA w) 1) fun s19 => r1 w16 (Addr.add (nA w) 2) fun s20 => r1 w16 (Addr.add (nA w) 3) fun s21 => c10 F.tree_change_up #[.pointer p17, .slice way.a way.len way.cap, .agg #[.bool b18, .slice s19.a s19.len s19.cap, .slice s20.a s20.len
 s20.cap, .slice s21.a s21.len s21.cap]] w16 fun n24 n25 n26 w22 => st w22 (nA w1) (.int .i64 n26) fun w27 => r2 w27 (nA w1) fun n28 => Br (n28 != 0) (r2 w27 (nA w1) fun n29 => st w27 (nA w1) (.int .i64 n29) fun w30 => Dfr Tryz.prog
 F.tree_Tree_does_1 #[.pointer (some (nA w1)), .pointer (some (nA w14))] w30 fun w31 => r2 w31 (nA w1) fun n32 => Q (.int .i64 n32) w31) (Nx (w27.drew) fun w33 => ¬ False ∧ ∃ p34 : Option Addr, w33.cell? (nA w14) = some (.pointer p34) ∧ ¬
 False ∧ ∃ p35 : Option Addr, w33.cell? (nA w14) = some (.pointer p35) ∧ ∃ a36 : Addr, p35 = some a36 ∧ ¬ False ∧ r1 w33 (a36.add 2) fun s37 => c1 F.tree_change_gives #[.pointer p34, .slice s37.a s37.len s37.cap] w33 fun w38 => ∃ a40 : Addr,
 t = some a40 ∧ st w38 (a40.add 3) (.int .i64 n24) fun w41 => ∃ a42 : Addr, t = some a42 ∧ st w41 (a42.add 4) (.int .i64 n25) fun w43 => st w43 (nA w1) (.int .i64 0) fun w44 => Dfr Tryz.prog F.tree_Tree_does_1 #[.pointer (some (nA w1)),
 .pointer (some (nA w14))] w44 fun w45 => r2 w45 (nA w1) fun n46 => Q (.int .i64 n46) w45))
def A.tree_Tree_does : AT := (.s .r (.s (.s (.drw 11 true ⟨[0, 1, 2, 4, 8, 0, 32, 64, 128, 256, 512, 1040], [0, 1, 2, 4, 8, 0, 32, 64, 128, 256, 512, 1040]⟩ [1024, 2048, 4096, 8192, 16384, 32768, 65536, 131072, 262144, 524288, 1048576,
 2097152] [1, 1024, 2048, 4096, 8192, 1, 32768, 65536, 131072, 262144, 524288, 1064960] (.take 0 (.take 1 (.take 2 (.take 3 (.take 5 (.take 6 (.take 7 (.take 8 (.take 9 (.take 10 (.eff 4 (.tail [.run]))))))))))))) (.c (.s .r .l) .l)) (.s .r
 (.s .l (.s .r (.s a1 (.s (.drw 5 false ⟨[0, 0, 2, 4, 8, 17], [0, 0, 2, 4, 8, 17]⟩ [137438953472, 274877906944, 549755813888, 1099511627776, 2199023255552, 4398046511104] [128, 128, 274877906944, 549755813888, 1099511627776, 2336462209024]
 (.take 0 (.take 1 (.take 2 (.take 3 (.take 4 (.tail [.run]))))))) (.s .r (.s .r .l)))))))))
theorem W.tree_Tree_does_eq (t : Option Addr) (way : Sl) (leaf_Leaf : Bool) (leaf_Keys : Sl) (leaf_Vals : Sl) (leaf_Kids : Sl) (w : World) (Q : Value → World → Prop) : W.tree_Tree_does t way leaf_Leaf leaf_Keys leaf_Vals leaf_Kids w Q = DFD Tryz.prog tk A.tree_Tree_does Tryz.f61 [.pointer t, .slice way.a way.len way.cap, .agg #[.bool leaf_Leaf, .slice leaf_Keys.a leaf_Keys.len leaf_Keys.cap, .slice leaf_Vals.a leaf_Vals.len leaf_Vals.cap, .slice leaf_Kids.a leaf_Kids.len leaf_Kids.cap]] w Q := by kernel_rfl
theorem W.tree_Tree_does_ok (t : Option Addr) (way : Sl) (leaf_Leaf : Bool) (leaf_Keys : Sl) (leaf_Vals : Sl) (leaf_Kids : Sl) (w : World) (Q : Value → World → Prop) (h : W.tree_Tree_does t way leaf_Leaf leaf_Keys leaf_Vals leaf_Kids w Q) : Calls Tryz.prog F.tree_Tree_does #[.pointer t, .slice way.a way.len way.cap, .agg #[.bool leaf_Leaf, .slice leaf_Keys.a leaf_Keys.len leaf_Keys.cap, .slice leaf_Vals.a leaf_Vals.len leaf_Vals.cap, .slice leaf_Kids.a leaf_Kids.len leaf_Kids.cap]] w fun e w1 => ∃ v, e = .returned v ∧ Q v w1 :=
  calls_of_DFD hmix Tryz.func61 (by kernel_rfl) (Eq.mp (W.tree_Tree_does_eq t way leaf_Leaf leaf_Keys leaf_Vals leaf_Kids w Q) h)
def W.cache_New (d : Option Addr) (frames : Int) (w : World) (Q : Value → World → Prop) : Prop := Br (((Option.isNone d) || (decide (frames < 8))) || (decide (frames > 64))) (Q (.tuple #[.pointer none, .int .i64 1]) w) (((0 : Int) ≤ frames
 ∧ frames ≤ frames ∧ frames ≤ mI ∧ ((48 : Nat) : Int) * frames ≤ 140737488355328) ∧ Nx (w.alloc (.cells (zrow Tryz.prog Ty.cache_frame (Int.toNat frames)) Ty.cache_frame)) fun w1 => Nx (w1.alloc (.cells #[.pointer d, .slice (some (nA w))
 (Int.toNat frames) (Int.toNat frames), .int .i64 0] Ty.cache_Cache)) fun w2 => Q (.tuple #[.pointer (some (nA w1)), .int .i64 0]) w2)
def A.cache_New : AT := (.s .r (.s (.s (.reg [.run, .run, .run, .pure 2, .run, .run, .run, .pure 2]) (.c (.s .r .l) .l)) (.s .r .l)))
theorem W.cache_New_ok (d : Option Addr) (frames : Int) (w : World) (Q : Value → World → Prop) (h : W.cache_New d frames w Q) : Ret Tryz.prog F.cache_New #[.pointer d, .int .i64 frames] w Q := okF A.cache_New Tryz.func65 (by kernel_rfl) (by kernel_rfl) h
end Go.Proofs.YtplieiecebljmaaGreat
namespace Go.Proofs.YtplieiecebljmaaGreat
open Go Gx
set_option maxRecDepth 100000
def W.space_New (n : Int) (first : Int) (w : World) (Q : Value → World → Prop) : Prop := c3 F.space_good #[.int .i64 n] w fun b3 w1 => Br (((!b3) || (decide (first < 0))) || (decide (first > n))) (Q (.tuple #[.pointer none, .int .i64 1])
 w1) (c2 F.space_size #[.int .i64 n] w1 fun n6 w4 => ((0 : Int) ≤ n6 ∧ n6 ≤ n6 ∧ n6 ≤ mI ∧ ((1 : Nat) : Int) * n6 ≤ 140737488355328) ∧ Nx (w4.alloc (.cells (zrow Tryz.prog Ty.uint8 (Int.toNat n6)) Ty.uint8)) fun w7 => Nx (w7.alloc (.cells
 #[.int .i64 n, .slice (some (nA w4)) (Int.toNat n6) (Int.toNat n6), .slice none 0 0] Ty.space_Space)) fun w8 => ∃ (I9 : Int → World → Prop) (μ10 : Int → World → Nat), I9 0 w8 ∧ ∀ (n11 : Int) (w12 : World), I9 n11 w12 → Br (decide (n11 <
 first)) (∃ a13 : Addr, (some (nA w7) : Option Addr) = some a13 ∧ r1 w12 (a13.add 1) fun s14 => c1 F.space_set_put #[.slice s14.a s14.len s14.cap, .int .i64 n11] w12 fun w15 => I9 (wI (n11 + 1)) w15 ∧ μ10 (wI (n11 + 1)) w15 < μ10 n11 w12)
 (c1 F.space_Space_Commit #[.pointer (some (nA w7))] w12 fun w17 => Q (.tuple #[.pointer (some (nA w7)), .int .i64 0]) w17))
def A.space_New : AT := (.s .r (.s (.s (.reg [.run, .run, .run, .run, .pure 2, .run, .run, .run, .pure 3]) (.c (.s .r .l) .l)) (.s .r (.s (.s .r (.blk (.loop [(27, (.int .i64))] [6, 26] a2))) (.s .r (.s .r .l))))))
theorem W.space_New_ok (n : Int) (first : Int) (w : World) (Q : Value → World → Prop) (h : W.space_New n first w Q) : Ret Tryz.prog F.space_New #[.int .i64 n, .int .i64 first] w Q := okF A.space_New Tryz.func66 (by kernel_rfl) (by kernel_rfl) h
def W.space_Space_Room (s : Option Addr) (w : World) (Q : Value → World → Prop) : Prop := Br (Option.isNone s) (Q (.int .i64 0) w) (∃ a1 : Addr, s = some a1 ∧ r2 w a1 fun n2 => ∃ a3 : Addr, s = some a3 ∧ r1 w (a3.add 1) fun s4 => ∃ (I5 :
 Int → Int → World → Prop) (μ6 : Int → Int → World → Nat), I5 n2 0 w ∧ ∀ (n7 : Int) (n8 : Int) (w9 : World), I5 n7 n8 w9 → Br (decide (n8 < (s4.len:Int))) (Nx (w9.drew) fun w10 => ∃ W11 : Nat → Prop, ∃ a12 : Addr, s = some a12 ∧ ¬ W11
 (a12.add 1).block ∧ r1 w10 (a12.add 1) fun s13 => ∃ a14 : Addr, s13.a = some a14 ∧ bd n8 s13.len ∧ ¬ W11 (a14.add (Int.toNat n8 * 1)).block ∧ r4 w10 (a14.add (Int.toNat n8 * 1)) fun n15 => ∃ a16 : Addr, s = some a16 ∧ ¬ W11 (a16.add
 2).block ∧ r1 w10 (a16.add 2) fun s17 => ∃ a18 : Addr, s17.a = some a18 ∧ bd n8 s17.len ∧ ¬ W11 (a18.add (Int.toNat n8 * 1)).block ∧ r4 w10 (a18.add (Int.toNat n8 * 1)) fun n19 => c2 F.math_bits_OnesCount8 #[.int .u8 (bOr .u8 n15 n19)] w10
 fun n22 w20 => Chg W11 w10 w20 ∧ I5 (wI (n7 - n22)) (wI (n8 + 1)) w20 ∧ μ6 (wI (n7 - n22)) (wI (n8 + 1)) w20 < μ6 n7 n8 w9) (Q (.int .i64 n7) w9))
def A.space_Space_Room : AT := (.s .r (.s a1 (.s .r (.s (.s .r (.blk (.loop [(3, (.int .i64)), (16, (.int .i64))] [0, 15] (.s .r (.s (.c .l .l) (.s (.blk (.s .r (.drw 17 true ⟨[0, 0, 2, 4, 8, 0, 48, 64, 0, 256, 512, 1024, 0, 6144, 8192,
 16512, 32768, 65537, 262143], [0, 0, 2, 4, 8, 0, 48, 64, 0, 256, 512, 1024, 0, 6144, 8192, 16512, 32768, 65537, 131073]⟩ [524288, 1048576, 2097152, 4194304, 8388608, 16777216, 33554432, 67108864, 134217728, 268435456, 536870912, 1073741824,
 2147483648, 4294967296, 8589934592, 17179869184, 34359738368, 68719476736, 8] [8, 1, 1048576, 2097152, 4194304, 16, 25165824, 33554432, 1, 134217728, 268435456, 536870912, 16, 3221225472, 4294967296, 8657043456, 17179869184, 34360262656,
 68719476736] (.take 0 (.take 1 (.take 2 (.take 3 (.take 4 (.take 5 (.take 6 (.take 7 (.take 8 (.take 9 (.take 10 (.take 11 (.take 12 (.take 13 (.take 14 (.take 15 (.eff 16 (.tail [.run, .run]))))))))))))))))))))) .r)))))) (.s .r .l)))))
theorem W.space_Space_Room_ok (s : Option Addr) (w : World) (Q : Value → World → Prop) (h : W.space_Space_Room s w Q) : Ret Tryz.prog F.space_Space_Room #[.pointer s] w Q := okF A.space_Space_Room Tryz.func67 (by kernel_rfl) (by kernel_rfl) h
def W.node_Put (n_Leaf : Bool) (n_Keys : Sl) (n_Vals : Sl) (n_Kids : Sl) (key : Sl) (val : Sl) (w : World) (Q : Value → World → Prop) : Prop := Nx (w.alloc (.cells #[.bool n_Leaf, .slice n_Keys.a n_Keys.len n_Keys.cap, .slice n_Vals.a
 n_Vals.len n_Vals.cap, .slice n_Kids.a n_Kids.len n_Kids.cap] Ty.api_Node)) fun w1 => Nx (w1.alloc z1) fun w2 => r3 w2 (nA w) fun b3 => Jn (fun k4 : Bool → World → Prop => T14 b3 k4 w2 w) (fun (b12 : Bool) w13 => Jn (fun k14 : Bool → World
 → Prop => Br b12 (k14 true w13) (c3 F.node_keyed #[.slice key.a key.len key.cap] w13 fun b17 w15 => k14 (!b17) w15)) (fun (b18 : Bool) w19 => Br (b18 || (decide ((val.len:Int) > 24))) (StoreOk w19 (nA w1) [.bool false, .slice none 0 0,
 .slice none 0 0, .slice none 0 0] ∧ (4 : Nat) = 4 ∧ Nx (setCells w19 (nA w1) 0 [.bool false, .slice none 0 0, .slice none 0 0, .slice none 0 0]) fun w20 => T6 w20 w1 Q) (r3 w19 (nA w) fun b25 => r1 w19 (Addr.add (nA w) 1) fun s26 => r1 w19
 (Addr.add (nA w) 2) fun s27 => r1 w19 (Addr.add (nA w) 3) fun s28 => c11 F.node_own #[.agg #[.bool b25, .slice s26.a s26.len s26.cap, .slice s27.a s27.len s27.cap, .slice s28.a s28.len s28.cap]] w19 fun b31 s32 s33 s34 w29 => Nx (w29.alloc
 z1) fun w35 => StoreOk w35 (nA w29) [.bool b31, .slice s32.a s32.len s32.cap, .slice s33.a s33.len s33.cap, .slice s34.a s34.len s34.cap] ∧ (4 : Nat) = 4 ∧ Nx (setCells w35 (nA w29) 0 [.bool b31, .slice s32.a s32.len s32.cap, .slice s33.a
 s33.len s33.cap, .slice s34.a s34.len s34.cap]) fun w36 => r3 w36 (nA w) fun b37 => r1 w36 (Addr.add (nA w) 1) fun s38 => r1 w36 (Addr.add (nA w) 2) fun s39 => r1 w36 (Addr.add (nA w) 3) fun s40 => c5 F.node_find #[.agg #[.bool b37, .slice
 s38.a s38.len s38.cap, .slice s39.a s39.len s39.cap, .slice s40.a s40.len s40.cap], .slice key.a key.len key.cap] w36 fun n43 b44 w41 => Br b44 (Nx (w41.drew) fun w45 => ∃ W46 : Nat → Prop, ¬ W46 (Addr.add (nA w29) 2).block ∧ r1 w45
 (Addr.add (nA w29) 2) fun s47 => c12 F.slices_Clone_Sl_byte_byte #[.slice val.a val.len val.cap] w45 fun s50 w48 => Chg W46 w45 w48 ∧ ∃ a51 : Addr, s47.a = some a51 ∧ bd n43 s47.len ∧ st w48 (a51.add (Int.toNat n43 * 1)) (.slice s50.a
 s50.len s50.cap) fun w52 => T3 w52 w29 w1 Q) (Nx (w41.drew) fun w62 => ∃ W63 : Nat → Prop, ¬ W63 (Addr.add (nA w29) 1).block ∧ r1 w62 (Addr.add (nA w29) 1) fun s64 => c12 F.slices_Clone_Sl_byte_byte #[.slice key.a key.len key.cap] w62 fun
 s67 w65 => Chg W63 w62 w65 ∧ Nx (w65.alloc (.cells #[.slice s67.a s67.len s67.cap] Ty.Sl_uint8)) fun w68 => Chg W63 w65 w68 ∧ c12 F.slices_Insert_Sl_Sl_byte_Sl_byte #[.slice s64.a s64.len s64.cap, .int .i64 n43, .slice (some (nA w65)) 1 1]
 w68 fun s71 w69 => st w69 (Addr.add (nA w29) 1) (.slice s71.a s71.len s71.cap) fun w72 => Nx (w72.drew) fun w73 => ∃ W74 : Nat → Prop, ¬ W74 (Addr.add (nA w29) 2).block ∧ r1 w73 (Addr.add (nA w29) 2) fun s75 => c12
 F.slices_Clone_Sl_byte_byte #[.slice val.a val.len val.cap] w73 fun s78 w76 => Chg W74 w73 w76 ∧ Nx (w76.alloc (.cells #[.slice s78.a s78.len s78.cap] Ty.Sl_uint8)) fun w79 => Chg W74 w76 w79 ∧ c12 F.slices_Insert_Sl_Sl_byte_Sl_byte
 #[.slice s75.a s75.len s75.cap, .int .i64 n43, .slice (some (nA w76)) 1 1] w79 fun s82 w80 => st w80 (Addr.add (nA w29) 2) (.slice s82.a s82.len s82.cap) fun w83 => T3 w83 w29 w1 Q))))
def A.node_Put : AT := (.s .r (.s (.s (.reg [.run, .run, .run, .run, .split 3, .run, .run, .run, .run, .split 3, .run, .run, .run, .run, .pure 3]) (.c (.s .r .l) .l)) (.s .r (.s .r (.s (.s .r (.c (.s (.drw 5 true ⟨[0, 1, 0, 0, 8, 31, 63],
 [0, 1, 0, 0, 8, 6, 48]⟩ [549755813888, 1099511627776, 2199023255552, 4398046511104, 8796093022208, 17592186044416, 0] [256, 549755813888, 512, 4, 4398046511104, 3298534883328, 26388279066624] (.take 0 (.take 1 (.take 2 (.take 3 (.eff 4
 (.tail [.run, .run]))))))) (.s .r .l)) .l)) (.s (.drw 6 true ⟨[0, 1, 0, 0, 8, 16, 54, 127, 255], [0, 1, 0, 0, 8, 16, 38, 0, 192]⟩ [70368744177664, 140737488355328, 281474976710656, 562949953421312, 1125899906842624, 2251799813685248,
 4503599627370496, 9007199254740992, 0] [256, 70368744177664, 512, 2, 562949953421312, 1125899906842624, 2674012278751232, 256, 13510798882111488] (.take 0 (.take 1 (.take 2 (.take 3 (.eff 4 (.eff 5 (.tail [.run, .run, .run])))))))) (.s
 (.drw 6 true ⟨[0, 1, 0, 0, 8, 16, 54, 127, 255], [0, 1, 0, 0, 8, 16, 38, 0, 192]⟩ [18014398509481984, 36028797018963968, 72057594037927936, 144115188075855872, 288230376151711744, 576460752303423488, 1152921504606846976,
 2305843009213693952, 0] [256, 18014398509481984, 512, 4, 144115188075855872, 288230376151711744, 684547143360315392, 256, 3458764513820540928] (.take 0 (.take 1 (.take 2 (.take 3 (.eff 4 (.eff 5 (.tail [.run, .run, .run])))))))) (.s .r
 .l))))))))
theorem W.node_Put_ok (n_Leaf : Bool) (n_Keys : Sl) (n_Vals : Sl) (n_Kids : Sl) (key : Sl) (val : Sl) (w : World) (Q : Value → World → Prop) (h : W.node_Put n_Leaf n_Keys n_Vals n_Kids key val w Q) : Ret Tryz.prog F.node_Put #[.agg #[.bool n_Leaf, .slice n_Keys.a n_Keys.len n_Keys.cap, .slice n_Vals.a n_Vals.len n_Vals.cap, .slice n_Kids.a n_Kids.len n_Kids.cap], .slice key.a key.len key.cap, .slice val.a val.len val.cap] w Q := okF A.node_Put Tryz.func68 (by kernel_rfl) (by kernel_rfl) h
def W.space_Space_Commit (s : Option Addr) (w : World) (Q : Value → World → Prop) : Prop := Br (!(Option.isNone s)) (∃ a1 : Addr, s = some a1 ∧ r1 w (a1.add 1) fun s2 => c12 F.slices_Clone_space_set_byte #[.slice s2.a s2.len s2.cap] w fun
 s5 w3 => ∃ a6 : Addr, s = some a6 ∧ st w3 (a6.add 2) (.slice s5.a s5.len s5.cap) fun w7 => Q (.tuple #[]) w7) (Q (.tuple #[]) w)
def A.space_Space_Commit : AT := (.s .r (.c .r .l))
theorem W.space_Space_Commit_ok (s : Option Addr) (w : World) (Q : Value → World → Prop) (h : W.space_Space_Commit s w Q) : Ret Tryz.prog F.space_Space_Commit #[.pointer s] w Q := okF A.space_Space_Commit Tryz.func74 (by kernel_rfl) (by kernel_rfl) h
def W.cache_Cache_at (c : Option Addr) (no : Int) (w : World) (Q : Value → World → Prop) : Prop := Br (Option.isNone c) (Q (.pointer none) w) (∃ a1 : Addr, c = some a1 ∧ r1 w (a1.add 1) fun s2 => ∃ (I3 : Int → World → Prop) (μ4 : Int →
 World → Nat), I3 0 w ∧ ∀ (n5 : Int) (w6 : World), I3 n5 w6 → Br (decide (n5 < (s2.len:Int))) (∃ a7 : Addr, c = some a7 ∧ r1 w6 (a7.add 1) fun s8 => ∃ a9 : Addr, s8.a = some a9 ∧ bd n5 s8.len ∧ ∃ a10 : Addr, (some (a9.add (Int.toNat n5 * 6))
 : Option Addr) = some a10 ∧ r3 w6 a10 fun b11 => Jn (fun k12 : Bool → World → Prop => Br b11 (∃ a13 : Addr, (some (a9.add (Int.toNat n5 * 6)) : Option Addr) = some a13 ∧ r2 w6 (a13.add 3) fun n14 => k12 (n14 == no) w6) (k12 false w6)) (fun
 (b15 : Bool) w16 => Br b15 (Q (.pointer (some (a9.add (Int.toNat n5 * 6)))) w16) (I3 (wI (n5 + 1)) w16 ∧ μ4 (wI (n5 + 1)) w16 < μ4 n5 w6))) (Q (.pointer none) w6))
def A.cache_Cache_at : AT := (.s .r (.s a1 (.s (.s .r (.blk (.loop [(14, (.int .i64))] [0, 1, 13] (.s .r (.s (.c .l .l) (.s (.blk (.s .r (.s .r (.s (.reg [.run, .run, .run, .run, .run, .split 6]) (.c (.s .r .l) .l))))) .r)))))) (.s .r
 .l))))
theorem W.cache_Cache_at_ok (c : Option Addr) (no : Int) (w : World) (Q : Value → World → Prop) (h : W.cache_Cache_at c no w Q) : Ret Tryz.prog F.cache_Cache_at #[.pointer c, .int .i64 no] w Q := okF A.cache_Cache_at Tryz.func76 (by kernel_rfl) (by kernel_rfl) h
def W.space_set_has (s : Sl) (no : Int) (w : World) (Q : Value → World → Prop) : Prop := (8 : Int) ≠ 0 ∧ ∃ a1 : Addr, s.a = some a1 ∧ bd (wI (Int.tdiv no 8)) s.len ∧ r4 w (a1.add (Int.toNat (wI (Int.tdiv no 8)) * 1)) fun n2 => (8 : Int) ≠ 0
 ∧ (0 : Int) ≤ (Int.tmod no 8) ∧ Q (.bool (((bAnd .u8 (Int.fdiv n2 (2 ^ (min (Int.toNat (Int.tmod no 8)) 8))) 1) : Int) == 1)) w
def A.space_set_has : AT := (.s .r (.s .r .l))
theorem W.space_set_has_ok (s : Sl) (no : Int) (w : World) (Q : Value → World → Prop) (h : W.space_set_has s no w Q) : Ret Tryz.prog F.space_set_has #[.slice s.a s.len s.cap, .int .i64 no] w Q := okF A.space_set_has Tryz.func78 (by kernel_rfl) (by kernel_rfl) h
def W.dev_Device_now (d : Option Addr) (i : Int) (w : World) (Q : Value → World → Prop) : Prop := Nx (w.alloc z2) fun w1 => ∃ a2 : Addr, d = some a2 ∧ ∃ m3 : Option Nat, w1.cell? (a2.add 5) = some (.map m3) ∧ ∃ s4 : Sl, ∃ w5 : World,
 Sem.run Tryz.prog (Instr.lookup Ty.map_int_Sl_dev_sector (.map m3) (.int .i64 i) false) w1 = .ok (.slice s4.a s4.len s4.cap) w5 ∧ Br (decide ((s4.len:Int) > 0)) (∃ a6 : Addr, s4.a = some a6 ∧ ((0 : Int) ≤ (wI ((s4.len:Int) - 1)) ∧ (wI
 ((s4.len:Int) - 1)) < (s4.len:Int)) ∧ ∃ l7 : List Value, rdCells w5 (a6.add (Int.toNat (wI ((s4.len:Int) - 1)) * 256)) 0 256 = some l7 ∧ T18 w5 w l7 Q) (∃ a10 : Addr, d = some a10 ∧ r1 w5 (a10.add 4) fun s11 => ix s11 i w5 256 fun l13 =>
 T18 w5 w l13 Q)
def A.dev_Device_now : AT := (.s .r (.s (.s .r a1) (.s .r .l)))
theorem W.dev_Device_now_ok (d : Option Addr) (i : Int) (w : World) (Q : Value → World → Prop) (h : W.dev_Device_now d i w Q) : Ret Tryz.prog F.dev_Device_now #[.pointer d, .int .i64 i] w Q := okF A.dev_Device_now Tryz.func79 (by kernel_rfl) (by kernel_rfl) h
def W.page_Decode (no : Int) (b : Sl) (w : World) (Q : Value → World → Prop) : Prop := Nx (w.alloc z3) fun w1 => Br ((b.len:Int) != 256) (StoreOk w1 (nA w) [.int .i64 0, .int .u64 0, .slice none 0 0] ∧ (3 : Nat) = 3 ∧ Nx (setCells w1 (nA w)
 0 [.int .i64 0, .int .u64 0, .slice none 0 0]) fun w2 => r2 w2 (nA w) fun n3 => r5 w2 (Addr.add (nA w) 1) fun n4 => r1 w2 (Addr.add (nA w) 2) fun s5 => Q (.tuple #[.agg #[.int .i64 n3, .int .u64 n4, .slice s5.a s5.len s5.cap], .int .i64 9])
 w2) (((0 : Int) ≤ 4 ∧ 4 ≤ ((b.cap : Nat) : Int)) ∧ ∃ s6 : ByteArray, ∃ w7 : World, Sem.run Tryz.prog (convert Ty.Sl_uint8 Ty.string (.slice (cutA b.a 1 0 b.cap) ((Int.toNat 4) - 0) (b.cap - 0))) w1 = .ok (.string s6) w7 ∧ Br
 (!(ByteArray.toList s6 == ByteArray.toList (ByteArray.mk #[83, 84, 78, 67]))) (StoreOk w7 (nA w) [.int .i64 0, .int .u64 0, .slice none 0 0] ∧ (3 : Nat) = 3 ∧ Nx (setCells w7 (nA w) 0 [.int .i64 0, .int .u64 0, .slice none 0 0]) fun w8 =>
 T17 w8 w Q) (∃ a12 : Addr, b.a = some a12 ∧ bd 4 b.len ∧ r4 w7 (a12.add (Int.toNat 4 * 1)) fun n13 => Br (n13 != 1) (StoreOk w7 (nA w) [.int .i64 0, .int .u64 0, .slice none 0 0] ∧ (3 : Nat) = 3 ∧ Nx (setCells w7 (nA w) 0 [.int .i64 0, .int
 .u64 0, .slice none 0 0]) fun w14 => r2 w14 (nA w) fun n15 => r5 w14 (Addr.add (nA w) 1) fun n16 => r1 w14 (Addr.add (nA w) 2) fun s17 => Q (.tuple #[.agg #[.int .i64 n15, .int .u64 n16, .slice s17.a s17.len s17.cap], .int .i64 12]) w14)
 (c13 F.page_sum #[.slice b.a b.len b.cap] w7 fun n20 w18 => c14 F.page_number #[.slice b.a b.len b.cap, .int .i64 20, .int .i64 24] w18 fun n23 w21 => Br (((IntKind.wrap .u64 n20) : Int) != n23) (StoreOk w21 (nA w) [.int .i64 0, .int .u64
 0, .slice none 0 0] ∧ (3 : Nat) = 3 ∧ Nx (setCells w21 (nA w) 0 [.int .i64 0, .int .u64 0, .slice none 0 0]) fun w24 => r2 w24 (nA w) fun n25 => r5 w24 (Addr.add (nA w) 1) fun n26 => r1 w24 (Addr.add (nA w) 2) fun s27 => Q (.tuple #[.agg
 #[.int .i64 n25, .int .u64 n26, .slice s27.a s27.len s27.cap], .int .i64 5]) w24) (c14 F.page_number #[.slice b.a b.len b.cap, .int .i64 6, .int .i64 8] w21 fun n30 w28 => ∃ a31 : Addr, b.a = some a31 ∧ bd 5 b.len ∧ r4 w28 (a31.add
 (Int.toNat 5 * 1)) fun n32 => c3 F.page_kind #[.int .i64 (wI n32)] w28 fun b35 w33 => Jn (fun k36 : Bool → World → Prop => Br ((!b35) || (decide (((wI n30) : Int) > 232))) (k36 true w33) (((0 : Int) ≤ (wI (24 + (wI n30))) ∧ (wI (24 + (wI
 n30))) ≤ (b.len:Int)) ∧ c3 F.page_idle #[.slice (cutA b.a 1 (Int.toNat (wI (24 + (wI n30)))) b.cap) (b.len - (Int.toNat (wI (24 + (wI n30))))) (b.cap - (Int.toNat (wI (24 + (wI n30)))))] w33 fun b39 w37 => k36 (!b39) w37)) (fun (b40 : Bool)
 w41 => Br b40 (StoreOk w41 (nA w) [.int .i64 0, .int .u64 0, .slice none 0 0] ∧ (3 : Nat) = 3 ∧ Nx (setCells w41 (nA w) 0 [.int .i64 0, .int .u64 0, .slice none 0 0]) fun w42 => T17 w42 w Q) (c3 F.page_has #[.int .i64 no] w41 fun b48 w46 =>
 Jn (fun k49 : Bool → World → Prop => Br (!b48) (k49 true w46) (c14 F.page_number #[.slice b.a b.len b.cap, .int .i64 8, .int .i64 12] w46 fun n52 w50 => k49 (n52 != (IntKind.wrap .u64 no)) w50)) (fun (b53 : Bool) w54 => Br b53 (StoreOk w54
 (nA w) [.int .i64 0, .int .u64 0, .slice none 0 0] ∧ (3 : Nat) = 3 ∧ Nx (setCells w54 (nA w) 0 [.int .i64 0, .int .u64 0, .slice none 0 0]) fun w55 => r2 w55 (nA w) fun n56 => r5 w55 (Addr.add (nA w) 1) fun n57 => r1 w55 (Addr.add (nA w) 2)
 fun s58 => Q (.tuple #[.agg #[.int .i64 n56, .int .u64 n57, .slice s58.a s58.len s58.cap], .int .i64 1]) w55) (c15 F.num_Cut #[.slice b.a b.len b.cap, .int .i64 24, .int .i64 (wI n30)] w54 fun s61 b62 w59 => Nx (w59.drew) fun w63 => ∃ W64 :
 Nat → Prop, ∃ a65 : Addr, b.a = some a65 ∧ bd 5 b.len ∧ ¬ W64 (a65.add (Int.toNat 5 * 1)).block ∧ r4 w63 (a65.add (Int.toNat 5 * 1)) fun n66 => c14 F.page_number #[.slice b.a b.len b.cap, .int .i64 12, .int .i64 20] w63 fun n69 w67 => Chg
 W64 w63 w67 ∧ StoreOk w67 (nA w) [.int .i64 (wI n66), .int .u64 n69, .slice s61.a s61.len s61.cap] ∧ (3 : Nat) = 3 ∧ Nx (setCells w67 (nA w) 0 [.int .i64 (wI n66), .int .u64 n69, .slice s61.a s61.len s61.cap]) fun w70 => r2 w70 (nA w) fun
 n71 => r5 w70 (Addr.add (nA w) 1) fun n72 => r1 w70 (Addr.add (nA w) 2) fun s73 => Q (.tuple #[.agg #[.int .i64 n71, .int .u64 n72, .slice s73.a s73.len s73.cap], .int .i64 0]) w70))))))))
def A.page_Decode : AT := (.s .r (.s (.blk (.s .r (.c (.s .r .l) (.s .r (.c (.s .r .l) (.s .r (.c (.s .r .l) a1))))))) (.s .r (.s (.blk (.s (.reg [.run, .run, .run, .run, .run, .run, .run, .pure 2, .run, .run, .run, .split 6]) (.c (.s .r
 .l) (.s (.reg [.run, .run, .run, .run, .split 5]) (.c (.s .r .l) .l))))) (.s .r (.s (.drw 7 true ⟨[0, 1, 2, 4, 0, 16, 0, 104, 255, 511], [0, 1, 2, 4, 0, 16, 0, 104, 128, 0]⟩ [37778931862957161709568, 75557863725914323419136,
 151115727451828646838272, 302231454903657293676544, 604462909807314587353088, 1208925819614629174706176, 2417851639229258349412352, 4835703278458516698824704, 0, 32] [2, 37778931862957161709568, 75557863725914323419136,
 151115727451828646838272, 2, 604462909807314587353088, 128, 3929008913747544817795072, 4835703278458516698824720, 0] (.take 0 (.take 1 (.take 2 (.take 3 (.take 4 (.take 6 (.eff 5 (.tail [.run, .run, .run]))))))))) .l))))))
theorem W.page_Decode_ok (no : Int) (b : Sl) (w : World) (Q : Value → World → Prop) (h : W.page_Decode no b w Q) : Ret Tryz.prog F.page_Decode #[.int .i64 no, .slice b.a b.len b.cap] w Q := okF A.page_Decode Tryz.func88 (by kernel_rfl) (by kernel_rfl) h
def W.page_Encode (no : Int) (p_Kind : Int) (p_Gen : Int) (p_Body : Sl) (w : World) (Q : Value → World → Prop) : Prop := Nx (w.alloc (.cells #[.int .i64 p_Kind, .int .u64 p_Gen, .slice p_Body.a p_Body.len p_Body.cap] Ty.api_Page)) fun w1 =>
 c3 F.page_has #[.int .i64 no] w1 fun b4 w2 => Jn (fun k5 : Bool → World → Prop => Br (!b4) (k5 true w2) (r2 w2 (nA w) fun n6 => c3 F.page_kind #[.int .i64 n6] w2 fun b9 w7 => k5 (!b9) w7)) (fun (b10 : Bool) w11 => Br b10 (Q (.tuple #[.slice
 none 0 0, .int .i64 1]) w11) (r1 w11 (Addr.add (nA w) 2) fun s12 => Br (decide ((s12.len:Int) > 232)) (Q (.tuple #[.slice none 0 0, .int .i64 10]) w11) (Nx (w11.alloc (.cells #[.int .u8 83, .int .u8 84, .int .u8 78, .int .u8 67] Ty.uint8))
 fun w13 => ∃ s14 : Sl, ∃ w15 : World, Sem.run Tryz.prog (convert Ty.Sl_uint8 Ty.Sl_uint8 (.slice (some (nA w11)) 4 4)) w13 = .ok (.slice s14.a s14.len s14.cap) w15 ∧ r2 w15 (nA w) fun n16 => Nx (w15.alloc (.cells #[.int .u8 1, .int .u8
 (IntKind.wrap .u8 n16)] Ty.uint8)) fun w17 => Nx (w17.alloc (.cells #[.slice s14.a s14.len s14.cap, .slice (some (nA w15)) 2 2] Ty.Sl_uint8)) fun w18 => c12 F.num_Bytes #[.slice (some (nA w17)) 2 2] w18 fun s21 w19 => r1 w19 (Addr.add (nA
 w) 2) fun s22 => c12 F.num_Put #[.slice s21.a s21.len s21.cap, .int .u64 (IntKind.wrap .u64 (s22.len:Int)), .int .i64 2] w19 fun s25 w23 => c12 F.num_Put #[.slice s25.a s25.len s25.cap, .int .u64 (IntKind.wrap .u64 no), .int .i64 4] w23 fun
 s28 w26 => r5 w26 (Addr.add (nA w) 1) fun n29 => c12 F.num_Put #[.slice s28.a s28.len s28.cap, .int .u64 n29, .int .i64 8] w26 fun s32 w30 => Jn (fun k33 : Sl → World → Prop => Nx (w30.drew) fun w34 => ∃ W35 : Nat → Prop, ¬ W35 (Addr.add
 (nA w) 2).block ∧ r1 w34 (Addr.add (nA w) 2) fun s36 => ¬ W35 (Addr.add (nA w) 2).block ∧ r1 w34 (Addr.add (nA w) 2) fun s37 => (((0 : Int) ≤ 4 ∧ (4 : Int) ≤ 4 ∧ (4 : Int) ≤ mI ∧ ((1 : Nat) : Int) * 4 ≤ 140737488355328) ∧ Nx (w34.alloc
 (.cells (zrow Tryz.prog Ty.uint8 (Int.toNat 4)) Ty.uint8)) fun w38 => Chg W35 w34 w38 ∧ (T15 s37) ∧ Nx (w38.alloc (.cells (zrow Tryz.prog Ty.uint8 (Int.toNat (wI (232 - (s37.len:Int))))) Ty.uint8)) fun w39 => Chg W35 w38 w39 ∧ T16 w39 s32
 w34 s36 w38 s37 k33) ∧ ((T15 s37) ∧ Nx (w34.alloc (.cells (zrow Tryz.prog Ty.uint8 (Int.toNat (wI (232 - (s37.len:Int))))) Ty.uint8)) fun w44 => Chg W35 w34 w44 ∧ ((0 : Int) ≤ 4 ∧ (4 : Int) ≤ 4 ∧ (4 : Int) ≤ mI ∧ ((1 : Nat) : Int) * 4 ≤
 140737488355328) ∧ Nx (w44.alloc (.cells (zrow Tryz.prog Ty.uint8 (Int.toNat 4)) Ty.uint8)) fun w45 => Chg W35 w44 w45 ∧ T16 w45 s32 w44 s36 w34 s37 k33)) (fun (s50 : Sl) w51 => Nx (w51.drew) fun w52 => ∃ W53 : Nat → Prop, ((0 : Int) ≤ 20 ∧
 20 ≤ (s50.len:Int)) ∧ c13 F.page_sum #[.slice s50.a s50.len s50.cap] w52 fun n56 w54 => ∃ W57 : Nat → Prop, c12 F.num_Put #[.slice none 0 0, .int .u64 (IntKind.wrap .u64 n56), .int .i64 4] w54 fun s60 w58 => ∃ n61 : Int, ∃ w62 : World,
 Sem.run Tryz.prog (Builtin.copy_ #[Ty.Sl_uint8, Ty.Sl_uint8] Ty.int #[.slice (cutA s50.a 1 (Int.toNat 20) s50.cap) (s50.len - (Int.toNat 20)) (s50.cap - (Int.toNat 20)), .slice s60.a s60.len s60.cap]) w58 = .ok (.int .i64 n61) w62 ∧ Q
 (.tuple #[.slice s50.a s50.len s50.cap, .int .i64 0]) w62))))
def A.page_Encode : AT := (.s .r (.s (.blk (.s (.reg [.run, .run, .run, .run, .split 4]) (.c (.s .r .l) a1))) (.s .r (.s .r (.s .r (.s .r (.s (.jk [(6, .slice)] [] (.drw 9 true ⟨[0, 0, 0, 4, 0, 16, 32, 64, 128, 267, 512, 2047], [0, 0, 0, 4,
 0, 16, 32, 64, 128, 267, 512, 1025]⟩ [17592186044416, 35184372088832, 70368744177664, 140737488355328, 281474976710656, 562949953421312, 1125899906842624, 2251799813685248, 4503599627370496, 9007199254740992, 18014398509481984, 64] [64, 0,
 8, 70368744177664, 8, 281474976710656, 562949953421312, 1125899906842624, 2251799813685248, 4697113673859072, 9007199254740992, 18014398509481984] (.take 0 (.take 2 (.take 3 (.take 4 (.take 5 (.take 6 (.take 7 (.two 1 (.eff 8 (.tail [.run,
 .run, .run])) 8 (.eff 1 (.tail [.run, .run, .run])))))))))))) (.s (.drw 6 true ⟨[0, 1, 0, 4, 8, 24, 34], [0, 1, 0, 4, 8, 16, 34]⟩ [36028797018963968, 72057594037927936, 144115188075855872, 288230376151711744, 576460752303423488,
 1152921504606846976, 2305843009213693952] [64, 36028797018963968, 64, 144115188075855872, 288230376151711744, 576460752303423488, 1224979098644774912] (.take 0 (.take 1 (.take 2 (.out 3 true (.take 4 (.out 5 false (.tail [.run])))))))) (.s
 .r .l)))))))))
theorem W.page_Encode_ok (no : Int) (p_Kind : Int) (p_Gen : Int) (p_Body : Sl) (w : World) (Q : Value → World → Prop) (h : W.page_Encode no p_Kind p_Gen p_Body w Q) : Ret Tryz.prog F.page_Encode #[.int .i64 no, .agg #[.int .i64 p_Kind, .int .u64 p_Gen, .slice p_Body.a p_Body.len p_Body.cap]] w Q := okF A.page_Encode Tryz.func99 (by kernel_rfl) (by kernel_rfl) h
def W.tree_Tree_read (t : Option Addr) (no : Int) (leaf : Bool) (w : World) (Q : Value → World → Prop) : Prop := Nx (w.alloc z1) fun w1 => ∃ a2 : Addr, t = some a2 ∧ ∃ p3 : Option Addr, w1.cell? a2 = some (.pointer p3) ∧ c4
 F.cache_Cache_Get #[.pointer p3, .int .i64 no] w1 fun s6 n7 w4 => Br (n7 != 0) (T28 w4 w Q n7) (c16 F.page_Decode #[.int .i64 no, .slice s6.a s6.len s6.cap] w4 fun n15 n16 s17 n18 w13 => Nx (w13.alloc z3) fun w19 => StoreOk w19 (nA w13)
 [.int .i64 n15, .int .u64 n16, .slice s17.a s17.len s17.cap] ∧ (3 : Nat) = 3 ∧ Nx (setCells w19 (nA w13) 0 [.int .i64 n15, .int .u64 n16, .slice s17.a s17.len s17.cap]) fun w20 => Br (n18 != 0) (T28 w20 w Q n18) (Nx (w20.drew) fun w26 => ¬
 False ∧ r5 w26 (Addr.add (nA w13) 1) fun n27 => ∃ a28 : Addr, t = some a28 ∧ ¬ False ∧ r5 w26 (a28.add 2) fun n29 => Br (decide (n27 > n29)) (Jn (fun k30 : Bool → World → Prop => Br true (k30 true w26) (r2 w26 (nA w13) fun n31 => Jn (fun
 k32 : Bool → World → Prop => Br (n31 != 1) (r2 w26 (nA w13) fun n33 => k32 (n33 != 2) w26) (k32 false w26)) (fun (b34 : Bool) w35 => k30 b34 w35))) (fun (b36 : Bool) w37 => Br b36 (StoreOk w37 (nA w) [.bool false, .slice none 0 0, .slice
 none 0 0, .slice none 0 0] ∧ (4 : Nat) = 4 ∧ Nx (setCells w37 (nA w) 0 [.bool false, .slice none 0 0, .slice none 0 0, .slice none 0 0]) fun w38 => T12 w38 w Q) (r1 w37 (Addr.add (nA w13) 2) fun s43 => c9 F.node_Decode #[.bool leaf, .slice
 s43.a s43.len s43.cap] w37 fun b46 s47 s48 s49 n50 w44 => StoreOk w44 (nA w) [.bool b46, .slice s47.a s47.len s47.cap, .slice s48.a s48.len s48.cap, .slice s49.a s49.len s49.cap] ∧ (4 : Nat) = 4 ∧ Nx (setCells w44 (nA w) 0 [.bool b46,
 .slice s47.a s47.len s47.cap, .slice s48.a s48.len s48.cap, .slice s49.a s49.len s49.cap]) fun w51 => T8 w51 w Q n50))) (¬ False ∧ r2 w26 (nA w13) fun n56 => Jn (fun k57 : Bool → World → Prop => Br (!((n56 == 1) == leaf)) (k57 true w26) (r2
 w26 (nA w13) fun n58 => Jn (fun k59 : Bool → World → Prop => Br (n58 != 1) (r2 w26 (nA w13) fun n60 => k59 (n60 != 2) w26) (k59 false w26)) (fun (b61 : Bool) w62 => k57 b61 w62))) (fun (b63 : Bool) w64 => Br b63 (StoreOk w64 (nA w) [.bool
 false, .slice none 0 0, .slice none 0 0, .slice none 0 0] ∧ (4 : Nat) = 4 ∧ Nx (setCells w64 (nA w) 0 [.bool false, .slice none 0 0, .slice none 0 0, .slice none 0 0]) fun w65 => T12 w65 w Q) (r1 w64 (Addr.add (nA w13) 2) fun s70 => c9
 F.node_Decode #[.bool leaf, .slice s70.a s70.len s70.cap] w64 fun b73 s74 s75 s76 n77 w71 => StoreOk w71 (nA w) [.bool b73, .slice s74.a s74.len s74.cap, .slice s75.a s75.len s75.cap, .slice s76.a s76.len s76.cap] ∧ (4 : Nat) = 4 ∧ Nx
 (setCells w71 (nA w) 0 [.bool b73, .slice s74.a s74.len s74.cap, .slice s75.a s75.len s75.cap, .slice s76.a s76.len s76.cap]) fun w78 => T8 w78 w Q n77)))))
def A.tree_Tree_read : AT := (.s .r (.s .r (.s a1 (.s .r (.s a1 (.s (.s (.drw 12 false ⟨[0, 1, 0, 4, 8, 16, 34, 64, 128, 384, 640, 128, 3200, 4224, 8320, 16384, 49152, 81920, 147456, 262144, 786432, 1310720, 2375680, 4210688], [0, 1, 0, 4,
 8, 16, 34, 64, 128, 384, 640, 128, 3200, 4224, 8192, 16384, 49152, 81920, 147456, 262144, 786432, 1310720, 2375680, 4210688]⟩ [17179869184, 34359738368, 68719476736, 137438953472, 274877906944, 549755813888, 1099511627776, 2199023255552,
 4398046511104, 8796093022208, 17592186044416, 35184372088832, 70368744177664, 140737488355328, 281474976710656, 562949953421312, 1125899906842624, 2251799813685248, 4503599627370496, 9007199254740992, 18014398509481984, 36028797018963968,
 72057594037927936, 144115188075855872] [1024, 17179869184, 1, 68719476736, 137438953472, 274877906944, 584115552256, 1099511627776, 2199023256576, 6597069766656, 10995116277760, 2199023255556, 54975581388800, 72567767433216,
 140737488355328, 281474976711680, 844424930131968, 1407374883553280, 2533274790395904, 4503599627371520, 13510798882111488, 22517998136852480, 40813871623045120, 72339069014638592] (.take 0 (.take 1 (.take 2 (.take 3 (.take 4 (.take 5
 (.take 6 (.take 7 (.sp 41 (.take 8 (.take 9 (.take 10 (.take 11 (.tail [.run, .run, .run, .split 8, .run, .run, .run, .split 3, .run, .run, .run, .run]))))) (.take 8 (.take 9 (.take 10 (.take 11 (.tail [.run, .run, .run, .split 8, .run,
 .run, .run, .split 3, .run, .run, .run, .run]))))))))))))))) (.c (.s .r .l) .l)) (.s .r .l)))))))
theorem W.tree_Tree_read_ok (t : Option Addr) (no : Int) (leaf : Bool) (w : World) (Q : Value → World → Prop) (h : W.tree_Tree_read t no leaf w Q) : Ret Tryz.prog F.tree_Tree_read #[.pointer t, .int .i64 no, .bool leaf] w Q := okF A.tree_Tree_read Tryz.func104 (by kernel_rfl) (by kernel_rfl) h
def W.node_Kid (n_Leaf : Bool) (n_Keys : Sl) (n_Vals : Sl) (n_Kids : Sl) (key : Sl) (w : World) (Q : Value → World → Prop) : Prop := Nx (w.alloc (.cells #[.bool n_Leaf, .slice n_Keys.a n_Keys.len n_Keys.cap, .slice n_Vals.a n_Vals.len
 n_Vals.cap, .slice n_Kids.a n_Kids.len n_Kids.cap] Ty.api_Node)) fun w1 => r3 w1 (nA w) fun b2 => r1 w1 (Addr.add (nA w) 1) fun s3 => r1 w1 (Addr.add (nA w) 2) fun s4 => r1 w1 (Addr.add (nA w) 3) fun s5 => c5 F.node_find #[.agg #[.bool b2,
 .slice s3.a s3.len s3.cap, .slice s4.a s4.len s4.cap, .slice s5.a s5.len s5.cap], .slice key.a key.len key.cap] w1 fun n8 b9 w6 => Jn (fun k10 : Int → World → Prop => Br b9 (k10 (wI (n8 + 1)) w6) (k10 n8 w6)) (fun (n11 : Int) w12 => Q (.int
 .i64 n11) w12)
def A.node_Kid : AT := (.s .r (.s .r (.s (.jk [(5, (.int .i64))] [] (.s .r (.c .r .l))) (.s .r .l))))
theorem W.node_Kid_ok (n_Leaf : Bool) (n_Keys : Sl) (n_Vals : Sl) (n_Kids : Sl) (key : Sl) (w : World) (Q : Value → World → Prop) (h : W.node_Kid n_Leaf n_Keys n_Vals n_Kids key w Q) : Ret Tryz.prog F.node_Kid #[.agg #[.bool n_Leaf, .slice n_Keys.a n_Keys.len n_Keys.cap, .slice n_Vals.a n_Vals.len n_Vals.cap, .slice n_Kids.a n_Kids.len n_Kids.cap], .slice key.a key.len key.cap] w Q := okF A.node_Kid Tryz.func105 (by kernel_rfl) (by kernel_rfl) h
def W.node_find (n_Leaf : Bool) (n_Keys : Sl) (n_Vals : Sl) (n_Kids : Sl) (key : Sl) (w : World) (Q : Value → World → Prop) : Prop := Nx (w.alloc (.cells #[.bool n_Leaf, .slice n_Keys.a n_Keys.len n_Keys.cap, .slice n_Vals.a n_Vals.len
 n_Vals.cap, .slice n_Kids.a n_Kids.len n_Kids.cap] Ty.api_Node)) fun w1 => r1 w1 (Addr.add (nA w) 1) fun s2 => c5 F.slices_BinarySearchFunc_Sl_Sl_byte_Sl_byte_Sl_byte #[.slice s2.a s2.len s2.cap, .slice key.a key.len key.cap, .func (.func
 F.bytes_Compare) #[] #[]] w1 fun n5 b6 w3 => Q (.tuple #[.int .i64 n5, .bool b6]) w3
def A.node_find : AT := (.s .r (.s .r .l))
theorem W.node_find_ok (n_Leaf : Bool) (n_Keys : Sl) (n_Vals : Sl) (n_Kids : Sl) (key : Sl) (w : World) (Q : Value → World → Prop) (h : W.node_find n_Leaf n_Keys n_Vals n_Kids key w Q) : Ret Tryz.prog F.node_find #[.agg #[.bool n_Leaf, .slice n_Keys.a n_Keys.len n_Keys.cap, .slice n_Vals.a n_Vals.len n_Vals.cap, .slice n_Kids.a n_Kids.len n_Kids.cap], .slice key.a key.len key.cap] w Q := okF A.node_find Tryz.func106 (by kernel_rfl) (by kernel_rfl) h
def W.node_sound (n_Leaf : Bool) (n_Keys : Sl) (n_Vals : Sl) (n_Kids : Sl) (w : World) (Q : Value → World → Prop) : Prop := Nx (w.alloc (.cells #[.bool n_Leaf, .slice n_Keys.a n_Keys.len n_Keys.cap, .slice n_Vals.a n_Vals.len n_Vals.cap,
 .slice n_Kids.a n_Kids.len n_Kids.cap] Ty.api_Node)) fun w1 => r1 w1 (Addr.add (nA w) 1) fun s2 => ∃ (I3 : Int → World → Prop) (μ4 : Int → World → Nat), I3 0 w1 ∧ ∀ (n5 : Int) (w6 : World), I3 n5 w6 → Br (decide (n5 < (s2.len:Int))) (∃ a7 :
 Addr, s2.a = some a7 ∧ bd n5 s2.len ∧ r1 w6 (a7.add (Int.toNat n5 * 1)) fun s8 => c3 F.node_keyed #[.slice s8.a s8.len s8.cap] w6 fun b11 w9 => Jn (fun k12 : Bool → World → Prop => Br (!b11) (k12 true w9) (Jn (fun k13 : Bool → World → Prop
 => Br (decide (n5 > 0)) (r1 w9 (Addr.add (nA w) 1) fun s14 => ∃ a15 : Addr, s14.a = some a15 ∧ bd (wI (n5 - 1)) s14.len ∧ r1 w9 (a15.add (Int.toNat (wI (n5 - 1)) * 1)) fun s16 => c2 F.bytes_Compare #[.slice s16.a s16.len s16.cap, .slice
 s8.a s8.len s8.cap] w9 fun n19 w17 => k13 (decide (n19 ≥ 0)) w17) (k13 false w9)) (fun (b20 : Bool) w21 => k12 b20 w21))) (fun (b22 : Bool) w23 => Br b22 (Q (.bool false) w23) (I3 (wI (n5 + 1)) w23 ∧ μ4 (wI (n5 + 1)) w23 < μ4 n5 w6))) (r3
 w6 (nA w) fun b24 => Br b24 (r1 w6 (Addr.add (nA w) 2) fun s25 => r1 w6 (Addr.add (nA w) 1) fun s26 => Jn (fun k27 : Bool → World → Prop => Br ((s25.len:Int) == (s26.len:Int)) (r1 w6 (Addr.add (nA w) 3) fun s28 => k27 ((s28.len:Int) == 0)
 w6) (k27 false w6)) (fun (b29 : Bool) w30 => Jn (fun k31 : Bool → World → Prop => Br b29 (r1 w30 (Addr.add (nA w) 2) fun s32 => c3 F.slices_ContainsFunc_Sl_Sl_byte_Sl_byte #[.slice s32.a s32.len s32.cap, .func (.func F.node_sound_1) #[]
 #[]] w30 fun b35 w33 => k31 (!b35) w33) (k31 false w30)) (fun (b36 : Bool) w37 => Q (.bool b36) w37))) (r1 w6 (Addr.add (nA w) 1) fun s38 => Jn (fun k39 : Bool → World → Prop => Br (decide ((s38.len:Int) > 0)) (r1 w6 (Addr.add (nA w) 3) fun
 s40 => r1 w6 (Addr.add (nA w) 1) fun s41 => k39 ((s40.len:Int) == (wI ((s41.len:Int) + 1))) w6) (k39 false w6)) (fun (b42 : Bool) w43 => Jn (fun k44 : Bool → World → Prop => Br b42 (r1 w43 (Addr.add (nA w) 2) fun s45 => k44 ((s45.len:Int)
 == 0) w43) (k44 false w43)) (fun (b46 : Bool) w47 => Jn (fun k48 : Bool → World → Prop => Br b46 (r1 w47 (Addr.add (nA w) 3) fun s49 => c3 F.slices_ContainsFunc_Sl_int_int #[.slice s49.a s49.len s49.cap, .func (.func F.node_sound_2) #[]
 #[]] w47 fun b52 w50 => k48 (!b52) w50) (k48 false w47)) (fun (b53 : Bool) w54 => Q (.bool b53) w54)))))
def A.node_sound : AT := (.s .r (.s (.s .r (.blk (.loop [(10, (.int .i64))] [1, 8, 9] (.s .r (.s (.c .l .l) (.s (.blk (.s .r (.s (.reg [.run, .run, .run, .run, .split 13, .run, .run, .split 9]) (.c (.s .r .l) .l)))) .r)))))) (.s (.s .r (.c
 (.s .r (.s (.reg [.run, .run, .run, .run, .run, .run, .run, .run, .split 4, .run, .run, .run, .run, .run, .split 5]) .l)) .l)) (.s .r (.s (.reg [.run, .run, .run, .run, .run, .split 8, .run, .run, .run, .run, .run, .run, .run, .run, .run,
 .split 4, .run, .run, .run, .run, .run, .split 5]) .l)))))
theorem W.node_sound_ok (n_Leaf : Bool) (n_Keys : Sl) (n_Vals : Sl) (n_Kids : Sl) (w : World) (Q : Value → World → Prop) (h : W.node_sound n_Leaf n_Keys n_Vals n_Kids w Q) : Ret Tryz.prog F.node_sound #[.agg #[.bool n_Leaf, .slice n_Keys.a n_Keys.len n_Keys.cap, .slice n_Vals.a n_Vals.len n_Vals.cap, .slice n_Kids.a n_Kids.len n_Kids.cap]] w Q := okF A.node_sound Tryz.func107 (by kernel_rfl) (by kernel_rfl) h
def W.node_own (n_Leaf : Bool) (n_Keys : Sl) (n_Vals : Sl) (n_Kids : Sl) (w : World) (Q : Value → World → Prop) : Prop := Nx (w.alloc (.cells #[.bool n_Leaf, .slice n_Keys.a n_Keys.len n_Keys.cap, .slice n_Vals.a n_Vals.len n_Vals.cap,
 .slice n_Kids.a n_Kids.len n_Kids.cap] Ty.api_Node)) fun w1 => Nx (w1.alloc z1) fun w2 => Nx (w2.drew) fun w3 => ∃ W4 : Nat → Prop, ¬ W4 ((nA w) : Addr).block ∧ r3 w3 (nA w) fun b5 => ¬ W4 (Addr.add (nA w) 3).block ∧ r1 w3 (Addr.add (nA w)
 3) fun s6 => (c12 F.slices_Clone_Sl_int_int #[.slice s6.a s6.len s6.cap] w3 fun s9 w7 => Chg W4 w3 w7 ∧ ∃ c10 : Array Value, (∀ w11 : World, Sem.run Tryz.prog (Instr.build Ty.api_Node #[(0, .bool b5), (3, .slice s9.a s9.len s9.cap)]) w11 =
 .ok (.agg c10) w11) ∧ Nx (w7.alloc z1) fun w12 => Chg W4 w7 w12 ∧ T24 w12 w7 c10 w w1 Q) ∧ (Nx (w3.alloc z1) fun w57 => Chg W4 w3 w57 ∧ c12 F.slices_Clone_Sl_int_int #[.slice s6.a s6.len s6.cap] w57 fun s60 w58 => Chg W4 w57 w58 ∧ ∃ c61 :
 Array Value, (∀ w62 : World, Sem.run Tryz.prog (Instr.build Ty.api_Node #[(0, .bool b5), (3, .slice s60.a s60.len s60.cap)]) w62 = .ok (.agg c61) w62) ∧ T24 w58 w3 c61 w w1 Q)
def A.node_own : AT := (.s .r (.s (.drw 7 true ⟨[0, 1, 0, 4, 8, 18, 0, 127], [0, 1, 0, 4, 8, 18, 0, 96]⟩ [256, 512, 1024, 2048, 4096, 8192, 8, 0] [2, 256, 2, 1024, 2048, 4608, 0, 8200] (.take 0 (.take 1 (.take 2 (.take 3 (.two 4 (.take 5
 (.eff 6 (.tail [.run]))) 6 (.eff 4 (.take 5 (.tail [.run]))))))))) (.s (.s .r (.blk (.loop [(17, (.int .i64))] [1, 2, 3, 15, 16] (.s .r (.s (.c .l .l) (.s (.blk (.s .r (.drw 5 true ⟨[0, 1, 0, 4, 8, 26, 63, 127], [0, 1, 0, 4, 8, 18, 0, 96]⟩
 [2097152, 4194304, 8388608, 16777216, 33554432, 67108864, 134217728, 0] [8, 2097152, 32, 8388608, 16777216, 37748736, 8, 201326592] (.take 0 (.take 1 (.take 2 (.eff 3 (.eff 4 (.tail [.run, .run, .run]))))))))) .r)))))) (.s (.s .r (.blk
 (.loop [(32, (.int .i64))] [2, 3, 30, 31] (.s .r (.s (.c .l .l) (.s (.blk (.s .r (.drw 5 true ⟨[0, 1, 0, 4, 8, 26, 63, 127], [0, 1, 0, 4, 8, 18, 0, 96]⟩ [68719476736, 137438953472, 274877906944, 549755813888, 1099511627776, 2199023255552,
 4398046511104, 0] [8, 68719476736, 128, 274877906944, 549755813888, 1236950581248, 8, 6597069766656] (.take 0 (.take 1 (.take 2 (.eff 3 (.eff 4 (.tail [.run, .run, .run]))))))))) .r)))))) (.s .r .l)))))
theorem W.node_own_ok (n_Leaf : Bool) (n_Keys : Sl) (n_Vals : Sl) (n_Kids : Sl) (w : World) (Q : Value → World → Prop) (h : W.node_own n_Leaf n_Keys n_Vals n_Kids w Q) : Ret Tryz.prog F.node_own #[.agg #[.bool n_Leaf, .slice n_Keys.a n_Keys.len n_Keys.cap, .slice n_Vals.a n_Vals.len n_Vals.cap, .slice n_Kids.a n_Kids.len n_Kids.cap]] w Q := okF A.node_own Tryz.func108 (by kernel_rfl) (by kernel_rfl) h
def W.tree_Tree_does_1 (x : Addr) (x_2 : Addr) (w : World) (Q : Value → World → Prop) : Prop := r2 w x fun n1 => Br (n1 != 0) (Nx (w.drew) fun w2 => ¬ False ∧ ∃ p3 : Option Addr, w2.cell? x_2 = some (.pointer p3) ∧ ¬ False ∧ ∃ p4 : Option
 Addr, w2.cell? x_2 = some (.pointer p4) ∧ ∃ a5 : Addr, p4 = some a5 ∧ ¬ False ∧ r1 w2 (a5.add 1) fun s6 => c1 F.tree_change_gives #[.pointer p3, .slice s6.a s6.len s6.cap] w2 fun w7 => Q (.tuple #[]) w7) (Q (.tuple #[]) w)
def A.tree_Tree_does_1 : AT := (.s .r (.c (.drw 5 false ⟨[0, 0, 2, 4, 8, 17], [0, 0, 2, 4, 8, 17]⟩ [16, 32, 64, 128, 256, 512] [2, 2, 32, 64, 128, 272] (.take 0 (.take 1 (.take 2 (.take 3 (.take 4 (.tail [.run]))))))) .l))
theorem W.tree_Tree_does_1_eq (x : Addr) (x_2 : Addr) (w : World) (Q : Value → World → Prop) : W.tree_Tree_does_1 x x_2 w Q = DF Tryz.prog tk A.tree_Tree_does_1 Tryz.f110 [.pointer (some x), .pointer (some x_2)] w Q := by kernel_rfl
theorem W.tree_Tree_does_1_dfr (x : Addr) (x_2 : Addr) (w : World) (K : World → Prop) (h : W.tree_Tree_does_1 x x_2 w fun _ w1 => K w1) : Dfr Tryz.prog F.tree_Tree_does_1 #[.pointer (some x), .pointer (some x_2)] w K :=
  dfr_of_DF hmix ⟨_, Tryz.func110, by kernel_rfl, by kernel_rfl⟩ Tryz.func110 (by kernel_rfl) (Eq.mp (W.tree_Tree_does_1_eq x x_2 w _) h)
def W.tree_change_gives (c : Option Addr) (l : Sl) (w : World) (Q : Value → World → Prop) : Prop := ∃ (I1 : Int → World → Prop) (μ2 : Int → World → Nat), I1 0 w ∧ ∀ (n3 : Int) (w4 : World), I1 n3 w4 → Br (decide (n3 < (l.len:Int))) (Jn (fun
 k5 : World → Prop => ∃ a6 : Addr, l.a = some a6 ∧ bd n3 l.len ∧ r2 w4 (a6.add (Int.toNat n3 * 1)) fun n7 => ∃ a8 : Addr, c = some a8 ∧ ∃ p9 : Option Addr, w4.cell? a8 = some (.pointer p9) ∧ ∃ a10 : Addr, p9 = some a10 ∧ ∃ p11 : Option Addr,
 w4.cell? (a10.add 1) = some (.pointer p11) ∧ c3 F.space_Space_Fresh #[.pointer p11, .int .i64 n7] w4 fun b14 w12 => ∃ a15 : Addr, c = some a15 ∧ ∃ p16 : Option Addr, w12.cell? a15 = some (.pointer p16) ∧ ∃ a17 : Addr, p16 = some a17 ∧ ∃ p18
 : Option Addr, w12.cell? (a17.add 1) = some (.pointer p18) ∧ c2 F.space_Space_Free #[.pointer p18, .int .i64 n7] w12 fun n21 w19 => Br b14 (∃ a22 : Addr, c = some a22 ∧ ∃ p23 : Option Addr, w19.cell? a22 = some (.pointer p23) ∧ ∃ a24 :
 Addr, p23 = some a24 ∧ ∃ p25 : Option Addr, w19.cell? a24 = some (.pointer p25) ∧ c3 F.cache_Cache_Drop #[.pointer p25, .int .i64 n7] w19 fun b28 w26 => k5 w26) (k5 w19)) (fun w29 => I1 (wI (n3 + 1)) w29 ∧ μ2 (wI (n3 + 1)) w29 < μ2 n3 w4))
 (Q (.tuple #[]) w4)
def A.tree_change_gives : AT := (.s .r (.blk (.loop [(9, (.int .i64))] [0, 7, 8] (.s .r (.s (.c .l .l) (.s (.jk [] [0, 7, 8, 9] (.blk (.s .r (.s .r (.s .r (.s .r (.c .r .l))))))) .r))))))
theorem W.tree_change_gives_ok (c : Option Addr) (l : Sl) (w : World) (Q : Value → World → Prop) (h : W.tree_change_gives c l w Q) : Ret Tryz.prog F.tree_change_gives #[.pointer c, .slice l.a l.len l.cap] w Q := okF A.tree_change_gives Tryz.func111 (by kernel_rfl) (by kernel_rfl) h
def W.tree_change_up (c : Option Addr) (way : Sl) (leaf_Leaf : Bool) (leaf_Keys : Sl) (leaf_Vals : Sl) (leaf_Kids : Sl) (w : World) (Q : Value → World → Prop) : Prop := Nx (w.alloc (.cells #[.bool leaf_Leaf, .slice leaf_Keys.a leaf_Keys.len
 leaf_Keys.cap, .slice leaf_Vals.a leaf_Vals.len leaf_Vals.cap, .slice leaf_Kids.a leaf_Kids.len leaf_Kids.cap] Ty.api_Node)) fun w1 => r3 w1 (nA w) fun b2 => r1 w1 (Addr.add (nA w) 1) fun s3 => r1 w1 (Addr.add (nA w) 2) fun s4 => r1 w1
 (Addr.add (nA w) 3) fun s5 => Nx (w1.alloc z1) fun w6 => StoreOk w6 (nA w1) [.bool b2, .slice s3.a s3.len s3.cap, .slice s4.a s4.len s4.cap, .slice s5.a s5.len s5.cap] ∧ (4 : Nat) = 4 ∧ Nx (setCells w6 (nA w1) 0 [.bool b2, .slice s3.a
 s3.len s3.cap, .slice s4.a s4.len s4.cap, .slice s5.a s5.len s5.cap]) fun w7 => ∃ (I8 : Int → World → Prop) (μ9 : Int → World → Nat), I8 (wI ((way.len:Int) - 1)) w7 ∧ ∀ (n10 : Int) (w11 : World), I8 n10 w11 → Br (decide (n10 ≥ 0)) (Nx
 (w11.drew) fun w12 => ∃ W13 : Nat → Prop, ∃ a14 : Addr, c = some a14 ∧ ¬ W13 (a14.add 2).block ∧ r1 w12 (a14.add 2) fun s15 => ∃ a16 : Addr, way.a = some a16 ∧ bd n10 way.len ∧ ¬ W13 (a16.add (Int.toNat n10 * 6)).block ∧ r2 w12 (a16.add
 (Int.toNat n10 * 6)) fun n17 => Nx (w12.alloc (.cells #[.int .i64 n17] Ty.int)) fun w18 => Chg W13 w12 w18 ∧ ∃ s19 : Sl, ∃ w20 : World, Sem.run Tryz.prog (Builtin.append_ #[Ty.Sl_int, Ty.Sl_int] Ty.Sl_int #[.slice s15.a s15.len s15.cap,
 .slice (some (nA w12)) 1 1]) w18 = .ok (.slice s19.a s19.len s19.cap) w20 ∧ Chg W13 w18 w20 ∧ ∃ a21 : Addr, c = some a21 ∧ st w20 (a21.add 2) (.slice s19.a s19.len s19.cap) fun w22 => Jn (fun k23 : Bool → World → Prop => Br (n10 == 0) (r1
 w22 (Addr.add (nA w1) 1) fun s24 => k23 ((s24.len:Int) == 0) w22) (k23 false w22)) (fun (b25 : Bool) w26 => Br b25 (Nx (w26.drew) fun w27 => ∃ W28 : Nat → Prop, ¬ W28 ((nA w1) : Addr).block ∧ r3 w27 (nA w1) fun b29 => r1 w27 (Addr.add (nA
 w1) 1) fun s30 => r1 w27 (Addr.add (nA w1) 2) fun s31 => r1 w27 (Addr.add (nA w1) 3) fun s32 => ∃ a33 : Addr, c = some a33 ∧ ¬ W28 a33.block ∧ ∃ p34 : Option Addr, w27.cell? a33 = some (.pointer p34) ∧ ∃ a35 : Addr, p34 = some a35 ∧ ¬ W28
 (a35.add 4).block ∧ r2 w27 (a35.add 4) fun n36 => c10 F.tree_last #[.agg #[.bool b29, .slice s30.a s30.len s30.cap, .slice s31.a s31.len s31.cap, .slice s32.a s32.len s32.cap], .int .i64 n36] w27 fun n39 n40 n41 w37 => Chg W28 w27 w37 ∧ Q
 (.tuple #[.int .i64 n39, .int .i64 n40, .int .i64 n41]) w37) (Jn (fun k42 : Option Addr → World → Prop => Br (decide (n10 > 0)) (∃ a43 : Addr, way.a = some a43 ∧ bd (wI (n10 - 1)) way.len ∧ k42 (some (a43.add (Int.toNat (wI (n10 - 1)) *
 6))) w26) (k42 none w26)) (fun (p44 : Option Addr) w45 => r3 w45 (nA w1) fun b46 => r1 w45 (Addr.add (nA w1) 1) fun s47 => r1 w45 (Addr.add (nA w1) 2) fun s48 => r1 w45 (Addr.add (nA w1) 3) fun s49 => c17 F.tree_change_lays #[.pointer c,
 .agg #[.bool b46, .slice s47.a s47.len s47.cap, .slice s48.a s48.len s48.cap, .slice s49.a s49.len s49.cap], .pointer p44] w45 fun s52 n53 n54 n55 w50 => Br (n55 != 0) (Q (.tuple #[.int .i64 0, .int .i64 0, .int .i64 n55]) w50) (Br (n10 ==
 0) (c10 F.tree_change_top #[.pointer c, .slice s52.a s52.len s52.cap] w50 fun n58 n59 n60 w56 => Q (.tuple #[.int .i64 n58, .int .i64 n59, .int .i64 n60]) w56) (∃ a61 : Addr, p44 = some a61 ∧ r3 w50 (a61.add 1) fun b62 => r1 w50 ((a61.add
 1).add 1) fun s63 => r1 w50 ((a61.add 1).add 2) fun s64 => r1 w50 ((a61.add 1).add 3) fun s65 => c11 F.tree_changed #[.agg #[.bool b62, .slice s63.a s63.len s63.cap, .slice s64.a s64.len s64.cap, .slice s65.a s65.len s65.cap], .int .i64
 n53, .int .i64 n54, .slice s52.a s52.len s52.cap] w50 fun b68 s69 s70 s71 w66 => StoreOk w66 (nA w1) [.bool b68, .slice s69.a s69.len s69.cap, .slice s70.a s70.len s70.cap, .slice s71.a s71.len s71.cap] ∧ (4 : Nat) = 4 ∧ Nx (setCells w66
 (nA w1) 0 [.bool b68, .slice s69.a s69.len s69.cap, .slice s70.a s70.len s70.cap, .slice s71.a s71.len s71.cap]) fun w72 => I8 (wI (n10 - 1)) w72 ∧ μ9 (wI (n10 - 1)) w72 < μ9 n10 w11)))))) (r3 w11 (nA w1) fun b73 => r1 w11 (Addr.add (nA w1)
 1) fun s74 => r1 w11 (Addr.add (nA w1) 2) fun s75 => r1 w11 (Addr.add (nA w1) 3) fun s76 => c4 F.tree_change_one #[.pointer c, .agg #[.bool b73, .slice s74.a s74.len s74.cap, .slice s75.a s75.len s75.cap, .slice s76.a s76.len s76.cap]] w11
 fun s79 n80 w77 => Br (n80 != 0) (Q (.tuple #[.int .i64 0, .int .i64 0, .int .i64 n80]) w77) (∃ a81 : Addr, s79.a = some a81 ∧ bd 0 s79.len ∧ r2 w77 ((a81.add (Int.toNat 0 * 2)).add 1) fun n82 => Q (.tuple #[.int .i64 n82, .int .i64 1, .int
 .i64 0]) w77))
def A.tree_change_up : AT := (.s .r (.s .r (.s (.s .r (.blk (.loop [(10, (.int .i64))] [0, 1, 9] (.s (.s .r (.c .l .l)) (.s (.blk (.s (.drw 12 true ⟨[0, 0, 2, 4, 8, 0, 0, 96, 128, 256, 512, 1040, 4095, 8191, 12287], [0, 0, 2, 4, 8, 0, 0,
 96, 128, 256, 512, 1040, 1, 4096, 10240]⟩ [33554432, 67108864, 134217728, 268435456, 536870912, 1073741824, 2147483648, 4294967296, 8589934592, 17179869184, 34359738368, 68719476736, 137438953472, 274877906944, 0] [1, 1, 67108864,
 134217728, 268435456, 2, 1024, 3221225472, 4294967296, 8589934592, 17179869184, 34896609280, 33554432, 137438953472, 343597383680] (.take 0 (.take 1 (.take 2 (.take 3 (.take 4 (.take 5 (.take 6 (.take 7 (.take 8 (.take 9 (.eff 10 (.eff 11
 (.tail [.run, .run, .run])))))))))))))) (.s (.s (.reg [.run, .run, .run, .split 4]) (.c (.s (.drw 12 true ⟨[0, 0, 2, 4, 8, 16, 32, 64, 129, 256, 256, 256, 4095, 8191, 16383], [0, 0, 2, 4, 8, 16, 32, 64, 129, 256, 256, 256, 512, 1024, 2048]⟩
 [140737488355328, 281474976710656, 562949953421312, 1125899906842624, 2251799813685248, 4503599627370496, 9007199254740992, 18014398509481984, 36028797018963968, 72057594037927936, 144115188075855872, 288230376151711744, 64, 128, 256] [512,
 1, 281474976710656, 562949953421312, 1125899906842624, 2251799813685248, 4503599627370496, 9007199254740992, 18155135997837312, 36028797018963968, 36028797018963968, 36028797018963968, 72057594037927936, 144115188075855872,
 288230376151711744] (.take 0 (.take 1 (.take 2 (.take 3 (.take 4 (.take 5 (.take 6 (.take 7 (.eff 8 (.take 9 (.take 10 (.take 11 (.tail [.run, .run, .run])))))))))))))) .l) .l)) (.s .r (.s (.jk [(11, .ptr)] [0, 1, 9, 10] (.s .r (.c .r .l)))
 (.s .r (.s a1 (.s a1 .r)))))))) .r))))) a10)))
theorem W.tree_change_up_ok (c : Option Addr) (way : Sl) (leaf_Leaf : Bool) (leaf_Keys : Sl) (leaf_Vals : Sl) (leaf_Kids : Sl) (w : World) (Q : Value → World → Prop) (h : W.tree_change_up c way leaf_Leaf leaf_Keys leaf_Vals leaf_Kids w Q) : Ret Tryz.prog F.tree_change_up #[.pointer c, .slice way.a way.len way.cap, .agg #[.bool leaf_Leaf, .slice leaf_Keys.a leaf_Keys.len leaf_Keys.cap, .slice leaf_Vals.a leaf_Vals.len leaf_Vals.cap, .slice leaf_Kids.a leaf_Kids.len leaf_Kids.cap]] w Q := okF A.tree_change_up Tryz.func112 (by kernel_rfl) (by kernel_rfl) h
def W.space_good (n : Int) (w : World) (Q : Value → World → Prop) : Prop := Q (.bool ((decide (n ≥ 1)) && (decide (n ≤ 1600)))) w
def A.space_good : AT := a3
theorem W.space_good_ok (n : Int) (w : World) (Q : Value → World → Prop) (h : W.space_good n w Q) : Ret Tryz.prog F.space_good #[.int .i64 n] w Q := okF A.space_good Tryz.func114 (by kernel_rfl) (by kernel_rfl) h
def W.space_size (n : Int) (w : World) (Q : Value → World → Prop) : Prop := (8 : Int) ≠ 0 ∧ Q (.int .i64 (wI (Int.tdiv (wI ((wI (n + 8)) - 1)) 8))) w
def A.space_size : AT := (.s .r (.s .r .l))
theorem W.space_size_ok (n : Int) (w : World) (Q : Value → World → Prop) (h : W.space_size n w Q) : Ret Tryz.prog F.space_size #[.int .i64 n] w Q := okF A.space_size Tryz.func115 (by kernel_rfl) (by kernel_rfl) h
end Go.Proofs.YtplieiecebljmaaGreat
namespace Go.Proofs.YtplieiecebljmaaGreat
open Go Gx
set_option maxRecDepth 100000
def W.space_set_put (s : Sl) (no : Int) (w : World) (Q : Value → World → Prop) : Prop := Nx (w.drew) fun w1 => (8 : Int) ≠ 0 ∧ ∃ a2 : Addr, s.a = some a2 ∧ bd (wI (Int.tdiv no 8)) s.len ∧ ¬ False ∧ r4 w1 (a2.add (Int.toNat (wI (Int.tdiv no
 8)) * 1)) fun n3 => (8 : Int) ≠ 0 ∧ (0 : Int) ≤ (Int.tmod no 8) ∧ ∃ a4 : Addr, s.a = some a4 ∧ bd (wI (Int.tdiv no 8)) s.len ∧ st w1 (a4.add (Int.toNat (wI (Int.tdiv no 8)) * 1)) (.int .u8 (bOr .u8 n3 (IntKind.wrap .u8 (1 * 2 ^ (min
 (Int.toNat (Int.tmod no 8)) 8))))) fun w5 => Q (.tuple #[]) w5
def A.space_set_put : AT := (.drw 8 false ⟨[0, 0, 2, 5, 8, 0, 32, 64, 144, 511, 1023], [0, 0, 2, 5, 8, 0, 32, 64, 144, 5, 768]⟩ [16, 32, 64, 128, 256, 512, 1024, 2048, 4096, 8192, 0] [1, 2, 32, 80, 128, 2, 512, 1024, 2304, 80, 12288] (.take
 0 (.take 1 (.take 2 (.take 3 (.take 4 (.take 5 (.take 6 (.take 7 (.tail [.run, .run, .run]))))))))))
theorem W.space_set_put_ok (s : Sl) (no : Int) (w : World) (Q : Value → World → Prop) (h : W.space_set_put s no w Q) : Ret Tryz.prog F.space_set_put #[.slice s.a s.len s.cap, .int .i64 no] w Q := okF A.space_set_put Tryz.func116 (by kernel_rfl) (by kernel_rfl) h
def W.node_keyed (v_k : Sl) (w : World) (Q : Value → World → Prop) : Prop := Q (.bool ((decide ((v_k.len:Int) ≥ 1)) && (decide ((v_k.len:Int) ≤ 24)))) w
def A.node_keyed : AT := a9
theorem W.node_keyed_ok (v_k : Sl) (w : World) (Q : Value → World → Prop) (h : W.node_keyed v_k w Q) : Ret Tryz.prog F.node_keyed #[.slice v_k.a v_k.len v_k.cap] w Q := okF A.node_keyed Tryz.func118 (by kernel_rfl) (by kernel_rfl) h
def W.node_Decode (leaf : Bool) (b : Sl) (w : World) (Q : Value → World → Prop) : Prop := Nx (w.alloc z1) fun w1 => Nx (w1.alloc (.cells #[.slice b.a b.len b.cap, .bool true] Ty.node_reader)) fun w2 => Nx (w2.alloc z1) fun w3 => StoreOk w3
 (nA w2) [.bool leaf, .slice none 0 0, .slice none 0 0, .slice none 0 0] ∧ (4 : Nat) = 4 ∧ Nx (setCells w3 (nA w2) 0 [.bool leaf, .slice none 0 0, .slice none 0 0, .slice none 0 0]) fun w4 => c2 F.node_reader_number #[.pointer (some (nA
 w1)), .int .i64 1] w4 fun n7 w5 => Jn (fun k8 : World → Prop => Br (!leaf) (T11 w5 w2 w1 k8) (k8 w5)) (fun w19 => ∃ (I20 : Int → World → Prop) (μ21 : Int → World → Nat), I20 0 w19 ∧ ∀ (n22 : Int) (w23 : World), I20 n22 w23 → Br (decide (n22
 < n7)) (Jn (fun k24 : World → Prop => Nx (w23.drew) fun w25 => ∃ W26 : Nat → Prop, ¬ W26 (Addr.add (nA w2) 1).block ∧ r1 w25 (Addr.add (nA w2) 1) fun s27 => c12 F.node_reader_text #[.pointer (some (nA w1))] w25 fun s30 w28 => Chg W26 w25
 w28 ∧ Nx (w28.alloc (.cells #[.slice s30.a s30.len s30.cap] Ty.Sl_uint8)) fun w31 => Chg W26 w28 w31 ∧ ∃ s32 : Sl, ∃ w33 : World, Sem.run Tryz.prog (Builtin.append_ #[Ty.Sl_Sl_uint8, Ty.Sl_Sl_uint8] Ty.Sl_Sl_uint8 #[.slice s27.a s27.len
 s27.cap, .slice (some (nA w28)) 1 1]) w31 = .ok (.slice s32.a s32.len s32.cap) w33 ∧ st w33 (Addr.add (nA w2) 1) (.slice s32.a s32.len s32.cap) fun w34 => Br leaf (Nx (w34.drew) fun w35 => ∃ W36 : Nat → Prop, ¬ W36 (Addr.add (nA w2)
 2).block ∧ r1 w35 (Addr.add (nA w2) 2) fun s37 => c12 F.node_reader_text #[.pointer (some (nA w1))] w35 fun s40 w38 => Chg W36 w35 w38 ∧ Nx (w38.alloc (.cells #[.slice s40.a s40.len s40.cap] Ty.Sl_uint8)) fun w41 => Chg W36 w38 w41 ∧ ∃ s42
 : Sl, ∃ w43 : World, Sem.run Tryz.prog (Builtin.append_ #[Ty.Sl_Sl_uint8, Ty.Sl_Sl_uint8] Ty.Sl_Sl_uint8 #[.slice s37.a s37.len s37.cap, .slice (some (nA w38)) 1 1]) w41 = .ok (.slice s42.a s42.len s42.cap) w43 ∧ st w43 (Addr.add (nA w2) 2)
 (.slice s42.a s42.len s42.cap) fun w44 => k24 w44) (T11 w34 w2 w1 k24)) (fun w55 => I20 (wI (n22 + 1)) w55 ∧ μ21 (wI (n22 + 1)) w55 < μ21 n22 w23)) (r3 w23 (nA w2) fun b56 => r1 w23 (Addr.add (nA w2) 1) fun s57 => r1 w23 (Addr.add (nA w2)
 2) fun s58 => r1 w23 (Addr.add (nA w2) 3) fun s59 => c4 F.node_encode #[.agg #[.bool b56, .slice s57.a s57.len s57.cap, .slice s58.a s58.len s58.cap, .slice s59.a s59.len s59.cap]] w23 fun s62 n63 w60 => ∃ a64 : Addr, (some (nA w1) : Option
 Addr) = some a64 ∧ r3 w60 (a64.add 1) fun b65 => Jn (fun k66 : Bool → World → Prop => Br ((!b65) || (n63 != 0)) (k66 true w60) (c3 F.bytes_Equal #[.slice s62.a s62.len s62.cap, .slice b.a b.len b.cap] w60 fun b69 w67 => k66 (!b69) w67))
 (fun (b70 : Bool) w71 => Br b70 (StoreOk w71 (nA w) [.bool false, .slice none 0 0, .slice none 0 0, .slice none 0 0] ∧ (4 : Nat) = 4 ∧ Nx (setCells w71 (nA w) 0 [.bool false, .slice none 0 0, .slice none 0 0, .slice none 0 0]) fun w72 =>
 T12 w72 w Q) (r3 w71 (nA w2) fun b77 => r1 w71 (Addr.add (nA w2) 1) fun s78 => r1 w71 (Addr.add (nA w2) 2) fun s79 => r1 w71 (Addr.add (nA w2) 3) fun s80 => StoreOk w71 (nA w) [.bool b77, .slice s78.a s78.len s78.cap, .slice s79.a s79.len
 s79.cap, .slice s80.a s80.len s80.cap] ∧ (4 : Nat) = 4 ∧ Nx (setCells w71 (nA w) 0 [.bool b77, .slice s78.a s78.len s78.cap, .slice s79.a s79.len s79.cap, .slice s80.a s80.len s80.cap]) fun w81 => r3 w81 (nA w) fun b82 => r1 w81 (Addr.add
 (nA w) 1) fun s83 => r1 w81 (Addr.add (nA w) 2) fun s84 => r1 w81 (Addr.add (nA w) 3) fun s85 => Q (.tuple #[.agg #[.bool b82, .slice s83.a s83.len s83.cap, .slice s84.a s84.len s84.cap, .slice s85.a s85.len s85.cap], .int .i64 0]) w81))))
def A.node_Decode : AT := (.s .r (.s .r (.s .r (.s (.jk [] [0, 1, 4, 6, 7, 8] (.s .r (.c (.drw 5 true ⟨[0, 1, 0, 4, 8, 26, 63, 127], [0, 1, 0, 4, 8, 18, 0, 96]⟩ [1048576, 2097152, 4194304, 8388608, 16777216, 33554432, 67108864, 0] [128,
 1048576, 64, 4194304, 8388608, 18874368, 128, 100663296] (.take 0 (.take 1 (.take 2 (.eff 3 (.eff 4 (.tail [.run, .run, .run]))))))) .l))) (.s (.s .r (.blk (.loop [(28, (.int .i64))] [0, 1, 4, 6, 7, 27] (.s .r (.s (.c .l .l) (.s (.jk [] [0,
 1, 4, 6, 7, 27, 28] (.blk (.s (.drw 5 true ⟨[0, 1, 0, 4, 8, 26, 63, 127], [0, 1, 0, 4, 8, 18, 0, 96]⟩ [1073741824, 2147483648, 4294967296, 8589934592, 17179869184, 34359738368, 68719476736, 0] [128, 1073741824, 64, 4294967296, 8589934592,
 19327352832, 128, 103079215104] (.take 0 (.take 1 (.take 2 (.eff 3 (.eff 4 (.tail [.run, .run, .run]))))))) (.s .r (.c (.drw 5 true ⟨[0, 1, 0, 4, 8, 26, 63, 127], [0, 1, 0, 4, 8, 18, 0, 96]⟩ [274877906944, 549755813888, 1099511627776,
 2199023255552, 4398046511104, 8796093022208, 17592186044416, 0] [128, 274877906944, 64, 1099511627776, 2199023255552, 4947802324992, 128, 26388279066624] (.take 0 (.take 1 (.take 2 (.eff 3 (.eff 4 (.tail [.run, .run, .run]))))))) (.drw 5
 true ⟨[0, 1, 0, 4, 8, 26, 63, 127], [0, 1, 0, 4, 8, 18, 0, 96]⟩ [35184372088832, 70368744177664, 140737488355328, 281474976710656, 562949953421312, 1125899906842624, 2251799813685248, 0] [128, 35184372088832, 64, 140737488355328,
 281474976710656, 633318697598976, 128, 3377699720527872] (.take 0 (.take 1 (.take 2 (.eff 3 (.eff 4 (.tail [.run, .run, .run])))))))))))) .r)))))) (.s .r (.s (.s (.reg [.run, .run, .run, .run, .run, .run, .pure 2, .run, .run, .run, .split
 4]) (.c (.s .r .l) .l)) (.s .r .l))))))))
theorem W.node_Decode_ok (leaf : Bool) (b : Sl) (w : World) (Q : Value → World → Prop) (h : W.node_Decode leaf b w Q) : Ret Tryz.prog F.node_Decode #[.bool leaf, .slice b.a b.len b.cap] w Q := okF A.node_Decode Tryz.func129 (by kernel_rfl) (by kernel_rfl) h
def W.page_sum (b : Sl) (w : World) (Q : Value → World → Prop) : Prop := Nx (w.drew) fun w1 => ((0 : Int) ≤ 20 ∧ 20 ≤ ((b.cap : Nat) : Int)) ∧ ((0 : Int) ≤ 24 ∧ 24 ≤ (b.len:Int)) ∧ Nx (w1.alloc (.cells #[.slice (cutA b.a 1 0 b.cap)
 ((Int.toNat 20) - 0) (b.cap - 0), .slice (cutA b.a 1 (Int.toNat 24) b.cap) (b.len - (Int.toNat 24)) (b.cap - (Int.toNat 24))] Ty.Sl_uint8)) fun w2 => c13 F.crc_Parts #[.slice (some (nA w1)) 2 2] w2 fun n5 w3 => Q (.int .u32 n5) w3
def A.page_sum : AT := (.s .r (.s (.drw 4 false ⟨[0, 1, 0, 4, 10, 16, 63], [0, 1, 0, 4, 10, 16, 32]⟩ [8, 16, 32, 64, 128, 256, 4] [1, 8, 1, 32, 80, 128, 256] (.take 0 (.take 1 (.take 2 (.take 3 (.tail [.run, .run, .run])))))) .l))
theorem W.page_sum_ok (b : Sl) (w : World) (Q : Value → World → Prop) (h : W.page_sum b w Q) : Ret Tryz.prog F.page_sum #[.slice b.a b.len b.cap] w Q := okF A.page_sum Tryz.func130 (by kernel_rfl) (by kernel_rfl) h
def W.page_number (b : Sl) (v_at : Int) (v_end : Int) (w : World) (Q : Value → World → Prop) : Prop := c18 F.num_Get #[.slice b.a b.len b.cap, .int .i64 v_at, .int .i64 (wI (v_end - v_at))] w fun n3 b4 w1 => Q (.int .u64 n3) w1
def A.page_number : AT := a4
theorem W.page_number_ok (b : Sl) (v_at : Int) (v_end : Int) (w : World) (Q : Value → World → Prop) (h : W.page_number b v_at v_end w Q) : Ret Tryz.prog F.page_number #[.slice b.a b.len b.cap, .int .i64 v_at, .int .i64 v_end] w Q := okF A.page_number Tryz.func131 (by kernel_rfl) (by kernel_rfl) h
def W.page_kind (v_k : Int) (w : World) (Q : Value → World → Prop) : Prop := Q (.bool ((decide (v_k ≥ 1)) && (decide (v_k ≤ 4)))) w
def A.page_kind : AT := a3
theorem W.page_kind_ok (v_k : Int) (w : World) (Q : Value → World → Prop) (h : W.page_kind v_k w Q) : Ret Tryz.prog F.page_kind #[.int .i64 v_k] w Q := okF A.page_kind Tryz.func132 (by kernel_rfl) (by kernel_rfl) h
def W.page_idle (b : Sl) (w : World) (Q : Value → World → Prop) : Prop := ∃ (I1 : Int → World → Prop) (μ2 : Int → World → Nat), I1 0 w ∧ ∀ (n3 : Int) (w4 : World), I1 n3 w4 → Br (decide (n3 < (b.len:Int))) (∃ a5 : Addr, b.a = some a5 ∧ bd
 n3 b.len ∧ r4 w4 (a5.add (Int.toNat n3 * 1)) fun n6 => Br (n6 != 0) (Q (.bool false) w4) (I1 (wI (n3 + 1)) w4 ∧ μ2 (wI (n3 + 1)) w4 < μ2 n3 w4)) (Q (.bool true) w4)
def A.page_idle : AT := (.s .r (.s (.s .r (.blk (.loop [(7, (.int .i64))] [5, 6] a11))) (.s .r .l)))
theorem W.page_idle_ok (b : Sl) (w : World) (Q : Value → World → Prop) (h : W.page_idle b w Q) : Ret Tryz.prog F.page_idle #[.slice b.a b.len b.cap] w Q := okF A.page_idle Tryz.func133 (by kernel_rfl) (by kernel_rfl) h
def W.page_has (no : Int) (w : World) (Q : Value → World → Prop) : Prop := Q (.bool ((decide (no ≥ 0)) && (decide (no < 1600)))) w
def A.page_has : AT := a3
theorem W.page_has_ok (no : Int) (w : World) (Q : Value → World → Prop) (h : W.page_has no w Q) : Ret Tryz.prog F.page_has #[.int .i64 no] w Q := okF A.page_has Tryz.func134 (by kernel_rfl) (by kernel_rfl) h
def W.num_Cut (b : Sl) (v_at : Int) (size : Int) (w : World) (Q : Value → World → Prop) : Prop := c15 F.num_cut #[.slice b.a b.len b.cap, .int .i64 v_at, .int .i64 size] w fun s3 b4 w1 => c12 F.slices_Clone_Sl_byte_byte #[.slice s3.a s3.len
 s3.cap] w1 fun s7 w5 => Q (.tuple #[.slice s7.a s7.len s7.cap, .bool b4]) w5
def A.num_Cut : AT := a4
theorem W.num_Cut_ok (b : Sl) (v_at : Int) (size : Int) (w : World) (Q : Value → World → Prop) (h : W.num_Cut b v_at size w Q) : Ret Tryz.prog F.num_Cut #[.slice b.a b.len b.cap, .int .i64 v_at, .int .i64 size] w Q := okF A.num_Cut Tryz.func135 (by kernel_rfl) (by kernel_rfl) h
def W.space_Space_has (s : Option Addr) (no : Int) (w : World) (Q : Value → World → Prop) : Prop := Jn (fun k1 : Bool → World → Prop => Br ((!(Option.isNone s)) && (decide (no ≥ 0))) (∃ a2 : Addr, s = some a2 ∧ r2 w a2 fun n3 => k1 (decide
 (no < n3)) w) (k1 false w)) (fun (b4 : Bool) w5 => Q (.bool b4) w5)
def A.space_Space_has : AT := (.s .r (.s (.reg [.run, .run, .run, .pure 2, .run, .run, .run, .split 6]) .l))
theorem W.space_Space_has_ok (s : Option Addr) (no : Int) (w : World) (Q : Value → World → Prop) (h : W.space_Space_has s no w Q) : Ret Tryz.prog F.space_Space_has #[.pointer s, .int .i64 no] w Q := okF A.space_Space_has Tryz.func138 (by kernel_rfl) (by kernel_rfl) h
def W.num_Bytes (parts : Sl) (w : World) (Q : Value → World → Prop) : Prop := ∃ (I1 : Sl → Int → World → Prop) (μ2 : Sl → Int → World → Nat), I1 ⟨none, 0, 0⟩ 0 w ∧ ∀ (s3 : Sl) (n4 : Int) (w5 : World), I1 s3 n4 w5 → Br (decide (n4 <
 (parts.len:Int))) (∃ a6 : Addr, parts.a = some a6 ∧ bd n4 parts.len ∧ r1 w5 (a6.add (Int.toNat n4 * 1)) fun s7 => ∃ s8 : Sl, ∃ w9 : World, Sem.run Tryz.prog (Builtin.append_ #[Ty.Sl_uint8, Ty.Sl_uint8] Ty.Sl_uint8 #[.slice s3.a s3.len
 s3.cap, .slice s7.a s7.len s7.cap]) w5 = .ok (.slice s8.a s8.len s8.cap) w9 ∧ I1 s8 (wI (n4 + 1)) w9 ∧ μ2 s8 (wI (n4 + 1)) w9 < μ2 s3 n4 w5) (Q (.slice s3.a s3.len s3.cap) w5)
def A.num_Bytes : AT := (.s .r (.s .r (.s (.s .r (.blk (.loop [(3, .slice), (8, (.int .i64))] [6, 7] a2))) (.s .r .l))))
theorem W.num_Bytes_ok (parts : Sl) (w : World) (Q : Value → World → Prop) (h : W.num_Bytes parts w Q) : Ret Tryz.prog F.num_Bytes #[.slice parts.a parts.len parts.cap] w Q := okF A.num_Bytes Tryz.func141 (by kernel_rfl) (by kernel_rfl) h
def W.num_Put (b : Sl) (n : Int) (size : Int) (w : World) (Q : Value → World → Prop) : Prop := c12 F.slices_Clone_Sl_byte_byte #[.slice b.a b.len b.cap] w fun s3 w1 => c3 F.num_good #[.int .i64 size] w1 fun b6 w4 => Br (!b6) (Q (.slice s3.a
 s3.len s3.cap) w4) (∃ (I7 : Sl → Int → World → Prop) (μ8 : Sl → Int → World → Nat), I7 s3 (wI (size - 1)) w4 ∧ ∀ (s9 : Sl) (n10 : Int) (w11 : World), I7 s9 n10 w11 → Br (decide (n10 ≥ 0)) ((0 : Int) ≤ (wI (8 * n10)) ∧ Nx (w11.alloc (.cells
 #[.int .u8 (IntKind.wrap .u8 (Int.fdiv n (2 ^ (min (Int.toNat (wI (8 * n10))) 64))))] Ty.uint8)) fun w12 => ∃ s13 : Sl, ∃ w14 : World, Sem.run Tryz.prog (Builtin.append_ #[Ty.Sl_uint8, Ty.Sl_uint8] Ty.Sl_uint8 #[.slice s9.a s9.len s9.cap,
 .slice (some (nA w11)) 1 1]) w12 = .ok (.slice s13.a s13.len s13.cap) w14 ∧ I7 s13 (wI (n10 - 1)) w14 ∧ μ8 s13 (wI (n10 - 1)) w14 < μ8 s9 n10 w11) (Q (.slice s9.a s9.len s9.cap) w11))
def A.num_Put : AT := (.s .r (.s .r (.s a1 (.s (.s .r (.blk (.loop [(7, .slice), (8, (.int .i64))] [1] (.s (.s .r (.c .l .l)) (.s (.blk .r) .r))))) (.s .r .l)))))
theorem W.num_Put_ok (b : Sl) (n : Int) (size : Int) (w : World) (Q : Value → World → Prop) (h : W.num_Put b n size w Q) : Ret Tryz.prog F.num_Put #[.slice b.a b.len b.cap, .int .u64 n, .int .i64 size] w Q := okF A.num_Put Tryz.func142 (by kernel_rfl) (by kernel_rfl) h
def W.cache_Cache_Get (c : Option Addr) (no : Int) (w : World) (Q : Value → World → Prop) : Prop := c3 F.cache_Cache_has #[.pointer c, .int .i64 no] w fun b3 w1 => Br (!b3) (Q (.tuple #[.slice none 0 0, .int .i64 1]) w1) (c19
 F.cache_Cache_at #[.pointer c, .int .i64 no] w1 fun p6 w4 => Br (!(Option.isNone p6)) (∃ a7 : Addr, p6 = some a7 ∧ st w4 (a7.add 2) (.bool true) fun w8 => ∃ a9 : Addr, p6 = some a9 ∧ r1 w8 (a9.add 5) fun s10 => c12
 F.slices_Clone_Sl_byte_byte #[.slice s10.a s10.len s10.cap] w8 fun s13 w11 => Q (.tuple #[.slice s13.a s13.len s13.cap, .int .i64 0]) w11) (c20 F.cache_Cache_room #[.pointer c] w4 fun p16 n17 w14 => Br (n17 != 0) (Q (.tuple #[.slice none 0
 0, .int .i64 n17]) w14) (∃ a18 : Addr, c = some a18 ∧ ∃ p19 : Option Addr, w14.cell? a18 = some (.pointer p19) ∧ c4 F.dev_Device_Read #[.pointer p19, .int .i64 no] w14 fun s22 n23 w20 => Br (n23 != 0) (Q (.tuple #[.slice none 0 0, .int .i64
 n23]) w20) (∃ a24 : Addr, p16 = some a24 ∧ StoreOk w20 a24 [.bool true, .bool false, .bool true, .int .i64 no, .int .i64 0, .slice s22.a s22.len s22.cap] ∧ (6 : Nat) = 6 ∧ Nx (setCells w20 a24 0 [.bool true, .bool false, .bool true, .int
 .i64 no, .int .i64 0, .slice s22.a s22.len s22.cap]) fun w25 => c12 F.slices_Clone_Sl_byte_byte #[.slice s22.a s22.len s22.cap] w25 fun s28 w26 => Q (.tuple #[.slice s28.a s28.len s28.cap, .int .i64 0]) w26))))
def A.cache_Cache_Get : AT := (.s .r (.s a1 (.s (.s .r (.s .r a6)) (.s .r (.s a1 (.s .r a12))))))
theorem W.cache_Cache_Get_ok (c : Option Addr) (no : Int) (w : World) (Q : Value → World → Prop) (h : W.cache_Cache_Get c no w Q) : Ret Tryz.prog F.cache_Cache_Get #[.pointer c, .int .i64 no] w Q := okF A.cache_Cache_Get Tryz.func145 (by kernel_rfl) (by kernel_rfl) h
def W.node_sound_1 (v : Sl) (w : World) (Q : Value → World → Prop) : Prop := Q (.bool (decide ((v.len:Int) > 24))) w
def A.node_sound_1 : AT := (.s .r (.s .r .l))
theorem W.node_sound_1_ok (v : Sl) (w : World) (Q : Value → World → Prop) (h : W.node_sound_1 v w Q) : Ret Tryz.prog F.node_sound_1 #[.slice v.a v.len v.cap] w Q := okF A.node_sound_1 Tryz.func147 (by kernel_rfl) (by kernel_rfl) h
def W.node_sound_2 (v_k : Int) (w : World) (Q : Value → World → Prop) : Prop := Q (.bool ((decide (v_k < 0)) || (decide (v_k ≥ 1600)))) w
def A.node_sound_2 : AT := a3
theorem W.node_sound_2_ok (v_k : Int) (w : World) (Q : Value → World → Prop) (h : W.node_sound_2 v_k w Q) : Ret Tryz.prog F.node_sound_2 #[.int .i64 v_k] w Q := okF A.node_sound_2 Tryz.func149 (by kernel_rfl) (by kernel_rfl) h
def W.space_Space_Fresh (s : Option Addr) (no : Int) (w : World) (Q : Value → World → Prop) : Prop := c3 F.space_Space_has #[.pointer s, .int .i64 no] w fun b3 w1 => Jn (fun k4 : Bool → World → Prop => Br b3 (∃ a5 : Addr, s = some a5 ∧ r1
 w1 (a5.add 1) fun s6 => c3 F.space_set_has #[.slice s6.a s6.len s6.cap, .int .i64 no] w1 fun b9 w7 => k4 b9 w7) (k4 false w1)) (fun (b10 : Bool) w11 => Jn (fun k12 : Bool → World → Prop => Br b10 (∃ a13 : Addr, s = some a13 ∧ r1 w11
 (a13.add 2) fun s14 => c3 F.space_set_has #[.slice s14.a s14.len s14.cap, .int .i64 no] w11 fun b17 w15 => k12 (!b17) w15) (k12 false w11)) (fun (b18 : Bool) w19 => Q (.bool b18) w19))
def A.space_Space_Fresh : AT := (.s .r (.s (.reg [.run, .run, .run, .run, .split 6, .run, .run, .run, .run, .run, .run, .run, .split 7]) .l))
theorem W.space_Space_Fresh_ok (s : Option Addr) (no : Int) (w : World) (Q : Value → World → Prop) (h : W.space_Space_Fresh s no w Q) : Ret Tryz.prog F.space_Space_Fresh #[.pointer s, .int .i64 no] w Q := okF A.space_Space_Fresh Tryz.func152 (by kernel_rfl) (by kernel_rfl) h
def W.space_Space_Free (s : Option Addr) (no : Int) (w : World) (Q : Value → World → Prop) : Prop := c3 F.space_Space_has #[.pointer s, .int .i64 no] w fun b3 w1 => Br (!b3) (Q (.int .i64 1) w1) (∃ a4 : Addr, s = some a4 ∧ r1 w1 (a4.add 1)
 fun s5 => c3 F.space_set_has #[.slice s5.a s5.len s5.cap, .int .i64 no] w1 fun b8 w6 => Br (!b8) (Q (.int .i64 6) w6) (∃ a9 : Addr, s = some a9 ∧ r1 w6 (a9.add 1) fun s10 => c1 F.space_set_take #[.slice s10.a s10.len s10.cap, .int .i64 no]
 w6 fun w11 => Q (.int .i64 0) w11))
def A.space_Space_Free : AT := a13
theorem W.space_Space_Free_ok (s : Option Addr) (no : Int) (w : World) (Q : Value → World → Prop) (h : W.space_Space_Free s no w Q) : Ret Tryz.prog F.space_Space_Free #[.pointer s, .int .i64 no] w Q := okF A.space_Space_Free Tryz.func153 (by kernel_rfl) (by kernel_rfl) h
def W.cache_Cache_Drop (c : Option Addr) (no : Int) (w : World) (Q : Value → World → Prop) : Prop := c19 F.cache_Cache_at #[.pointer c, .int .i64 no] w fun p3 w1 => Jn (fun k4 : Bool → World → Prop => Br (Option.isNone p3) (k4 true w1) (∃
 a5 : Addr, p3 = some a5 ∧ r2 w1 (a5.add 4) fun n6 => k4 (decide (n6 > 0)) w1)) (fun (b7 : Bool) w8 => Br b7 (Q (.bool false) w8) (∃ a9 : Addr, p3 = some a9 ∧ StoreOk w8 a9 [.bool false, .bool false, .bool false, .int .i64 0, .int .i64 0,
 .slice none 0 0] ∧ (6 : Nat) = 6 ∧ Nx (setCells w8 a9 0 [.bool false, .bool false, .bool false, .int .i64 0, .int .i64 0, .slice none 0 0]) fun w10 => Q (.bool true) w10))
def A.cache_Cache_Drop : AT := (.s .r (.s .r (.s (.s (.reg [.run, .run, .run, .split 5]) (.c (.s .r .l) .l)) (.s .r (.s .r .l)))))
theorem W.cache_Cache_Drop_ok (c : Option Addr) (no : Int) (w : World) (Q : Value → World → Prop) (h : W.cache_Cache_Drop c no w Q) : Ret Tryz.prog F.cache_Cache_Drop #[.pointer c, .int .i64 no] w Q := okF A.cache_Cache_Drop Tryz.func154 (by kernel_rfl) (by kernel_rfl) h
def W.tree_last (n_Leaf : Bool) (n_Keys : Sl) (n_Vals : Sl) (n_Kids : Sl) (height : Int) (w : World) (Q : Value → World → Prop) : Prop := Nx (w.alloc (.cells #[.bool n_Leaf, .slice n_Keys.a n_Keys.len n_Keys.cap, .slice n_Vals.a n_Vals.len
 n_Vals.cap, .slice n_Kids.a n_Kids.len n_Kids.cap] Ty.api_Node)) fun w1 => r3 w1 (nA w) fun b2 => Br b2 (Q (.tuple #[.int .i64 0, .int .i64 0, .int .i64 0]) w1) (r1 w1 (Addr.add (nA w) 3) fun s3 => ∃ a4 : Addr, s3.a = some a4 ∧ bd 0 s3.len
 ∧ r2 w1 (a4.add (Int.toNat 0 * 1)) fun n5 => Q (.tuple #[.int .i64 n5, .int .i64 (wI (height - 1)), .int .i64 0]) w1)
def A.tree_last : AT := a10
theorem W.tree_last_ok (n_Leaf : Bool) (n_Keys : Sl) (n_Vals : Sl) (n_Kids : Sl) (height : Int) (w : World) (Q : Value → World → Prop) (h : W.tree_last n_Leaf n_Keys n_Vals n_Kids height w Q) : Ret Tryz.prog F.tree_last #[.agg #[.bool n_Leaf, .slice n_Keys.a n_Keys.len n_Keys.cap, .slice n_Vals.a n_Vals.len n_Vals.cap, .slice n_Kids.a n_Kids.len n_Kids.cap], .int .i64 height] w Q := okF A.tree_last Tryz.func155 (by kernel_rfl) (by kernel_rfl) h
def W.tree_change_lays (c : Option Addr) (n_Leaf : Bool) (n_Keys : Sl) (n_Vals : Sl) (n_Kids : Sl) (up : Option Addr) (w : World) (Q : Value → World → Prop) : Prop := Nx (w.alloc (.cells #[.bool n_Leaf, .slice n_Keys.a n_Keys.len
 n_Keys.cap, .slice n_Vals.a n_Vals.len n_Vals.cap, .slice n_Kids.a n_Kids.len n_Kids.cap] Ty.api_Node)) fun w1 => Jn (fun k2 : Bool → World → Prop => Br (Option.isNone up) (k2 true w1) (r3 w1 (nA w) fun b3 => r1 w1 (Addr.add (nA w) 1) fun
 s4 => r1 w1 (Addr.add (nA w) 2) fun s5 => r1 w1 (Addr.add (nA w) 3) fun s6 => c2 F.node_Size #[.agg #[.bool b3, .slice s4.a s4.len s4.cap, .slice s5.a s5.len s5.cap, .slice s6.a s6.len s6.cap]] w1 fun n9 w7 => k2 (decide (n9 ≥ 80)) w7))
 (fun (b10 : Bool) w11 => Br b10 (Jn (fun k12 : Int → Int → World → Prop => Br (!(Option.isNone up)) (Nx (w11.drew) fun w13 => ∃ a14 : Addr, up = some a14 ∧ ¬ False ∧ r2 w13 (a14.add 5) fun n15 => ∃ a16 : Addr, up = some a16 ∧ ¬ False ∧ r2
 w13 (a16.add 5) fun n17 => k12 n15 (wI (n17 + 1)) w13) (k12 0 0 w11)) (fun (n18 : Int) (n19 : Int) w20 => r3 w20 (nA w) fun b21 => r1 w20 (Addr.add (nA w) 1) fun s22 => r1 w20 (Addr.add (nA w) 2) fun s23 => r1 w20 (Addr.add (nA w) 3) fun
 s24 => c4 F.tree_change_fits #[.pointer c, .agg #[.bool b21, .slice s22.a s22.len s22.cap, .slice s23.a s23.len s23.cap, .slice s24.a s24.len s24.cap]] w20 fun s27 n28 w25 => Q (.tuple #[.slice s27.a s27.len s27.cap, .int .i64 n18, .int
 .i64 n19, .int .i64 n28]) w25)) (∃ a29 : Addr, up = some a29 ∧ r2 w11 (a29.add 5) fun n30 => ∃ n31 : Int, ∃ w32 : World, Sem.run Tryz.prog (Builtin.max_ #[Ty.int, Ty.int] Ty.int #[.int .i64 (wI (n30 - 1)), .int .i64 0]) w11 = .ok (.int .i64
 n31) w32 ∧ Jn (fun k33 : Int → World → Prop => ∃ a34 : Addr, up = some a34 ∧ r2 w32 (a34.add 5) fun n35 => Br (n35 == 0) (k33 1 w32) (k33 n31 w32)) (fun (n36 : Int) w37 => ∃ a38 : Addr, up = some a38 ∧ r1 w37 ((a38.add 1).add 3) fun s39 =>
 ∃ a40 : Addr, s39.a = some a40 ∧ bd n36 s39.len ∧ r2 w37 (a40.add (Int.toNat n36 * 1)) fun n41 => Nx (w37.drew) fun w42 => ∃ W43 : Nat → Prop, ∃ a44 : Addr, c = some a44 ∧ ¬ W43 a44.block ∧ ∃ p45 : Option Addr, w42.cell? a44 = some
 (.pointer p45) ∧ ¬ W43 ((nA w) : Addr).block ∧ r3 w42 (nA w) fun b46 => (c9 F.tree_Tree_read #[.pointer p45, .int .i64 n41, .bool b46] w42 fun b49 s50 s51 s52 n53 w47 => Chg W43 w42 w47 ∧ Nx (w47.alloc z1) fun w54 => Chg W43 w47 w54 ∧ T19
 w54 w47 b49 s50 s51 s52 n53 Q c n41 w up n36 n31) ∧ (Nx (w42.alloc z1) fun w209 => Chg W43 w42 w209 ∧ c9 F.tree_Tree_read #[.pointer p45, .int .i64 n41, .bool b46] w209 fun b212 s213 s214 s215 n216 w210 => T19 w210 w42 b212 s213 s214 s215
 n216 Q c n41 w up n36 n31))))
def A.tree_change_lays : AT := (.s .r (.s (.s (.reg [.run, .run, .run, .split 3]) (.c (.s (.jk [(7, (.int .i64)), (8, (.int .i64))] [0, 4] (.s .r (.c (.drw 10 false ⟨[0, 1, 2, 4, 0, 16, 32, 64, 128, 15, 1023], [0, 1, 2, 4, 0, 16, 32, 64,
 128, 8, 256]⟩ [67108864, 134217728, 268435456, 536870912, 1073741824, 2147483648, 4294967296, 8589934592, 17179869184, 128, 256] [4, 67108864, 134217728, 268435456, 4, 1073741824, 2147483648, 4294967296, 8589934592, 536870912, 17179869184]
 (.take 0 (.take 1 (.take 2 (.take 3 (.take 4 (.take 5 (.take 6 (.take 7 (.take 8 (.take 9 (.tail [.run])))))))))))) .l))) (.s .r (.s .r .l))) .l)) (.s .r (.s .r (.s (.jk [(10, (.int .i64))] [0, 2, 4, 7] (.s .r (.c .r .l))) (.s .r (.s (.drw
 13 true ⟨[0, 1, 2, 4, 0, 0, 32, 88, 128, 256, 256, 0, 3071, 8191], [0, 1, 2, 4, 0, 0, 32, 88, 128, 256, 256, 0, 2560, 1024]⟩ [73786976294838206464, 147573952589676412928, 295147905179352825856, 590295810358705651712, 1180591620717411303424,
 2361183241434822606848, 4722366482869645213696, 9444732965739290427392, 36893488147419103232, 18889465931478580854784, 37778931862957161709568, 4096, 0, 512] [1, 73786976294838206464, 147573952589676412928, 295147905179352825856, 2048, 16,
 2361183241434822606848, 6493253913945762168832, 9444732965739290427392, 36893488147419103232, 36893488147419103232, 0, 18889465931478580858880, 37778931862957161709568] (.take 0 (.take 1 (.take 2 (.take 3 (.take 4 (.take 5 (.take 6 (.two 7
 (.take 8 (.take 9 (.take 10 (.eff 11 (.out 12 false (.tail [.run])))))) 11 (.out 7 false (.take 8 (.take 9 (.take 10 (.out 12 false (.tail [.run]))))))))))))))) (.s a1 (.s .r (.s (.drw 5 true ⟨[0, 0, 0, 0, 13, 31], [0, 0, 0, 0, 5, 10]⟩
 [618970019642690137449562112, 1237940039285380274899124224, 8192, 16384, 0, 0] [4096, 16, 0, 0, 618970019642690137449570304, 1237940039285380274899140608] (.take 0 (.take 1 (.two 2 (.eff 3 (.eff 4 (.tail [.run]))) 3 (.eff 2 (.eff 4 (.tail
 [.run]))))))) (.s (.jk [] [0, 2, 7, 13, 14] (.s .r (.c (.drw 3 true ⟨[0, 0, 1, 7], [0, 0, 1, 2]⟩ [158456325028528675187087900672, 316912650057057350374175801344, 0, 0] [16, 4096, 158456325028528675187087908864,
 316912650057057350374175817728] (.take 0 (.take 1 (.eff 2 (.tail [.run]))))) .l))) (.s (.drw 16 true ⟨[0, 0, 2, 4, 8, 16, 0, 96, 128, 0, 769, 1024, 2048, 2048, 0, 24575, 65535], [0, 0, 2, 4, 8, 16, 0, 96, 128, 0, 769, 1024, 2048, 2048, 0,
 20480, 8192]⟩ [1267650600228229401496703205376, 2535301200456458802993406410752, 5070602400912917605986812821504, 10141204801825835211973625643008, 20282409603651670423947251286016, 40564819207303340847894502572032,
 81129638414606681695789005144064, 162259276829213363391578010288128, 324518553658426726783156020576256, 649037107316853453566312041152512, 1298074214633706907132624082305024, 633825300114114700748351602688,
 2596148429267413814265248164610048, 5192296858534827628530496329220096, 32768, 0, 65536] [8192, 4, 2535301200456458802993406410752, 5070602400912917605986812821504, 10141204801825835211973625643008, 20282409603651670423947251286016, 128,
 121694457621910022543683507716096, 162259276829213363391578010288128, 16384, 974823311575508409750964764934144, 1298074214633706907132624082305024, 633825300114114700748351602688, 633825300114114700748351602688, 0,
 2596148429267413814265248164642816, 5192296858534827628530496329220096] (.take 0 (.take 1 (.take 2 (.take 3 (.take 4 (.take 5 (.take 6 (.take 7 (.take 8 (.take 9 (.two 10 (.take 11 (.take 12 (.take 13 (.eff 14 (.out 15 false (.tail
 [.run])))))) 14 (.eff 10 (.take 11 (.take 12 (.take 13 (.out 15 false (.tail [.run])))))))))))))))))) a12))))))))))))
theorem W.tree_change_lays_ok (c : Option Addr) (n_Leaf : Bool) (n_Keys : Sl) (n_Vals : Sl) (n_Kids : Sl) (up : Option Addr) (w : World) (Q : Value → World → Prop) (h : W.tree_change_lays c n_Leaf n_Keys n_Vals n_Kids up w Q) : Ret Tryz.prog F.tree_change_lays #[.pointer c, .agg #[.bool n_Leaf, .slice n_Keys.a n_Keys.len n_Keys.cap, .slice n_Vals.a n_Vals.len n_Vals.cap, .slice n_Kids.a n_Kids.len n_Kids.cap], .pointer up] w Q := okF A.tree_change_lays Tryz.func156 (by kernel_rfl) (by kernel_rfl) h
def W.tree_change_top (c : Option Addr) (l : Sl) (w : World) (Q : Value → World → Prop) : Prop := Br ((l.len:Int) == 1) (Nx (w.drew) fun w1 => ∃ a2 : Addr, l.a = some a2 ∧ bd 0 l.len ∧ ¬ False ∧ r2 w1 ((a2.add (Int.toNat 0 * 2)).add 1) fun
 n3 => ∃ a4 : Addr, c = some a4 ∧ ¬ False ∧ ∃ p5 : Option Addr, w1.cell? a4 = some (.pointer p5) ∧ ∃ a6 : Addr, p5 = some a6 ∧ ¬ False ∧ r2 w1 (a6.add 4) fun n7 => Q (.tuple #[.int .i64 n3, .int .i64 n7, .int .i64 0]) w1) (∃ a8 : Addr, c =
 some a8 ∧ ∃ p9 : Option Addr, w.cell? a8 = some (.pointer p9) ∧ ∃ a10 : Addr, p9 = some a10 ∧ r2 w (a10.add 4) fun n11 => Br (n11 == 12) (Q (.tuple #[.int .i64 0, .int .i64 0, .int .i64 2]) w) (Jn (fun k12 : Int → Int → World → Prop => Nx
 (w.drew) fun w13 => ∃ W14 : Nat → Prop, ∃ a15 : Addr, l.a = some a15 ∧ bd 1 l.len ∧ ¬ W14 (a15.add (Int.toNat 1 * 2)).block ∧ r1 w13 (a15.add (Int.toNat 1 * 2)) fun s16 => ∃ a17 : Addr, l.a = some a17 ∧ bd 0 l.len ∧ ¬ W14 ((a17.add
 (Int.toNat 0 * 2)).add 1).block ∧ r2 w13 ((a17.add (Int.toNat 0 * 2)).add 1) fun n18 => ∃ a19 : Addr, l.a = some a19 ∧ bd 1 l.len ∧ ¬ W14 ((a19.add (Int.toNat 1 * 2)).add 1).block ∧ r2 w13 ((a19.add (Int.toNat 1 * 2)).add 1) fun n20 => (Nx
 (w13.alloc (.cells #[.slice s16.a s16.len s16.cap] Ty.Sl_uint8)) fun w21 => Chg W14 w13 w21 ∧ Nx (w21.alloc (.cells #[.int .i64 n18, .int .i64 n20] Ty.int)) fun w22 => Chg W14 w21 w22 ∧ ∃ c23 : Array Value, (∀ w24 : World, Sem.run Tryz.prog
 (Instr.build Ty.api_Node #[(1, .slice (some (nA w13)) 1 1), (3, .slice (some (nA w21)) 2 2)]) w24 = .ok (.agg c23) w24) ∧ c21 F.tree_change_put #[.pointer c, .agg c23] w22 fun n27 n28 w25 => Chg W14 w22 w25 ∧ k12 n27 n28 w25) ∧ (Nx
 (w13.alloc (.cells #[.int .i64 n18, .int .i64 n20] Ty.int)) fun w29 => Chg W14 w13 w29 ∧ Nx (w29.alloc (.cells #[.slice s16.a s16.len s16.cap] Ty.Sl_uint8)) fun w30 => Chg W14 w29 w30 ∧ ∃ c31 : Array Value, (∀ w32 : World, Sem.run Tryz.prog
 (Instr.build Ty.api_Node #[(1, .slice (some (nA w29)) 1 1), (3, .slice (some (nA w13)) 2 2)]) w32 = .ok (.agg c31) w32) ∧ c21 F.tree_change_put #[.pointer c, .agg c31] w30 fun n35 n36 w33 => Chg W14 w30 w33 ∧ k12 n35 n36 w33)) (fun (n37 :
 Int) (n38 : Int) w39 => Nx (w39.drew) fun w40 => ∃ a41 : Addr, c = some a41 ∧ ¬ False ∧ ∃ p42 : Option Addr, w40.cell? a41 = some (.pointer p42) ∧ ∃ a43 : Addr, p42 = some a43 ∧ ¬ False ∧ r2 w40 (a43.add 4) fun n44 => Q (.tuple #[.int .i64
 n37, .int .i64 (wI (n44 + 1)), .int .i64 n38]) w40)))
def A.tree_change_top : AT := (.s .r (.s (.s .r (.c (.s (.drw 12 false ⟨[0, 1, 2, 4, 0, 16, 32, 64, 128, 256, 512, 15, 4095, 8191], [0, 1, 2, 4, 0, 16, 32, 64, 128, 256, 512, 8, 1024, 0]⟩ [4096, 8192, 16384, 32768, 65536, 131072, 262144,
 524288, 1048576, 2097152, 4194304, 16, 32, 64] [2, 4096, 8192, 16384, 1, 65536, 131072, 262144, 524288, 1048576, 2097152, 32768, 4194304, 0] (.take 0 (.take 1 (.take 2 (.take 3 (.take 4 (.take 5 (.take 6 (.take 7 (.take 8 (.take 9 (.take 10
 (.take 11 (.tail [.run, .run])))))))))))))) .l) .l)) (.s a1 (.s (.jk [(7, (.int .i64)), (8, (.int .i64))] [0] (.drw 21 true ⟨[0, 0, 2, 4, 8, 16, 0, 64, 128, 256, 0, 1024, 2048, 4096, 8704, 16416, 32769, 65536, 131072, 131072, 524287,
 2097151], [0, 0, 2, 4, 8, 16, 0, 64, 128, 256, 0, 1024, 2048, 4096, 8704, 16416, 32769, 65536, 131072, 131072, 262144, 524288]⟩ [4294967296, 8589934592, 17179869184, 34359738368, 68719476736, 137438953472, 274877906944, 549755813888,
 1099511627776, 2199023255552, 4398046511104, 8796093022208, 17592186044416, 35184372088832, 70368744177664, 140737488355328, 281474976710656, 2147483648, 562949953421312, 1125899906842624, 128, 256] [1, 2, 8589934592, 17179869184,
 34359738368, 68719476736, 2, 274877906944, 549755813888, 1099511627776, 2, 4398046511104, 8796093022208, 17592186044416, 37383395344384, 70506183131136, 140741783322624, 281474976710656, 2147483648, 2147483648, 562949953421312,
 1125899906842624] (.take 0 (.take 1 (.take 2 (.take 3 (.take 4 (.take 6 (.take 7 (.take 8 (.take 9 (.take 10 (.take 11 (.take 12 (.take 13 (.two 5 (.eff 14 (.take 15 (.eff 16 (.take 17 (.take 18 (.take 19 (.take 20 (.tail [.run])))))))) 14
 (.eff 5 (.take 15 (.eff 16 (.take 17 (.take 18 (.take 19 (.take 20 (.tail [.run])))))))))))))))))))))))) (.s (.drw 12 false ⟨[0, 0, 2, 4, 8, 16, 32, 64, 128, 0, 1, 1535, 4095], [0, 0, 2, 4, 8, 16, 32, 64, 128, 0, 1, 256, 512]⟩
 [2251799813685248, 4503599627370496, 9007199254740992, 18014398509481984, 36028797018963968, 72057594037927936, 144115188075855872, 288230376151711744, 576460752303423488, 1152921504606846976, 16, 32, 64] [128, 1, 4503599627370496,
 9007199254740992, 18014398509481984, 36028797018963968, 72057594037927936, 144115188075855872, 288230376151711744, 256, 2251799813685248, 576460752303423488, 1152921504606846976] (.take 0 (.take 1 (.take 2 (.take 3 (.take 4 (.take 5 (.take
 6 (.take 7 (.take 8 (.take 9 (.take 10 (.take 11 (.tail [.run])))))))))))))) .l)))))
theorem W.tree_change_top_ok (c : Option Addr) (l : Sl) (w : World) (Q : Value → World → Prop) (h : W.tree_change_top c l w Q) : Ret Tryz.prog F.tree_change_top #[.pointer c, .slice l.a l.len l.cap] w Q := okF A.tree_change_top Tryz.func157 (by kernel_rfl) (by kernel_rfl) h
end Go.Proofs.YtplieiecebljmaaGreat
namespace Go.Proofs.YtplieiecebljmaaGreat
open Go Gx
set_option maxRecDepth 100000
def W.tree_changed (n_Leaf : Bool) (n_Keys : Sl) (n_Vals : Sl) (n_Kids : Sl) (v_from : Int) (to : Int) (l : Sl) (w : World) (Q : Value → World → Prop) : Prop := Nx (w.alloc (.cells #[.bool n_Leaf, .slice n_Keys.a n_Keys.len n_Keys.cap,
 .slice n_Vals.a n_Vals.len n_Vals.cap, .slice n_Kids.a n_Kids.len n_Kids.cap] Ty.api_Node)) fun w1 => Nx (w1.alloc z1) fun w2 => Nx (w2.drew) fun w3 => ∃ W4 : Nat → Prop, ¬ W4 (Addr.add (nA w) 1).block ∧ r1 w3 (Addr.add (nA w) 1) fun s5 =>
 ((0 : Int) ≤ v_from ∧ v_from ≤ ((s5.cap : Nat) : Int)) ∧ ¬ W4 (Addr.add (nA w) 3).block ∧ r1 w3 (Addr.add (nA w) 3) fun s6 => ((0 : Int) ≤ v_from ∧ v_from ≤ ((s6.cap : Nat) : Int)) ∧ (c12 F.slices_Clone_Sl_Sl_byte_Sl_byte #[.slice (cutA
 s5.a 1 0 s5.cap) ((Int.toNat v_from) - 0) (s5.cap - 0)] w3 fun s9 w7 => Chg W4 w3 w7 ∧ (c12 F.slices_Clone_Sl_int_int #[.slice (cutA s6.a 1 0 s6.cap) ((Int.toNat v_from) - 0) (s6.cap - 0)] w7 fun s12 w10 => Chg W4 w7 w10 ∧ ∃ c13 : Array
 Value, (∀ w14 : World, Sem.run Tryz.prog (Instr.build Ty.api_Node #[(1, .slice s9.a s9.len s9.cap), (3, .slice s12.a s12.len s12.cap)]) w14 = .ok (.agg c13) w14) ∧ Nx (w10.alloc z1) fun w15 => Chg W4 w10 w15 ∧ T4 w15 w10 c13 l w to w1 Q) ∧
 (Nx (w7.alloc z1) fun w62 => Chg W4 w7 w62 ∧ c12 F.slices_Clone_Sl_int_int #[.slice (cutA s6.a 1 0 s6.cap) ((Int.toNat v_from) - 0) (s6.cap - 0)] w62 fun s65 w63 => Chg W4 w62 w63 ∧ ∃ c66 : Array Value, (∀ w67 : World, Sem.run Tryz.prog
 (Instr.build Ty.api_Node #[(1, .slice s9.a s9.len s9.cap), (3, .slice s65.a s65.len s65.cap)]) w67 = .ok (.agg c66) w67) ∧ T4 w63 w7 c66 l w to w1 Q)) ∧ (Nx (w3.alloc z1) fun w114 => Chg W4 w3 w114 ∧ c12 F.slices_Clone_Sl_Sl_byte_Sl_byte
 #[.slice (cutA s5.a 1 0 s5.cap) ((Int.toNat v_from) - 0) (s5.cap - 0)] w114 fun s117 w115 => Chg W4 w114 w115 ∧ c12 F.slices_Clone_Sl_int_int #[.slice (cutA s6.a 1 0 s6.cap) ((Int.toNat v_from) - 0) (s6.cap - 0)] w115 fun s120 w118 => Chg
 W4 w115 w118 ∧ ∃ c121 : Array Value, (∀ w122 : World, Sem.run Tryz.prog (Instr.build Ty.api_Node #[(1, .slice s117.a s117.len s117.cap), (3, .slice s120.a s120.len s120.cap)]) w122 = .ok (.agg c121) w122) ∧ T4 w118 w3 c121 l w to w1 Q)
def A.tree_changed : AT := (.s .r (.s (.drw 12 true ⟨[0, 1, 0, 6, 8, 0, 32, 0, 192, 272, 528, 0, 4095], [0, 1, 0, 6, 8, 0, 32, 0, 192, 256, 528, 0, 3072]⟩ [4096, 8192, 16384, 32768, 65536, 131072, 262144, 524288, 1048576, 2097152, 4194304,
 512, 0] [16, 4096, 2, 24576, 32768, 16, 131072, 2, 786432, 1048576, 2162688, 0, 4194816] (.take 0 (.take 1 (.take 2 (.take 3 (.take 5 (.take 6 (.take 7 (.take 8 (.two 4 (.two 9 (.take 10 (.eff 11 (.tail [.run]))) 11 (.eff 9 (.take 10 (.tail
 [.run])))) 11 (.eff 4 (.eff 9 (.take 10 (.tail [.run])))))))))))))) (.s (.s .r (.blk (.loop [(25, (.int .i64))] [2, 4, 8, 9, 23, 24] (.s .r (.s (.c .l .l) (.s (.blk (.s .r (.s (.jk [] [2, 4, 8, 9, 11, 23, 24, 25] (.s .r (.c .r .l))) .r)))
 .r)))))) (.s (.drw 7 false ⟨[0, 1, 0, 4, 0, 16, 40, 66, 255, 511], [0, 1, 0, 4, 0, 16, 40, 66, 0, 384]⟩ [140737488355328, 281474976710656, 562949953421312, 1125899906842624, 2251799813685248, 4503599627370496, 9007199254740992,
 18014398509481984, 36028797018963968, 0] [512, 140737488355328, 16, 562949953421312, 4, 2251799813685248, 5629499534213120, 9288674231451648, 512, 54043195528445952] (.take 0 (.take 1 (.take 2 (.take 3 (.take 4 (.take 5 (.take 6 (.tail
 [.run, .run, .run]))))))))) (.s (.drw 6 false ⟨[0, 1, 0, 4, 0, 24, 34, 127, 255], [0, 1, 0, 4, 0, 24, 34, 0, 192]⟩ [72057594037927936, 144115188075855872, 288230376151711744, 576460752303423488, 1152921504606846976, 2305843009213693952,
 4611686018427387904, 9223372036854775808, 0] [512, 72057594037927936, 16, 288230376151711744, 4, 1729382256910270464, 2449958197289549824, 512, 13835058055282163712] (.take 0 (.take 1 (.take 2 (.take 3 (.take 4 (.take 5 (.tail [.run, .run,
 .run])))))))) (.s .r .l))))))
theorem W.tree_changed_ok (n_Leaf : Bool) (n_Keys : Sl) (n_Vals : Sl) (n_Kids : Sl) (v_from : Int) (to : Int) (l : Sl) (w : World) (Q : Value → World → Prop) (h : W.tree_changed n_Leaf n_Keys n_Vals n_Kids v_from to l w Q) : Ret Tryz.prog F.tree_changed #[.agg #[.bool n_Leaf, .slice n_Keys.a n_Keys.len n_Keys.cap, .slice n_Vals.a n_Vals.len n_Vals.cap, .slice n_Kids.a n_Kids.len n_Kids.cap], .int .i64 v_from, .int .i64 to, .slice l.a l.len l.cap] w Q := okF A.tree_changed Tryz.func158 (by kernel_rfl) (by kernel_rfl) h
def W.tree_change_one (c : Option Addr) (n_Leaf : Bool) (n_Keys : Sl) (n_Vals : Sl) (n_Kids : Sl) (w : World) (Q : Value → World → Prop) : Prop := Nx (w.alloc (.cells #[.bool n_Leaf, .slice n_Keys.a n_Keys.len n_Keys.cap, .slice n_Vals.a
 n_Vals.len n_Vals.cap, .slice n_Kids.a n_Kids.len n_Kids.cap] Ty.api_Node)) fun w1 => r3 w1 (nA w) fun b2 => r1 w1 (Addr.add (nA w) 1) fun s3 => r1 w1 (Addr.add (nA w) 2) fun s4 => r1 w1 (Addr.add (nA w) 3) fun s5 => c21 F.tree_change_put
 #[.pointer c, .agg #[.bool b2, .slice s3.a s3.len s3.cap, .slice s4.a s4.len s4.cap, .slice s5.a s5.len s5.cap]] w1 fun n8 n9 w6 => ∃ s10 : Sl, ∃ w11 : World, Sem.run Tryz.prog (Instr.buildSlice Ty.Sl_tree_piece 1 #[(0, .agg #[.slice none 0
 0, .int .i64 n8])]) w6 = .ok (.slice s10.a s10.len s10.cap) w11 ∧ Q (.tuple #[.slice s10.a s10.len s10.cap, .int .i64 n9]) w11
def A.tree_change_one : AT := a4
theorem W.tree_change_one_ok (c : Option Addr) (n_Leaf : Bool) (n_Keys : Sl) (n_Vals : Sl) (n_Kids : Sl) (w : World) (Q : Value → World → Prop) (h : W.tree_change_one c n_Leaf n_Keys n_Vals n_Kids w Q) : Ret Tryz.prog F.tree_change_one #[.pointer c, .agg #[.bool n_Leaf, .slice n_Keys.a n_Keys.len n_Keys.cap, .slice n_Vals.a n_Vals.len n_Vals.cap, .slice n_Kids.a n_Kids.len n_Kids.cap]] w Q := okF A.tree_change_one Tryz.func159 (by kernel_rfl) (by kernel_rfl) h
def W.node_reader_number (r : Option Addr) (size : Int) (w : World) (Q : Value → World → Prop) : Prop := c12 F.node_reader_take #[.pointer r, .int .i64 size] w fun s3 w1 => c18 F.num_Get #[.slice s3.a s3.len s3.cap, .int .i64 0, .int .i64
 size] w1 fun n6 b7 w4 => Q (.int .i64 (wI n6)) w4
def A.node_reader_number : AT := a4
theorem W.node_reader_number_ok (r : Option Addr) (size : Int) (w : World) (Q : Value → World → Prop) (h : W.node_reader_number r size w Q) : Ret Tryz.prog F.node_reader_number #[.pointer r, .int .i64 size] w Q := okF A.node_reader_number Tryz.func164 (by kernel_rfl) (by kernel_rfl) h
def W.node_reader_text (r : Option Addr) (w : World) (Q : Value → World → Prop) : Prop := c2 F.node_reader_number #[.pointer r, .int .i64 1] w fun n3 w1 => c12 F.node_reader_take #[.pointer r, .int .i64 n3] w1 fun s6 w4 => Q (.slice s6.a
 s6.len s6.cap) w4
def A.node_reader_text : AT := (.s .r (.s .r .l))
theorem W.node_reader_text_ok (r : Option Addr) (w : World) (Q : Value → World → Prop) (h : W.node_reader_text r w Q) : Ret Tryz.prog F.node_reader_text #[.pointer r] w Q := okF A.node_reader_text Tryz.func165 (by kernel_rfl) (by kernel_rfl) h
def W.node_encode (n_Leaf : Bool) (n_Keys : Sl) (n_Vals : Sl) (n_Kids : Sl) (w : World) (Q : Value → World → Prop) : Prop := Nx (w.alloc (.cells #[.bool n_Leaf, .slice n_Keys.a n_Keys.len n_Keys.cap, .slice n_Vals.a n_Vals.len n_Vals.cap,
 .slice n_Kids.a n_Kids.len n_Kids.cap] Ty.api_Node)) fun w1 => r3 w1 (nA w) fun b2 => r1 w1 (Addr.add (nA w) 1) fun s3 => r1 w1 (Addr.add (nA w) 2) fun s4 => r1 w1 (Addr.add (nA w) 3) fun s5 => c3 F.node_sound #[.agg #[.bool b2, .slice s3.a
 s3.len s3.cap, .slice s4.a s4.len s4.cap, .slice s5.a s5.len s5.cap]] w1 fun b8 w6 => Jn (fun k9 : Bool → World → Prop => Br (!b8) (k9 true w6) (r1 w6 (Addr.add (nA w) 1) fun s10 => k9 (decide ((s10.len:Int) > 255)) w6)) (fun (b11 : Bool)
 w12 => Br b11 (Q (.tuple #[.slice none 0 0, .int .i64 4]) w12) (r3 w12 (nA w) fun b13 => r1 w12 (Addr.add (nA w) 1) fun s14 => r1 w12 (Addr.add (nA w) 2) fun s15 => r1 w12 (Addr.add (nA w) 3) fun s16 => c12 F.node_written #[.agg #[.bool
 b13, .slice s14.a s14.len s14.cap, .slice s15.a s15.len s15.cap, .slice s16.a s16.len s16.cap]] w12 fun s19 w17 => Br (decide ((s19.len:Int) > 232)) (Q (.tuple #[.slice none 0 0, .int .i64 10]) w17) (Q (.tuple #[.slice s19.a s19.len
 s19.cap, .int .i64 0]) w17)))
def A.node_encode : AT := (.s .r (.s (.s (.reg [.run, .run, .run, .run, .split 4]) (.c (.s .r .l) .l)) a10))
theorem W.node_encode_ok (n_Leaf : Bool) (n_Keys : Sl) (n_Vals : Sl) (n_Kids : Sl) (w : World) (Q : Value → World → Prop) (h : W.node_encode n_Leaf n_Keys n_Vals n_Kids w Q) : Ret Tryz.prog F.node_encode #[.agg #[.bool n_Leaf, .slice n_Keys.a n_Keys.len n_Keys.cap, .slice n_Vals.a n_Vals.len n_Vals.cap, .slice n_Kids.a n_Kids.len n_Kids.cap]] w Q := okF A.node_encode Tryz.func166 (by kernel_rfl) (by kernel_rfl) h
def W.crc_Parts (parts : Sl) (w : World) (Q : Value → World → Prop) : Prop := ∃ (I1 : Int → Int → World → Prop) (μ2 : Int → Int → World → Nat), I1 4294967295 0 w ∧ ∀ (n3 : Int) (n4 : Int) (w5 : World), I1 n3 n4 w5 → Br (decide (n4 <
 (parts.len:Int))) (∃ a6 : Addr, parts.a = some a6 ∧ bd n4 parts.len ∧ r1 w5 (a6.add (Int.toNat n4 * 1)) fun s7 => c13 F.crc_more #[.int .u32 n3, .slice s7.a s7.len s7.cap] w5 fun n10 w8 => I1 n10 (wI (n4 + 1)) w8 ∧ μ2 n10 (wI (n4 + 1)) w8 <
 μ2 n3 n4 w5) (Q (.int .u32 (bXor .u32 4294967295 n3)) w5)
def A.crc_Parts : AT := (.s .r (.s .r (.s (.s .r (.blk (.loop [(3, (.int .u32)), (8, (.int .i64))] [6, 7] a2))) (.s .r .l))))
theorem W.crc_Parts_ok (parts : Sl) (w : World) (Q : Value → World → Prop) (h : W.crc_Parts parts w Q) : Ret Tryz.prog F.crc_Parts #[.slice parts.a parts.len parts.cap] w Q := okF A.crc_Parts Tryz.func168 (by kernel_rfl) (by kernel_rfl) h
def W.num_Get (b : Sl) (v_at : Int) (size : Int) (w : World) (Q : Value → World → Prop) : Prop := c15 F.num_cut #[.slice b.a b.len b.cap, .int .i64 v_at, .int .i64 size] w fun s3 b4 w1 => Jn (fun k5 : Bool → World → Prop => Br (!b4) (k5
 true w1) (c3 F.num_good #[.int .i64 size] w1 fun b8 w6 => k5 (!b8) w6)) (fun (b9 : Bool) w10 => Br b9 (Q (.tuple #[.int .u64 0, .bool false]) w10) (∃ (I11 : Int → Int → World → Prop) (μ12 : Int → Int → World → Nat), I11 0 0 w10 ∧ ∀ (n13 :
 Int) (n14 : Int) (w15 : World), I11 n13 n14 w15 → Br (decide (n14 < (s3.len:Int))) (∃ a16 : Addr, s3.a = some a16 ∧ bd n14 s3.len ∧ r4 w15 (a16.add (Int.toNat n14 * 1)) fun n17 => (0 : Int) ≤ 8 ∧ I11 (bOr .u64 (IntKind.wrap .u64 (n13 * 2 ^
 (min (Int.toNat 8) 64))) (IntKind.wrap .u64 n17)) (wI (n14 + 1)) w15 ∧ μ12 (bOr .u64 (IntKind.wrap .u64 (n13 * 2 ^ (min (Int.toNat 8) 64))) (IntKind.wrap .u64 n17)) (wI (n14 + 1)) w15 < μ12 n13 n14 w15) (Q (.tuple #[.int .u64 n13, .bool
 true]) w15)))
def A.num_Get : AT := (.s .r (.s .r (.s a7 (.s .r (.s (.s .r (.blk (.loop [(10, (.int .u64)), (29, (.int .i64))] [27, 28] a2))) (.s .r .l))))))
theorem W.num_Get_ok (b : Sl) (v_at : Int) (size : Int) (w : World) (Q : Value → World → Prop) (h : W.num_Get b v_at size w Q) : Ret Tryz.prog F.num_Get #[.slice b.a b.len b.cap, .int .i64 v_at, .int .i64 size] w Q := okF A.num_Get Tryz.func169 (by kernel_rfl) (by kernel_rfl) h
def W.num_cut (b : Sl) (v_at : Int) (size : Int) (w : World) (Q : Value → World → Prop) : Prop := Br ((((decide (v_at < 0)) || (decide (size < 0))) || (decide (v_at > (b.len:Int)))) || (decide (size > (wI ((b.len:Int) - v_at))))) (Q (.tuple
 #[.slice none 0 0, .bool false]) w) (((0 : Int) ≤ (wI (v_at + size)) ∧ (wI (v_at + size)) ≤ ((b.cap : Nat) : Int)) ∧ ((0 : Int) ≤ v_at ∧ v_at ≤ (((Int.toNat (wI (v_at + size))) : Nat) : Int)) ∧ Q (.tuple #[.slice (cutA b.a 1 (Int.toNat
 v_at) b.cap) ((Int.toNat (wI (v_at + size))) - (Int.toNat v_at)) (b.cap - (Int.toNat v_at)), .bool true]) w)
def A.num_cut : AT := (.s .r (.s (.s (.reg [.run, .run, .run, .pure 2, .run, .run, .run, .pure 4, .run, .run, .run, .run, .run, .pure 6]) (.c (.s .r .l) .l)) (.s .r .l)))
theorem W.num_cut_ok (b : Sl) (v_at : Int) (size : Int) (w : World) (Q : Value → World → Prop) (h : W.num_cut b v_at size w Q) : Ret Tryz.prog F.num_cut #[.slice b.a b.len b.cap, .int .i64 v_at, .int .i64 size] w Q := okF A.num_cut Tryz.func170 (by kernel_rfl) (by kernel_rfl) h
def W.num_good (size : Int) (w : World) (Q : Value → World → Prop) : Prop := Q (.bool ((decide (size ≥ 1)) && (decide (size ≤ 8)))) w
def A.num_good : AT := a3
theorem W.num_good_ok (size : Int) (w : World) (Q : Value → World → Prop) (h : W.num_good size w Q) : Ret Tryz.prog F.num_good #[.int .i64 size] w Q := okF A.num_good Tryz.func183 (by kernel_rfl) (by kernel_rfl) h
def W.cache_Cache_has (c : Option Addr) (no : Int) (w : World) (Q : Value → World → Prop) : Prop := Jn (fun k1 : Bool → World → Prop => Br ((!(Option.isNone c)) && (decide (no ≥ 0))) (∃ a2 : Addr, c = some a2 ∧ ∃ p3 : Option Addr, w.cell?
 a2 = some (.pointer p3) ∧ c2 F.dev_Device_Len #[.pointer p3] w fun n6 w4 => k1 (decide (no < n6)) w4) (k1 false w)) (fun (b7 : Bool) w8 => Q (.bool b7) w8)
def A.cache_Cache_has : AT := a5
theorem W.cache_Cache_has_ok (c : Option Addr) (no : Int) (w : World) (Q : Value → World → Prop) (h : W.cache_Cache_has c no w Q) : Ret Tryz.prog F.cache_Cache_has #[.pointer c, .int .i64 no] w Q := okF A.cache_Cache_has Tryz.func184 (by kernel_rfl) (by kernel_rfl) h
def W.cache_Cache_room (c : Option Addr) (w : World) (Q : Value → World → Prop) : Prop := c19 F.cache_Cache_empty #[.pointer c] w fun p3 w1 => Br (!(Option.isNone p3)) (Q (.tuple #[.pointer p3, .int .i64 0]) w1) (c19 F.cache_Cache_victim
 #[.pointer c] w1 fun p6 w4 => Br (Option.isNone p6) (Q (.tuple #[.pointer none, .int .i64 11]) w4) (Jn (fun k7 : World → Prop => ∃ a8 : Addr, p6 = some a8 ∧ r3 w4 (a8.add 1) fun b9 => Br b9 (Nx (w4.drew) fun w10 => ∃ a11 : Addr, c = some
 a11 ∧ ¬ False ∧ ∃ p12 : Option Addr, w10.cell? a11 = some (.pointer p12) ∧ ∃ a13 : Addr, p6 = some a13 ∧ ¬ False ∧ r2 w10 (a13.add 3) fun n14 => ∃ a15 : Addr, p6 = some a15 ∧ ¬ False ∧ r1 w10 (a15.add 5) fun s16 => c2 F.dev_Device_Write
 #[.pointer p12, .int .i64 n14, .slice s16.a s16.len s16.cap] w10 fun n19 w17 => Br (n19 != 0) (Q (.tuple #[.pointer none, .int .i64 n19]) w17) (k7 w17)) (k7 w4)) (fun w20 => ∃ a21 : Addr, p6 = some a21 ∧ StoreOk w20 a21 [.bool false, .bool
 false, .bool false, .int .i64 0, .int .i64 0, .slice none 0 0] ∧ (6 : Nat) = 6 ∧ Nx (setCells w20 a21 0 [.bool false, .bool false, .bool false, .int .i64 0, .int .i64 0, .slice none 0 0]) fun w22 => Q (.tuple #[.pointer p6, .int .i64 0])
 w22)))
def A.cache_Cache_room : AT := (.s .r (.s (.s .r a1) (.s .r (.s a1 (.s (.jk [] [5] (.s .r (.c (.s (.drw 12 false ⟨[0, 1, 2, 4, 0, 16, 32, 64, 0, 256, 512, 1024, 2184, 8191], [0, 1, 2, 4, 0, 16, 32, 64, 0, 256, 512, 1024, 2184, 4096]⟩
 [1048576, 2097152, 4194304, 8388608, 16777216, 33554432, 67108864, 134217728, 268435456, 536870912, 1073741824, 2147483648, 4294967296, 64] [1, 1048576, 2097152, 4194304, 32, 16777216, 33554432, 67108864, 32, 268435456, 536870912,
 1073741824, 2290089984, 4294967296] (.take 0 (.take 1 (.take 2 (.take 3 (.take 4 (.take 5 (.take 6 (.take 7 (.take 8 (.take 9 (.take 10 (.take 11 (.tail [.run, .run])))))))))))))) a1) .l))) (.s .r (.s .r .l)))))))
theorem W.cache_Cache_room_ok (c : Option Addr) (w : World) (Q : Value → World → Prop) (h : W.cache_Cache_room c w Q) : Ret Tryz.prog F.cache_Cache_room #[.pointer c] w Q := okF A.cache_Cache_room Tryz.func185 (by kernel_rfl) (by kernel_rfl) h
def W.space_set_take (s : Sl) (no : Int) (w : World) (Q : Value → World → Prop) : Prop := Nx (w.drew) fun w1 => (8 : Int) ≠ 0 ∧ ∃ a2 : Addr, s.a = some a2 ∧ bd (wI (Int.tdiv no 8)) s.len ∧ ¬ False ∧ r4 w1 (a2.add (Int.toNat (wI (Int.tdiv no
 8)) * 1)) fun n3 => (8 : Int) ≠ 0 ∧ (0 : Int) ≤ (Int.tmod no 8) ∧ ∃ a4 : Addr, s.a = some a4 ∧ bd (wI (Int.tdiv no 8)) s.len ∧ st w1 (a4.add (Int.toNat (wI (Int.tdiv no 8)) * 1)) (.int .u8 (bAndNot .u8 n3 (IntKind.wrap .u8 (1 * 2 ^ (min
 (Int.toNat (Int.tmod no 8)) 8))))) fun w5 => Q (.tuple #[]) w5
def A.space_set_take : AT := (.drw 8 false ⟨[0, 0, 2, 5, 8, 0, 32, 64, 144, 511, 1023], [0, 0, 2, 5, 8, 0, 32, 64, 144, 5, 768]⟩ [16, 32, 64, 128, 256, 512, 1024, 2048, 4096, 8192, 0] [1, 2, 32, 80, 128, 2, 512, 1024, 2304, 80, 12288]
 (.take 0 (.take 1 (.take 2 (.take 3 (.take 4 (.take 5 (.take 6 (.take 7 (.tail [.run, .run, .run]))))))))))
theorem W.space_set_take_ok (s : Sl) (no : Int) (w : World) (Q : Value → World → Prop) (h : W.space_set_take s no w Q) : Ret Tryz.prog F.space_set_take #[.slice s.a s.len s.cap, .int .i64 no] w Q := okF A.space_set_take Tryz.func188 (by kernel_rfl) (by kernel_rfl) h
def W.node_Size (n_Leaf : Bool) (n_Keys : Sl) (n_Vals : Sl) (n_Kids : Sl) (w : World) (Q : Value → World → Prop) : Prop := Nx (w.alloc (.cells #[.bool n_Leaf, .slice n_Keys.a n_Keys.len n_Keys.cap, .slice n_Vals.a n_Vals.len n_Vals.cap,
 .slice n_Kids.a n_Kids.len n_Kids.cap] Ty.api_Node)) fun w1 => r3 w1 (nA w) fun b2 => r1 w1 (Addr.add (nA w) 1) fun s3 => r1 w1 (Addr.add (nA w) 2) fun s4 => r1 w1 (Addr.add (nA w) 3) fun s5 => c3 F.node_sound #[.agg #[.bool b2, .slice s3.a
 s3.len s3.cap, .slice s4.a s4.len s4.cap, .slice s5.a s5.len s5.cap]] w1 fun b8 w6 => Br (!b8) (Q (.int .i64 0) w6) (r3 w6 (nA w) fun b9 => r1 w6 (Addr.add (nA w) 1) fun s10 => r1 w6 (Addr.add (nA w) 2) fun s11 => r1 w6 (Addr.add (nA w) 3)
 fun s12 => c12 F.node_written #[.agg #[.bool b9, .slice s10.a s10.len s10.cap, .slice s11.a s11.len s11.cap, .slice s12.a s12.len s12.cap]] w6 fun s15 w13 => Q (.int .i64 (s15.len:Int)) w13)
def A.node_Size : AT := a10
theorem W.node_Size_ok (n_Leaf : Bool) (n_Keys : Sl) (n_Vals : Sl) (n_Kids : Sl) (w : World) (Q : Value → World → Prop) (h : W.node_Size n_Leaf n_Keys n_Vals n_Kids w Q) : Ret Tryz.prog F.node_Size #[.agg #[.bool n_Leaf, .slice n_Keys.a n_Keys.len n_Keys.cap, .slice n_Vals.a n_Vals.len n_Vals.cap, .slice n_Kids.a n_Kids.len n_Kids.cap]] w Q := okF A.node_Size Tryz.func189 (by kernel_rfl) (by kernel_rfl) h
def W.tree_change_fits (c : Option Addr) (n_Leaf : Bool) (n_Keys : Sl) (n_Vals : Sl) (n_Kids : Sl) (w : World) (Q : Value → World → Prop) : Prop := Nx (w.alloc (.cells #[.bool n_Leaf, .slice n_Keys.a n_Keys.len n_Keys.cap, .slice n_Vals.a
 n_Vals.len n_Vals.cap, .slice n_Kids.a n_Kids.len n_Kids.cap] Ty.api_Node)) fun w1 => r3 w1 (nA w) fun b2 => r1 w1 (Addr.add (nA w) 1) fun s3 => r1 w1 (Addr.add (nA w) 2) fun s4 => r1 w1 (Addr.add (nA w) 3) fun s5 => c2 F.node_Size #[.agg
 #[.bool b2, .slice s3.a s3.len s3.cap, .slice s4.a s4.len s4.cap, .slice s5.a s5.len s5.cap]] w1 fun n8 w6 => Br (decide (n8 > 232)) (r3 w6 (nA w) fun b9 => r1 w6 (Addr.add (nA w) 1) fun s10 => r1 w6 (Addr.add (nA w) 2) fun s11 => r1 w6
 (Addr.add (nA w) 3) fun s12 => c4 F.tree_change_two #[.pointer c, .agg #[.bool b9, .slice s10.a s10.len s10.cap, .slice s11.a s11.len s11.cap, .slice s12.a s12.len s12.cap]] w6 fun s15 n16 w13 => Q (.tuple #[.slice s15.a s15.len s15.cap,
 .int .i64 n16]) w13) (r3 w6 (nA w) fun b17 => r1 w6 (Addr.add (nA w) 1) fun s18 => r1 w6 (Addr.add (nA w) 2) fun s19 => r1 w6 (Addr.add (nA w) 3) fun s20 => c4 F.tree_change_one #[.pointer c, .agg #[.bool b17, .slice s18.a s18.len s18.cap,
 .slice s19.a s19.len s19.cap, .slice s20.a s20.len s20.cap]] w6 fun s23 n24 w21 => Q (.tuple #[.slice s23.a s23.len s23.cap, .int .i64 n24]) w21)
def A.tree_change_fits : AT := a10
theorem W.tree_change_fits_ok (c : Option Addr) (n_Leaf : Bool) (n_Keys : Sl) (n_Vals : Sl) (n_Kids : Sl) (w : World) (Q : Value → World → Prop) (h : W.tree_change_fits c n_Leaf n_Keys n_Vals n_Kids w Q) : Ret Tryz.prog F.tree_change_fits #[.pointer c, .agg #[.bool n_Leaf, .slice n_Keys.a n_Keys.len n_Keys.cap, .slice n_Vals.a n_Vals.len n_Vals.cap, .slice n_Kids.a n_Kids.len n_Kids.cap]] w Q := okF A.tree_change_fits Tryz.func190 (by kernel_rfl) (by kernel_rfl) h
end Go.Proofs.YtplieiecebljmaaGreat
namespace Go.Proofs.YtplieiecebljmaaGreat
open Go Gx
set_option maxRecDepth 100000
def W.node_Merge (a_Leaf : Bool) (a_Keys : Sl) (a_Vals : Sl) (a_Kids : Sl) (key : Sl) (b_Leaf : Bool) (b_Keys : Sl) (b_Vals : Sl) (b_Kids : Sl) (w : World) (Q : Value → World → Prop) : Prop := Nx (w.alloc (.cells #[.bool a_Leaf, .slice
 a_Keys.a a_Keys.len a_Keys.cap, .slice a_Vals.a a_Vals.len a_Vals.cap, .slice a_Kids.a a_Kids.len a_Kids.cap] Ty.api_Node)) fun w1 => Nx (w1.alloc (.cells #[.bool b_Leaf, .slice b_Keys.a b_Keys.len b_Keys.cap, .slice b_Vals.a b_Vals.len
 b_Vals.cap, .slice b_Kids.a b_Kids.len b_Kids.cap] Ty.api_Node)) fun w2 => Nx (w2.alloc z1) fun w3 => r3 w3 (nA w) fun b4 => r1 w3 (Addr.add (nA w) 1) fun s5 => r1 w3 (Addr.add (nA w) 2) fun s6 => r1 w3 (Addr.add (nA w) 3) fun s7 => c3
 F.node_sound #[.agg #[.bool b4, .slice s5.a s5.len s5.cap, .slice s6.a s6.len s6.cap, .slice s7.a s7.len s7.cap]] w3 fun b10 w8 => Jn (fun k11 : Bool → World → Prop => T14 b10 k11 w8 w1) (fun (b19 : Bool) w20 => Jn (fun k21 : Bool → World →
 Prop => Br b19 (k21 true w20) (r3 w20 (nA w) fun b22 => r3 w20 (nA w1) fun b23 => k21 (!(b22 == b23)) w20)) (fun (b24 : Bool) w25 => Br b24 (StoreOk w25 (nA w2) [.bool false, .slice none 0 0, .slice none 0 0, .slice none 0 0] ∧ (4 : Nat) =
 4 ∧ Nx (setCells w25 (nA w2) 0 [.bool false, .slice none 0 0, .slice none 0 0, .slice none 0 0]) fun w26 => T6 w26 w2 Q) (Nx (w25.drew) fun w31 => ∃ W32 : Nat → Prop, ¬ W32 ((nA w) : Addr).block ∧ r3 w31 (nA w) fun b33 => r1 w31 (Addr.add
 (nA w) 1) fun s34 => r1 w31 (Addr.add (nA w) 2) fun s35 => r1 w31 (Addr.add (nA w) 3) fun s36 => ¬ W32 ((nA w1) : Addr).block ∧ r3 w31 (nA w1) fun b37 => r1 w31 (Addr.add (nA w1) 1) fun s38 => r1 w31 (Addr.add (nA w1) 2) fun s39 => r1 w31
 (Addr.add (nA w1) 3) fun s40 => (c11 F.node_own #[.agg #[.bool b33, .slice s34.a s34.len s34.cap, .slice s35.a s35.len s35.cap, .slice s36.a s36.len s36.cap]] w31 fun b43 s44 s45 s46 w41 => Chg W32 w31 w41 ∧ (c11 F.node_own #[.agg #[.bool
 b37, .slice s38.a s38.len s38.cap, .slice s39.a s39.len s39.cap, .slice s40.a s40.len s40.cap]] w41 fun b49 s50 s51 s52 w47 => Chg W32 w41 w47 ∧ (Nx (w47.alloc z1) fun w53 => Chg W32 w47 w53 ∧ Nx (w53.alloc z1) fun w54 => Chg W32 w53 w54 ∧
 T1 w54 w47 b43 s44 s45 s46 w53 b49 s50 s51 s52 w key w2 Q) ∧ (Nx (w47.alloc z1) fun w106 => Chg W32 w47 w106 ∧ Nx (w106.alloc z1) fun w107 => Chg W32 w106 w107 ∧ T1 w107 w106 b43 s44 s45 s46 w47 b49 s50 s51 s52 w key w2 Q)) ∧ (Nx (w41.alloc
 z1) fun w159 => Chg W32 w41 w159 ∧ (c11 F.node_own #[.agg #[.bool b37, .slice s38.a s38.len s38.cap, .slice s39.a s39.len s39.cap, .slice s40.a s40.len s40.cap]] w159 fun b162 s163 s164 s165 w160 => Chg W32 w159 w160 ∧ Nx (w160.alloc z1)
 fun w166 => Chg W32 w160 w166 ∧ T1 w166 w41 b43 s44 s45 s46 w160 b162 s163 s164 s165 w key w2 Q) ∧ (Nx (w159.alloc z1) fun w218 => Chg W32 w159 w218 ∧ T22 b37 s38 s39 s40 w218 W32 w41 b43 s44 s45 s46 w159 w key w2 Q)) ∧ (Nx (w41.alloc z1)
 fun w276 => Chg W32 w41 w276 ∧ (c11 F.node_own #[.agg #[.bool b37, .slice s38.a s38.len s38.cap, .slice s39.a s39.len s39.cap, .slice s40.a s40.len s40.cap]] w276 fun b279 s280 s281 s282 w277 => Chg W32 w276 w277 ∧ Nx (w277.alloc z1) fun
 w283 => Chg W32 w277 w283 ∧ T1 w283 w277 b43 s44 s45 s46 w41 b279 s280 s281 s282 w key w2 Q) ∧ (Nx (w276.alloc z1) fun w335 => Chg W32 w276 w335 ∧ T22 b37 s38 s39 s40 w335 W32 w276 b43 s44 s45 s46 w41 w key w2 Q))) ∧ (Nx (w31.alloc z1) fun
 w393 => Chg W32 w31 w393 ∧ (c11 F.node_own #[.agg #[.bool b33, .slice s34.a s34.len s34.cap, .slice s35.a s35.len s35.cap, .slice s36.a s36.len s36.cap]] w393 fun b396 s397 s398 s399 w394 => Chg W32 w393 w394 ∧ (c11 F.node_own #[.agg
 #[.bool b37, .slice s38.a s38.len s38.cap, .slice s39.a s39.len s39.cap, .slice s40.a s40.len s40.cap]] w394 fun b402 s403 s404 s405 w400 => Chg W32 w394 w400 ∧ Nx (w400.alloc z1) fun w406 => Chg W32 w400 w406 ∧ T1 w406 w31 b396 s397 s398
 s399 w400 b402 s403 s404 s405 w key w2 Q) ∧ (Nx (w394.alloc z1) fun w458 => Chg W32 w394 w458 ∧ T22 b37 s38 s39 s40 w458 W32 w31 b396 s397 s398 s399 w394 w key w2 Q)) ∧ (Nx (w393.alloc z1) fun w516 => Chg W32 w393 w516 ∧ c11 F.node_own
 #[.agg #[.bool b33, .slice s34.a s34.len s34.cap, .slice s35.a s35.len s35.cap, .slice s36.a s36.len s36.cap]] w516 fun b519 s520 s521 s522 w517 => Chg W32 w516 w517 ∧ T22 b37 s38 s39 s40 w517 W32 w31 b519 s520 s521 s522 w393 w key w2 Q)) ∧
 (Nx (w31.alloc z1) fun w580 => Chg W32 w31 w580 ∧ (c11 F.node_own #[.agg #[.bool b33, .slice s34.a s34.len s34.cap, .slice s35.a s35.len s35.cap, .slice s36.a s36.len s36.cap]] w580 fun b583 s584 s585 s586 w581 => Chg W32 w580 w581 ∧ (c11
 F.node_own #[.agg #[.bool b37, .slice s38.a s38.len s38.cap, .slice s39.a s39.len s39.cap, .slice s40.a s40.len s40.cap]] w581 fun b589 s590 s591 s592 w587 => Chg W32 w581 w587 ∧ Nx (w587.alloc z1) fun w593 => Chg W32 w587 w593 ∧ T1 w593
 w587 b583 s584 s585 s586 w31 b589 s590 s591 s592 w key w2 Q) ∧ (Nx (w581.alloc z1) fun w645 => Chg W32 w581 w645 ∧ T22 b37 s38 s39 s40 w645 W32 w581 b583 s584 s585 s586 w31 w key w2 Q)) ∧ (Nx (w580.alloc z1) fun w703 => Chg W32 w580 w703 ∧
 c11 F.node_own #[.agg #[.bool b33, .slice s34.a s34.len s34.cap, .slice s35.a s35.len s35.cap, .slice s36.a s36.len s36.cap]] w703 fun b706 s707 s708 s709 w704 => Chg W32 w703 w704 ∧ T22 b37 s38 s39 s40 w704 W32 w580 b706 s707 s708 s709 w31
 w key w2 Q)))))
def A.node_Merge : AT := (.s .r (.s (.s (.reg [.run, .run, .run, .run, .split 3, .run, .run, .run, .run, .split 5]) (.c (.s .r .l) .l)) (.s (.drw 6 true ⟨[0, 1, 0, 6, 0, 0, 59, 127], [0, 1, 0, 4, 0, 0, 18, 40]⟩ [67108864, 134217728,
 268435456, 536870912, 256, 512, 0, 0] [8, 67108864, 32, 268435456, 0, 0, 134217984, 536871424] (.take 0 (.take 2 (.three 1 (.three 3 (.two 4 (.eff 5 (.tail [.run, .run])) 5 (.eff 4 (.tail [.run, .run]))) 4 (.two 3 (.eff 5 (.tail [.run,
 .run])) 5 (.eff 3 (.tail [.run, .run]))) 5 (.two 3 (.eff 4 (.tail [.run, .run])) 4 (.eff 3 (.tail [.run, .run])))) 4 (.two 1 (.two 3 (.eff 5 (.tail [.run, .run])) 5 (.eff 3 (.tail [.run, .run]))) 5 (.eff 1 (.eff 3 (.tail [.run, .run])))) 5
 (.two 1 (.two 3 (.eff 4 (.tail [.run, .run])) 4 (.eff 3 (.tail [.run, .run]))) 4 (.eff 1 (.eff 3 (.tail [.run, .run])))))))) (.s (.jk [] [6, 8, 9] (.s .r (.c (.drw 5 true ⟨[0, 1, 0, 4, 8, 26, 63, 127], [0, 1, 0, 4, 8, 18, 0, 96]⟩
 [8589934592, 17179869184, 34359738368, 68719476736, 137438953472, 274877906944, 549755813888, 0] [256, 8589934592, 2, 34359738368, 68719476736, 154618822656, 256, 824633720832] (.take 0 (.take 1 (.take 2 (.eff 3 (.eff 4 (.tail [.run, .run,
 .run]))))))) .l))) (.s .r (.s .r a10))))))
theorem W.node_Merge_ok (a_Leaf : Bool) (a_Keys : Sl) (a_Vals : Sl) (a_Kids : Sl) (key : Sl) (b_Leaf : Bool) (b_Keys : Sl) (b_Vals : Sl) (b_Kids : Sl) (w : World) (Q : Value → World → Prop) (h : W.node_Merge a_Leaf a_Keys a_Vals a_Kids key b_Leaf b_Keys b_Vals b_Kids w Q) : Ret Tryz.prog F.node_Merge #[.agg #[.bool a_Leaf, .slice a_Keys.a a_Keys.len a_Keys.cap, .slice a_Vals.a a_Vals.len a_Vals.cap, .slice a_Kids.a a_Kids.len a_Kids.cap], .slice key.a key.len key.cap, .agg #[.bool b_Leaf, .slice b_Keys.a b_Keys.len b_Keys.cap, .slice b_Vals.a b_Vals.len b_Vals.cap, .slice b_Kids.a b_Kids.len b_Kids.cap]] w Q := okF A.node_Merge Tryz.func191 (by kernel_rfl) (by kernel_rfl) h
def W.tree_change_put (c : Option Addr) (n_Leaf : Bool) (n_Keys : Sl) (n_Vals : Sl) (n_Kids : Sl) (w : World) (Q : Value → World → Prop) : Prop := Nx (w.alloc (.cells #[.bool n_Leaf, .slice n_Keys.a n_Keys.len n_Keys.cap, .slice n_Vals.a
 n_Vals.len n_Vals.cap, .slice n_Kids.a n_Kids.len n_Kids.cap] Ty.api_Node)) fun w1 => r3 w1 (nA w) fun b2 => r1 w1 (Addr.add (nA w) 1) fun s3 => r1 w1 (Addr.add (nA w) 2) fun s4 => r1 w1 (Addr.add (nA w) 3) fun s5 => c4 F.node_Encode #[.agg
 #[.bool b2, .slice s3.a s3.len s3.cap, .slice s4.a s4.len s4.cap, .slice s5.a s5.len s5.cap]] w1 fun s8 n9 w6 => Br (n9 != 0) (Q (.tuple #[.int .i64 0, .int .i64 n9]) w6) (∃ a10 : Addr, c = some a10 ∧ ∃ p11 : Option Addr, w6.cell? a10 =
 some (.pointer p11) ∧ ∃ a12 : Addr, p11 = some a12 ∧ ∃ p13 : Option Addr, w6.cell? (a12.add 1) = some (.pointer p13) ∧ c21 F.space_Space_Alloc #[.pointer p13] w6 fun n16 n17 w14 => Br (n17 != 0) (Q (.tuple #[.int .i64 0, .int .i64 n17])
 w14) (∃ a18 : Addr, c = some a18 ∧ r1 w14 (a18.add 1) fun s19 => Nx (w14.alloc (.cells #[.int .i64 n16] Ty.int)) fun w20 => ∃ s21 : Sl, ∃ w22 : World, Sem.run Tryz.prog (Builtin.append_ #[Ty.Sl_int, Ty.Sl_int] Ty.Sl_int #[.slice s19.a
 s19.len s19.cap, .slice (some (nA w14)) 1 1]) w20 = .ok (.slice s21.a s21.len s21.cap) w22 ∧ ∃ a23 : Addr, c = some a23 ∧ st w22 (a23.add 1) (.slice s21.a s21.len s21.cap) fun w24 => Jn (fun k25 : Int → World → Prop => r3 w24 (nA w) fun b26
 => Br b26 (k25 1 w24) (k25 2 w24)) (fun (n27 : Int) w28 => ∃ a29 : Addr, c = some a29 ∧ ∃ p30 : Option Addr, w28.cell? a29 = some (.pointer p30) ∧ ∃ a31 : Addr, p30 = some a31 ∧ r5 w28 (a31.add 2) fun n32 => c4 F.page_Encode #[.int .i64
 n16, .agg #[.int .i64 n27, .int .u64 n32, .slice s8.a s8.len s8.cap]] w28 fun s35 n36 w33 => Br (n36 != 0) (Q (.tuple #[.int .i64 0, .int .i64 n36]) w33) (∃ a37 : Addr, c = some a37 ∧ ∃ p38 : Option Addr, w33.cell? a37 = some (.pointer p38)
 ∧ ∃ a39 : Addr, p38 = some a39 ∧ ∃ p40 : Option Addr, w33.cell? a39 = some (.pointer p40) ∧ c2 F.cache_Cache_Put #[.pointer p40, .int .i64 n16, .slice s35.a s35.len s35.cap] w33 fun n43 w41 => Q (.tuple #[.int .i64 n16, .int .i64 n43])
 w41))))
def A.tree_change_put : AT := (.s .r (.s .r (.s a1 (.s .r (.s a1 (.s .r (.s .r (.s (.jk [(9, (.int .i64))] [0, 6, 8] (.s .r (.c .r .l))) a10))))))))
theorem W.tree_change_put_ok (c : Option Addr) (n_Leaf : Bool) (n_Keys : Sl) (n_Vals : Sl) (n_Kids : Sl) (w : World) (Q : Value → World → Prop) (h : W.tree_change_put c n_Leaf n_Keys n_Vals n_Kids w Q) : Ret Tryz.prog F.tree_change_put #[.pointer c, .agg #[.bool n_Leaf, .slice n_Keys.a n_Keys.len n_Keys.cap, .slice n_Vals.a n_Vals.len n_Vals.cap, .slice n_Kids.a n_Kids.len n_Kids.cap]] w Q := okF A.tree_change_put Tryz.func192 (by kernel_rfl) (by kernel_rfl) h
def W.node_reader_take (r : Option Addr) (n : Int) (w : World) (Q : Value → World → Prop) : Prop := ∃ a1 : Addr, r = some a1 ∧ r3 w (a1.add 1) fun b2 => Jn (fun k3 : Bool → World → Prop => Br (!b2) (k3 true w) (∃ a4 : Addr, r = some a4 ∧ r1
 w a4 fun s5 => k3 (decide (n > (s5.len:Int))) w)) (fun (b6 : Bool) w7 => Br b6 (∃ a8 : Addr, r = some a8 ∧ st w7 (a8.add 1) (.bool false) fun w9 => Q (.slice none 0 0) w9) (∃ a10 : Addr, r = some a10 ∧ r1 w7 a10 fun s11 => ((0 : Int) ≤ n ∧
 n ≤ ((s11.cap : Nat) : Int)) ∧ c12 F.slices_Clone_Sl_byte_byte #[.slice (cutA s11.a 1 0 s11.cap) ((Int.toNat n) - 0) (s11.cap - 0)] w7 fun s14 w12 => ∃ a15 : Addr, r = some a15 ∧ r1 w12 a15 fun s16 => ((0 : Int) ≤ n ∧ n ≤ (s16.len:Int)) ∧ ∃
 a17 : Addr, r = some a17 ∧ (∃ u : Value, w12.cell? a17 = some u) ∧ w12.frozen? a17 = false ∧ Nx (w12.setCell a17 (.slice (cutA s16.a 1 (Int.toNat n) s16.cap) (s16.len - (Int.toNat n)) (s16.cap - (Int.toNat n)))) fun w18 => Q (.slice s14.a
 s14.len s14.cap) w18))
def A.node_reader_take : AT := (.s .r (.s (.s (.reg [.run, .run, .run, .run, .run, .run, .split 7]) a6) a4))
theorem W.node_reader_take_ok (r : Option Addr) (n : Int) (w : World) (Q : Value → World → Prop) (h : W.node_reader_take r n w Q) : Ret Tryz.prog F.node_reader_take #[.pointer r, .int .i64 n] w Q := okF A.node_reader_take Tryz.func195 (by kernel_rfl) (by kernel_rfl) h
def W.node_written (n_Leaf : Bool) (n_Keys : Sl) (n_Vals : Sl) (n_Kids : Sl) (w : World) (Q : Value → World → Prop) : Prop := Nx (w.alloc (.cells #[.bool n_Leaf, .slice n_Keys.a n_Keys.len n_Keys.cap, .slice n_Vals.a n_Vals.len n_Vals.cap,
 .slice n_Kids.a n_Kids.len n_Kids.cap] Ty.api_Node)) fun w1 => r1 w1 (Addr.add (nA w) 1) fun s2 => Nx (w1.alloc (.cells #[.int .u8 (IntKind.wrap .u8 (s2.len:Int))] Ty.uint8)) fun w3 => Jn (fun k4 : Sl → World → Prop => r3 w3 (nA w) fun b5
 => Br (!b5) (r1 w3 (Addr.add (nA w) 3) fun s6 => ∃ a7 : Addr, s6.a = some a7 ∧ bd 0 s6.len ∧ r2 w3 (a7.add (Int.toNat 0 * 1)) fun n8 => c12 F.num_Put #[.slice (some (nA w1)) 1 1, .int .u64 (IntKind.wrap .u64 n8), .int .i64 2] w3 fun s11 w9
 => k4 s11 w9) (k4 ⟨(some (nA w1)), 1, 1⟩ w3)) (fun (s12 : Sl) w13 => r1 w13 (Addr.add (nA w) 1) fun s14 => ∃ (I15 : Sl → Int → World → Prop) (μ16 : Sl → Int → World → Nat), I15 s12 0 w13 ∧ ∀ (s17 : Sl) (n18 : Int) (w19 : World), I15 s17 n18
 w19 → Br (decide (n18 < (s14.len:Int))) (r3 w19 (nA w) fun b20 => r1 w19 (Addr.add (nA w) 1) fun s21 => r1 w19 (Addr.add (nA w) 2) fun s22 => r1 w19 (Addr.add (nA w) 3) fun s23 => c12 F.node_cell #[.agg #[.bool b20, .slice s21.a s21.len
 s21.cap, .slice s22.a s22.len s22.cap, .slice s23.a s23.len s23.cap], .int .i64 n18] w19 fun s26 w24 => ∃ s27 : Sl, ∃ w28 : World, Sem.run Tryz.prog (Builtin.append_ #[Ty.Sl_uint8, Ty.Sl_uint8] Ty.Sl_uint8 #[.slice s17.a s17.len s17.cap,
 .slice s26.a s26.len s26.cap]) w24 = .ok (.slice s27.a s27.len s27.cap) w28 ∧ I15 s27 (wI (n18 + 1)) w28 ∧ μ16 s27 (wI (n18 + 1)) w28 < μ16 s17 n18 w19) (Q (.slice s17.a s17.len s17.cap) w19))
def A.node_written : AT := (.s .r (.s .r (.s (.jk [(3, .slice)] [1] (.s .r (.c .r .l))) (.s (.s .r (.blk (.loop [(3, .slice), (23, (.int .i64))] [1, 22] a2))) (.s .r .l)))))
theorem W.node_written_ok (n_Leaf : Bool) (n_Keys : Sl) (n_Vals : Sl) (n_Kids : Sl) (w : World) (Q : Value → World → Prop) (h : W.node_written n_Leaf n_Keys n_Vals n_Kids w Q) : Ret Tryz.prog F.node_written #[.agg #[.bool n_Leaf, .slice n_Keys.a n_Keys.len n_Keys.cap, .slice n_Vals.a n_Vals.len n_Vals.cap, .slice n_Kids.a n_Kids.len n_Kids.cap]] w Q := okF A.node_written Tryz.func196 (by kernel_rfl) (by kernel_rfl) h
def W.crc_more (n : Int) (b : Sl) (w : World) (Q : Value → World → Prop) : Prop := ∃ (I1 : Int → Int → World → Prop) (μ2 : Int → Int → World → Nat), I1 n 0 w ∧ ∀ (n3 : Int) (n4 : Int) (w5 : World), I1 n3 n4 w5 → Br (decide (n4 <
 (b.len:Int))) (∃ a6 : Addr, b.a = some a6 ∧ bd n4 b.len ∧ r4 w5 (a6.add (Int.toNat n4 * 1)) fun n7 => ∃ (I8 : Int → Int → World → Prop) (μ9 : Int → Int → World → Nat), I8 (bXor .u32 n3 (IntKind.wrap .u32 n7)) 0 w5 ∧ ∀ (n10 : Int) (n11 :
 Int) (w12 : World), I8 n10 n11 w12 → Br (decide (n11 < 8)) ((0 : Int) ≤ 1 ∧ I8 (bXor .u32 (Int.fdiv n10 (2 ^ (min (Int.toNat 1) 32))) (bAnd .u32 2197175160 (IntKind.wrap .u32 (0 - (bAnd .u32 n10 1))))) (wI (n11 + 1)) w12 ∧ μ9 (bXor .u32
 (Int.fdiv n10 (2 ^ (min (Int.toNat 1) 32))) (bAnd .u32 2197175160 (IntKind.wrap .u32 (0 - (bAnd .u32 n10 1))))) (wI (n11 + 1)) w12 < μ9 n10 n11 w12) (I1 n10 (wI (n4 + 1)) w12 ∧ μ2 n10 (wI (n4 + 1)) w12 < μ2 n3 n4 w5)) (Q (.int .u32 n3) w5)
def A.crc_more : AT := (.s .r (.s (.s .r (.blk (.loop [(0, (.int .u32)), (9, (.int .i64))] [7, 8] (.s .r (.s (.c .l .l) (.s (.blk (.s .r (.s .r (.s .r (.blk (.loop [(0, (.int .u32)), (17, (.int .i64))] [7, 8, 9] (.s .r (.s (.c .l .l) (.s
 (.blk .r) .r))))))))) .r)))))) (.s .r .l)))
theorem W.crc_more_ok (n : Int) (b : Sl) (w : World) (Q : Value → World → Prop) (h : W.crc_more n b w Q) : Ret Tryz.prog F.crc_more #[.int .u32 n, .slice b.a b.len b.cap] w Q := okF A.crc_more Tryz.func197 (by kernel_rfl) (by kernel_rfl) h
def W.cache_Cache_empty (c : Option Addr) (w : World) (Q : Value → World → Prop) : Prop := ∃ a1 : Addr, c = some a1 ∧ r1 w (a1.add 1) fun s2 => ∃ (I3 : Int → World → Prop) (μ4 : Int → World → Nat), I3 0 w ∧ ∀ (n5 : Int) (w6 : World), I3 n5
 w6 → Br (decide (n5 < (s2.len:Int))) (∃ a7 : Addr, c = some a7 ∧ r1 w6 (a7.add 1) fun s8 => ∃ a9 : Addr, s8.a = some a9 ∧ bd n5 s8.len ∧ r3 w6 (a9.add (Int.toNat n5 * 6)) fun b10 => Br (!b10) (∃ a11 : Addr, c = some a11 ∧ r1 w6 (a11.add 1)
 fun s12 => ∃ a13 : Addr, s12.a = some a13 ∧ bd n5 s12.len ∧ Q (.pointer (some (a13.add (Int.toNat n5 * 6)))) w6) (I3 (wI (n5 + 1)) w6 ∧ μ4 (wI (n5 + 1)) w6 < μ4 n5 w6)) (Q (.pointer none) w6)
def A.cache_Cache_empty : AT := (.s .r (.s (.s .r (.blk (.loop [(9, (.int .i64))] [0, 8] a11))) (.s .r .l)))
theorem W.cache_Cache_empty_ok (c : Option Addr) (w : World) (Q : Value → World → Prop) (h : W.cache_Cache_empty c w Q) : Ret Tryz.prog F.cache_Cache_empty #[.pointer c] w Q := okF A.cache_Cache_empty Tryz.func204 (by kernel_rfl) (by kernel_rfl) h
def W.cache_Cache_victim (c : Option Addr) (w : World) (Q : Value → World → Prop) : Prop := ∃ a1 : Addr, c = some a1 ∧ r2 w (a1.add 2) fun n2 => ∃ a3 : Addr, c = some a3 ∧ r1 w (a3.add 1) fun s4 => ∃ (I5 : Int → Int → World → Prop) (μ6 :
 Int → Int → World → Nat), I5 n2 0 w ∧ ∀ (n7 : Int) (n8 : Int) (w9 : World), I5 n7 n8 w9 → Br (decide (n8 < (wI (2 * (s4.len:Int))))) (Jn (fun k10 : Int → World → Prop => ∃ a11 : Addr, c = some a11 ∧ r1 w9 (a11.add 1) fun s12 => ∃ a13 :
 Addr, s12.a = some a13 ∧ bd n7 s12.len ∧ ∃ a14 : Addr, c = some a14 ∧ r1 w9 (a14.add 1) fun s15 => (s15.len:Int) ≠ 0 ∧ ∃ a16 : Addr, (some (a13.add (Int.toNat n7 * 6)) : Option Addr) = some a16 ∧ r2 w9 (a16.add 4) fun n17 => Br (decide (n17
 > 0)) (k10 (Int.tmod (wI (n7 + 1)) (s15.len:Int)) w9) (∃ a18 : Addr, (some (a13.add (Int.toNat n7 * 6)) : Option Addr) = some a18 ∧ r3 w9 (a18.add 2) fun b19 => Br b19 (∃ a20 : Addr, (some (a13.add (Int.toNat n7 * 6)) : Option Addr) = some
 a20 ∧ st w9 (a20.add 2) (.bool false) fun w21 => k10 (Int.tmod (wI (n7 + 1)) (s15.len:Int)) w21) (∃ a22 : Addr, c = some a22 ∧ st w9 (a22.add 2) (.int .i64 (Int.tmod (wI (n7 + 1)) (s15.len:Int))) fun w23 => Q (.pointer (some (a13.add
 (Int.toNat n7 * 6)))) w23))) (fun (n24 : Int) w25 => I5 n24 (wI (n8 + 1)) w25 ∧ μ6 n24 (wI (n8 + 1)) w25 < μ6 n7 n8 w9)) (Q (.pointer none) w9)
def A.cache_Cache_victim : AT := (.s .r (.s .r (.s (.s .r (.blk (.loop [(3, (.int .i64)), (15, (.int .i64))] [0, 14] (.s .r (.s (.c .l .l) (.s (.jk [(3, (.int .i64))] [0, 14, 15] (.blk (.s .r (.s .r (.blk (.s .r (.c .l (.s .r (.c .r (.s .r
 (.s .r .l))))))))))) .r)))))) (.s .r .l))))
theorem W.cache_Cache_victim_ok (c : Option Addr) (w : World) (Q : Value → World → Prop) (h : W.cache_Cache_victim c w Q) : Ret Tryz.prog F.cache_Cache_victim #[.pointer c] w Q := okF A.cache_Cache_victim Tryz.func205 (by kernel_rfl) (by kernel_rfl) h
def W.tree_change_two (c : Option Addr) (n_Leaf : Bool) (n_Keys : Sl) (n_Vals : Sl) (n_Kids : Sl) (w : World) (Q : Value → World → Prop) : Prop := Nx (w.alloc (.cells #[.bool n_Leaf, .slice n_Keys.a n_Keys.len n_Keys.cap, .slice n_Vals.a
 n_Vals.len n_Vals.cap, .slice n_Kids.a n_Kids.len n_Kids.cap] Ty.api_Node)) fun w1 => r3 w1 (nA w) fun b2 => r1 w1 (Addr.add (nA w) 1) fun s3 => r1 w1 (Addr.add (nA w) 2) fun s4 => r1 w1 (Addr.add (nA w) 3) fun s5 => c22 F.node_Split #[.agg
 #[.bool b2, .slice s3.a s3.len s3.cap, .slice s4.a s4.len s4.cap, .slice s5.a s5.len s5.cap]] w1 fun b8 s9 s10 s11 s12 b13 s14 s15 s16 b17 w6 => Nx (w6.alloc z1) fun w18 => Nx (w18.alloc z1) fun w19 => StoreOk w19 (nA w6) [.bool b8, .slice
 s9.a s9.len s9.cap, .slice s10.a s10.len s10.cap, .slice s11.a s11.len s11.cap] ∧ (4 : Nat) = 4 ∧ Nx (setCells w19 (nA w6) 0 [.bool b8, .slice s9.a s9.len s9.cap, .slice s10.a s10.len s10.cap, .slice s11.a s11.len s11.cap]) fun w20 =>
 StoreOk w20 (nA w18) [.bool b13, .slice s14.a s14.len s14.cap, .slice s15.a s15.len s15.cap, .slice s16.a s16.len s16.cap] ∧ (4 : Nat) = 4 ∧ Nx (setCells w20 (nA w18) 0 [.bool b13, .slice s14.a s14.len s14.cap, .slice s15.a s15.len s15.cap,
 .slice s16.a s16.len s16.cap]) fun w21 => Br (!b17) (Q (.tuple #[.slice none 0 0, .int .i64 4]) w21) (r3 w21 (nA w6) fun b22 => r1 w21 (Addr.add (nA w6) 1) fun s23 => r1 w21 (Addr.add (nA w6) 2) fun s24 => r1 w21 (Addr.add (nA w6) 3) fun
 s25 => c21 F.tree_change_put #[.pointer c, .agg #[.bool b22, .slice s23.a s23.len s23.cap, .slice s24.a s24.len s24.cap, .slice s25.a s25.len s25.cap]] w21 fun n28 n29 w26 => Br (n29 != 0) (Q (.tuple #[.slice none 0 0, .int .i64 n29]) w26)
 (r3 w26 (nA w18) fun b30 => r1 w26 (Addr.add (nA w18) 1) fun s31 => r1 w26 (Addr.add (nA w18) 2) fun s32 => r1 w26 (Addr.add (nA w18) 3) fun s33 => c21 F.tree_change_put #[.pointer c, .agg #[.bool b30, .slice s31.a s31.len s31.cap, .slice
 s32.a s32.len s32.cap, .slice s33.a s33.len s33.cap]] w26 fun n36 n37 w34 => ∃ s38 : Sl, ∃ w39 : World, Sem.run Tryz.prog (Instr.buildSlice Ty.Sl_tree_piece 2 #[(0, .agg #[.slice none 0 0, .int .i64 n28]), (1, .agg #[.slice s12.a s12.len
 s12.cap, .int .i64 n36])]) w34 = .ok (.slice s38.a s38.len s38.cap) w39 ∧ Q (.tuple #[.slice s38.a s38.len s38.cap, .int .i64 n37]) w39))
def A.tree_change_two : AT := (.s .r (.s .r (.s a1 (.s .r a12))))
theorem W.tree_change_two_ok (c : Option Addr) (n_Leaf : Bool) (n_Keys : Sl) (n_Vals : Sl) (n_Kids : Sl) (w : World) (Q : Value → World → Prop) (h : W.tree_change_two c n_Leaf n_Keys n_Vals n_Kids w Q) : Ret Tryz.prog F.tree_change_two #[.pointer c, .agg #[.bool n_Leaf, .slice n_Keys.a n_Keys.len n_Keys.cap, .slice n_Vals.a n_Vals.len n_Vals.cap, .slice n_Kids.a n_Kids.len n_Kids.cap]] w Q := okF A.tree_change_two Tryz.func206 (by kernel_rfl) (by kernel_rfl) h
def W.node_Encode (n_Leaf : Bool) (n_Keys : Sl) (n_Vals : Sl) (n_Kids : Sl) (w : World) (Q : Value → World → Prop) : Prop := Nx (w.alloc (.cells #[.bool n_Leaf, .slice n_Keys.a n_Keys.len n_Keys.cap, .slice n_Vals.a n_Vals.len n_Vals.cap,
 .slice n_Kids.a n_Kids.len n_Kids.cap] Ty.api_Node)) fun w1 => r3 w1 (nA w) fun b2 => r1 w1 (Addr.add (nA w) 1) fun s3 => r1 w1 (Addr.add (nA w) 2) fun s4 => r1 w1 (Addr.add (nA w) 3) fun s5 => c4 F.node_encode #[.agg #[.bool b2, .slice
 s3.a s3.len s3.cap, .slice s4.a s4.len s4.cap, .slice s5.a s5.len s5.cap]] w1 fun s8 n9 w6 => Q (.tuple #[.slice s8.a s8.len s8.cap, .int .i64 n9]) w6
def A.node_Encode : AT := (.s .r (.s .r .l))
theorem W.node_Encode_ok (n_Leaf : Bool) (n_Keys : Sl) (n_Vals : Sl) (n_Kids : Sl) (w : World) (Q : Value → World → Prop) (h : W.node_Encode n_Leaf n_Keys n_Vals n_Kids w Q) : Ret Tryz.prog F.node_Encode #[.agg #[.bool n_Leaf, .slice n_Keys.a n_Keys.len n_Keys.cap, .slice n_Vals.a n_Vals.len n_Vals.cap, .slice n_Kids.a n_Kids.len n_Kids.cap]] w Q := okF A.node_Encode Tryz.func207 (by kernel_rfl) (by kernel_rfl) h
def W.space_Space_Alloc (s : Option Addr) (w : World) (Q : Value → World → Prop) : Prop := Br (Option.isNone s) (Q (.tuple #[.int .i64 (-1), .int .i64 1]) w) (∃ a1 : Addr, s = some a1 ∧ r2 w a1 fun n2 => ∃ (I3 : Int → World → Prop) (μ4 :
 Int → World → Nat), I3 0 w ∧ ∀ (n5 : Int) (w6 : World), I3 n5 w6 → Br (decide (n5 < n2)) (c3 F.space_Space_taken #[.pointer s, .int .i64 n5] w6 fun b9 w7 => Br (!b9) (∃ a10 : Addr, s = some a10 ∧ r1 w7 (a10.add 1) fun s11 => c1
 F.space_set_put #[.slice s11.a s11.len s11.cap, .int .i64 n5] w7 fun w12 => Q (.tuple #[.int .i64 n5, .int .i64 0]) w12) (I3 (wI (n5 + 1)) w7 ∧ μ4 (wI (n5 + 1)) w7 < μ4 n5 w6)) (Q (.tuple #[.int .i64 (-1), .int .i64 2]) w6))
def A.space_Space_Alloc : AT := (.s .r (.s a1 (.s (.s .r (.blk (.loop [(11, (.int .i64))] [0, 10] (.s .r (.s (.c .l .l) (.s (.blk (.s .r (.s .r a6))) .r)))))) (.s .r .l))))
theorem W.space_Space_Alloc_ok (s : Option Addr) (w : World) (Q : Value → World → Prop) (h : W.space_Space_Alloc s w Q) : Ret Tryz.prog F.space_Space_Alloc #[.pointer s] w Q := okF A.space_Space_Alloc Tryz.func208 (by kernel_rfl) (by kernel_rfl) h
end Go.Proofs.YtplieiecebljmaaGreat
