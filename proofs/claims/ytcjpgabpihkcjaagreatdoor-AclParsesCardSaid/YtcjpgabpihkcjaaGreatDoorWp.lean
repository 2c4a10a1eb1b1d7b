/- Printed by gen.py: each function of the program as what must be shown of it. -/
import Derived.Test.YtcjpgabpihkcjaaGreatDoorGb
namespace Go.Proofs.YtcjpgabpihkcjaaGreatDoor
open Go Gx
set_option maxRecDepth 100000
/-- stanchion/acl.Show -/
def W.acl_Show (r : Array Value) (w : World) (Q : Value → World → Prop) : Prop :=
  Nx (w.alloc (.cells r Ty.api_Rule)) fun w1 => ∃ l2 : List Value, rdCells w1 ⟨w.heap.size, 0, none⟩ 0 40 = some l2 ∧
  Calls Tryz.prog F.acl_show #[.agg l2.toArray] w1 fun e4 w3 => ∃ s5 : ByteArray, e4 = .returned (.string s5) ∧
  Q (.string s5) w3
def A.acl_Show : AT := (.seq (.reg []) (.seq (.reg []) .leaf))
theorem W.acl_Show_eq (r : Array Value) (w : World) (Q : Value → World → Prop) : W.acl_Show r w Q = DF Tryz.prog tk A.acl_Show Tryz.f5 [.agg r] w Q := by kernel_rfl
theorem W.acl_Show_ok (r : Array Value) (w : World) (Q : Value → World → Prop) (h : W.acl_Show r w Q) : Calls Tryz.prog F.acl_Show #[.agg r] w fun e w1 => ∃ v, e = .returned v ∧ Q v w1 :=
  calls_of_DF hmix Tryz.func5 (by kernel_rfl) (Eq.mp (W.acl_Show_eq r w Q) h)

/-- stanchion/acl.Parse -/
def W.acl_Parse (s : ByteArray) (w : World) (Q : Value → World → Prop) : Prop :=
  Nx (
    w.alloc (
      .cells #[.bool false, .int .u8 0, .int .u8 0, .int .u8 0, .int .u8 0, .int .u8 0, .int .u8 0, .int .u8 0, .int .u8 0, .int .u8 0, .int .u8 0, .int .u8 0, .int .u8 0, .int .u8 0, .int .u8 0, .int .u8 0, .int .u8 0, .int .i64 0, .bool false, .int .u8 0, .int .u8 0, .int .u8 0, .int .u8 0, .int .u8 0, .int .u8 0, .int .u8 0, .int .u8 0, .int .u8 0, .int .u8 0, .int .u8 0, .int .u8 0, .int .u8 0, .int .u8 0, .int .u8 0, .int .u8 0, .int .i64 0, .int .u8 0, .int .u16 0, .int .u16 0, .bool false] Ty.api_Rule)
    )
  fun w1 => Calls Tryz.prog F.strings_Split #[.string s, .string (ByteArray.mk #[32])] w1 fun e3 w2 =>
  ∃ s4 : Sl, e3 = .returned (.slice s4.a s4.len s4.cap) ∧ (
    ((((s4.len : Nat) : Int) : Int) != 5) = true → ∃ c5 : Array Value, Sem.run Tryz.prog (Instr.build Ty.api_Rule #[]) w2 = .ok (.agg c5) w2 ∧
    StoreOk w2 ⟨w.heap.size, 0, none⟩ (Array.toList c5) ∧ Array.size c5 = 40 ∧
    Nx (setCells w2 ⟨w.heap.size, 0, none⟩ 0 (Array.toList c5)) fun w6 => ∃ l7 : List Value, rdCells w6 ⟨w.heap.size, 0, none⟩ 0 40 = some l7 ∧
    Q (.tuple #[.agg l7.toArray, .bool false]) w6)
  ∧ (
    ((((s4.len : Nat) : Int) : Int) != 5) = false → ∃ a8 : Addr, s4.a = some a8 ∧
    ((0 : Int) ≤ 1 ∧ 1 < ((s4.len : Nat) : Int)) ∧ ∃ s9 : ByteArray, w2.cell? (a8.add (Int.toNat 1 * 1)) = some (.string s9) ∧
    Calls Tryz.prog F.acl_unproto #[.string s9] w2 fun e11 w10 => ∃ n12 : Int, ∃ b13 : Bool, e11 = .returned (.tuple #[.int .u8 n12, .bool b13]) ∧
    ∃ a14 : Addr, s4.a = some a14 ∧ ((0 : Int) ≤ 2 ∧ 2 < ((s4.len : Nat) : Int)) ∧
    ∃ s15 : ByteArray, w10.cell? (a14.add (Int.toNat 2 * 1)) = some (.string s15) ∧
    Calls Tryz.prog F.addr_ParsePrefix #[.string s15] w10 fun e17 w16 => ∃ c18 : Array Value, ∃ b19 : Bool, e17 = .returned (.tuple #[.agg c18, .bool b19]) ∧
    Nx (
      w16.alloc (
        .cells #[.bool false, .int .u8 0, .int .u8 0, .int .u8 0, .int .u8 0, .int .u8 0, .int .u8 0, .int .u8 0, .int .u8 0, .int .u8 0, .int .u8 0, .int .u8 0, .int .u8 0, .int .u8 0, .int .u8 0, .int .u8 0, .int .u8 0, .int .i64 0] Ty.api_Prefix)
      )
    fun w20 => StoreOk w20 ⟨w16.heap.size, 0, none⟩ (Array.toList c18) ∧ Array.size c18 = 18 ∧
    Nx (setCells w20 ⟨w16.heap.size, 0, none⟩ 0 (Array.toList c18)) fun w21 =>
    ∃ a22 : Addr, s4.a = some a22 ∧ ((0 : Int) ≤ 3 ∧ 3 < ((s4.len : Nat) : Int)) ∧
    ∃ s23 : ByteArray, w21.cell? (a22.add (Int.toNat 3 * 1)) = some (.string s23) ∧
    Calls Tryz.prog F.addr_ParsePrefix #[.string s23] w21 fun e25 w24 => ∃ c26 : Array Value, ∃ b27 : Bool, e25 = .returned (.tuple #[.agg c26, .bool b27]) ∧
    Nx (
      w24.alloc (
        .cells #[.bool false, .int .u8 0, .int .u8 0, .int .u8 0, .int .u8 0, .int .u8 0, .int .u8 0, .int .u8 0, .int .u8 0, .int .u8 0, .int .u8 0, .int .u8 0, .int .u8 0, .int .u8 0, .int .u8 0, .int .u8 0, .int .u8 0, .int .i64 0] Ty.api_Prefix)
      )
    fun w28 => StoreOk w28 ⟨w24.heap.size, 0, none⟩ (Array.toList c26) ∧ Array.size c26 = 18 ∧
    Nx (setCells w28 ⟨w24.heap.size, 0, none⟩ 0 (Array.toList c26)) fun w29 =>
    ∃ a30 : Addr, s4.a = some a30 ∧ ((0 : Int) ≤ 4 ∧ 4 < ((s4.len : Nat) : Int)) ∧
    ∃ s31 : ByteArray, w29.cell? (a30.add (Int.toNat 4 * 1)) = some (.string s31) ∧
    Calls Tryz.prog F.strings_Cut #[.string s31, .string (ByteArray.mk #[45])] w29 fun e33 w32 =>
    ∃ s34 : ByteArray, ∃ s35 : ByteArray, ∃ b36 : Bool, e33 = .returned (.tuple #[.string s34, .string s35, .bool b36]) ∧
    Calls Tryz.prog F.acl_number #[.string s34, .int .i64 16] w32 fun e38 w37 =>
    ∃ n39 : Int, ∃ b40 : Bool, e38 = .returned (.tuple #[.int .u64 n39, .bool b40]) ∧
    Calls Tryz.prog F.acl_number #[.string s35, .int .i64 16] w37 fun e42 w41 =>
    ∃ n43 : Int, ∃ b44 : Bool, e42 = .returned (.tuple #[.int .u64 n43, .bool b44]) ∧
    Nx (w41.drew) fun w45 => ∃ W46 : Nat → Prop, ¬ W46 (⟨w16.heap.size, 0, none⟩ : Addr).block ∧
    ∃ l47 : List Value, rdCells w45 ⟨w16.heap.size, 0, none⟩ 0 18 = some l47 ∧
    ¬ W46 (⟨w24.heap.size, 0, none⟩ : Addr).block ∧ ∃ l48 : List Value, rdCells w45 ⟨w24.heap.size, 0, none⟩ 0 18 = some l48 ∧
    ∃ a49 : Addr, s4.a = some a49 ∧ ((0 : Int) ≤ 0 ∧ 0 < ((s4.len : Nat) : Int)) ∧
    ¬ W46 (a49.add (Int.toNat 0 * 1)).block ∧ ∃ s50 : ByteArray, w45.cell? (a49.add (Int.toNat 0 * 1)) = some (.string s50) ∧
    ∃ c51 : Array Value, (
      ∀ w52 : World, Sem.run Tryz.prog (
        Instr.build Ty.api_Rule #[(0, .agg l47.toArray), (1, .agg l48.toArray), (2, .int .u8 n12), (3, .int .u16 (IntKind.wrap .u16 n39)), (4, .int .u16 (IntKind.wrap .u16 n43)), (5, .bool (ByteArray.toList s50 == ByteArray.toList (ByteArray.mk #[97, 108, 108, 111, 119])))])
      w52 = .ok (.agg c51) w52)
    ∧ Nx (
      w45.alloc (
        .cells #[.bool false, .int .u8 0, .int .u8 0, .int .u8 0, .int .u8 0, .int .u8 0, .int .u8 0, .int .u8 0, .int .u8 0, .int .u8 0, .int .u8 0, .int .u8 0, .int .u8 0, .int .u8 0, .int .u8 0, .int .u8 0, .int .u8 0, .int .i64 0, .bool false, .int .u8 0, .int .u8 0, .int .u8 0, .int .u8 0, .int .u8 0, .int .u8 0, .int .u8 0, .int .u8 0, .int .u8 0, .int .u8 0, .int .u8 0, .int .u8 0, .int .u8 0, .int .u8 0, .int .u8 0, .int .u8 0, .int .i64 0, .int .u8 0, .int .u16 0, .int .u16 0, .bool false] Ty.api_Rule)
      )
    fun w53 => Chg W46 w45 w53 ∧ StoreOk w53 ⟨w45.heap.size, 0, none⟩ (Array.toList c51) ∧
    Array.size c51 = 40 ∧ Nx (setCells w53 ⟨w45.heap.size, 0, none⟩ 0 (Array.toList c51)) fun w54 =>
    Jn (
      fun k55 : Bool → World → Prop => ((((((!b13) || (!b19)) || (!b27)) || (!b40)) || (!b44)) = true → k55 true w54) ∧
      (
        (((((!b13) || (!b19)) || (!b27)) || (!b40)) || (!b44)) = false → ∃ l56 : List Value, rdCells w54 ⟨w45.heap.size, 0, none⟩ 0 40 = some l56 ∧
        Calls Tryz.prog F.acl_show #[.agg l56.toArray] w54 fun e58 w57 => ∃ s59 : ByteArray, e58 = .returned (.string s59) ∧
        k55 (!(ByteArray.toList s59 == ByteArray.toList s)) w57)
      )
    (
      fun (b60 : Bool) (w61 : World) => (
        b60 = true → ∃ c62 : Array Value, Sem.run Tryz.prog (Instr.build Ty.api_Rule #[]) w61 = .ok (.agg c62) w61 ∧
        StoreOk w61 ⟨w.heap.size, 0, none⟩ (Array.toList c62) ∧ Array.size c62 = 40 ∧
        Nx (setCells w61 ⟨w.heap.size, 0, none⟩ 0 (Array.toList c62)) fun w63 => ∃ l64 : List Value, rdCells w63 ⟨w.heap.size, 0, none⟩ 0 40 = some l64 ∧
        Q (.tuple #[.agg l64.toArray, .bool false]) w63)
      ∧ (
        b60 = false → ∃ l65 : List Value, rdCells w61 ⟨w45.heap.size, 0, none⟩ 0 40 = some l65 ∧
        StoreOk w61 ⟨w.heap.size, 0, none⟩ (Array.toList l65.toArray) ∧ Array.size l65.toArray = 40 ∧
        Nx (setCells w61 ⟨w.heap.size, 0, none⟩ 0 (Array.toList l65.toArray)) fun w66 =>
        ∃ l67 : List Value, rdCells w66 ⟨w.heap.size, 0, none⟩ 0 40 = some l67 ∧ Q (.tuple #[.agg l67.toArray, .bool true]) w66)
      )
    )
def A.acl_Parse : AT := (.seq (.reg []) (.seq (.reg []) (.seq (.seq (.reg []) (.cond (.seq (.reg []) .leaf) .leaf)) (.seq (.reg []) (.seq (.reg []) (.seq (.reg []) (.seq (.reg []) (.seq (.reg []) (.seq (.reg []) (.seq (.drw 13 true ⟨[0, 0, 0, 0, 8, 0, 32, 0, 128, 256, 512, 1111, 0, 8191], [0, 0, 0, 0, 8, 0, 32, 0, 128, 256, 512, 1111, 0, 6144]⟩ [18446744073709551616, 36893488147419103232, 73786976294838206464, 147573952589676412928, 295147905179352825856, 590295810358705651712, 1180591620717411303424, 2361183241434822606848, 4722366482869645213696, 9444732965739290427392, 18889465931478580854784, 37778931862957161709568, 262144, 0] [128, 512, 32, 16384, 147573952589676412928, 65536, 590295810358705651712, 16, 2361183241434822606848, 4722366482869645213696, 9444732965739290427392, 20494332665891311845376, 0, 37778931862957161971712] (.take 0 (.take 1 (.take 2 (.take 3 (.take 4 (.take 5 (.take 6 (.take 7 (.take 8 (.take 9 (.take 10 (.take 11 (.eff 12 (.tail [.run]))))))))))))))) (.seq (.seq (.reg [.run, .run, .run, .pure 2, .run, .run, .run, .pure 2, .run, .run, .run, .pure 2, .run, .run, .run, .pure 2, .run, .run, .run, .split 4]) (.cond (.seq (.reg []) .leaf) .leaf)) (.seq (.reg []) .leaf))))))))))))
theorem W.acl_Parse_eq (s : ByteArray) (w : World) (Q : Value → World → Prop) : W.acl_Parse s w Q = DF Tryz.prog tk A.acl_Parse Tryz.f6 [.string s] w Q := by kernel_rfl
theorem W.acl_Parse_ok (s : ByteArray) (w : World) (Q : Value → World → Prop) (h : W.acl_Parse s w Q) : Calls Tryz.prog F.acl_Parse #[.string s] w fun e w1 => ∃ v, e = .returned v ∧ Q v w1 :=
  calls_of_DF hmix Tryz.func6 (by kernel_rfl) (Eq.mp (W.acl_Parse_eq s w Q) h)

/-- stanchion/acl.show -/
def W.acl_show (r : Array Value) (w : World) (Q : Value → World → Prop) : Prop :=
  Nx (w.alloc (.cells r Ty.api_Rule)) fun w1 => ∃ l2 : List Value, rdCells w1 ⟨w.heap.size, 0, none⟩ 0 40 = some l2 ∧
  Calls Tryz.prog F.acl_good #[.agg l2.toArray] w1 fun e4 w3 => ∃ b5 : Bool, e4 = .returned (.bool b5) ∧
  ((!b5) = true → Q (.string (ByteArray.mk #[])) w3) ∧ (
    (!b5) = false → Jn (
      fun k6 : ByteArray → World → Prop => ∃ b7 : Bool, w3.cell? (Addr.add ⟨w.heap.size, 0, none⟩ 39) = some (.bool b7) ∧
      (b7 = true → k6 (ByteArray.mk #[97, 108, 108, 111, 119]) w3) ∧ (b7 = false → k6 (ByteArray.mk #[100, 101, 110, 121]) w3))
    (
      fun (s8 : ByteArray) (w9 : World) => Nx (w9.drew) fun w10 => ∃ W11 : Nat →
      Prop, ¬ W11 (Addr.add ⟨w.heap.size, 0, none⟩ 37).block ∧ ∃ n12 : Int, w10.cell? (Addr.add ⟨w.heap.size, 0, none⟩ 37) = some (.int .u16 n12) ∧
      ¬ W11 (Addr.add ⟨w.heap.size, 0, none⟩ 38).block ∧ ∃ n13 : Int, w10.cell? (Addr.add ⟨w.heap.size, 0, none⟩ 38) = some (.int .u16 n13) ∧
      Calls Tryz.prog F.strconv_Itoa #[.int .i64 (IntKind.wrap .i64 n12)] w10 fun e15 w14 =>
      ∃ s16 : ByteArray, e15 = .returned (.string s16) ∧ Chg W11 w10 w14 ∧ ((ByteArray.size s16 + ByteArray.size (ByteArray.mk #[45]) : Nat) : Int) ≤ 9223372036854775807 ∧
      Calls Tryz.prog F.strconv_Itoa #[.int .i64 (IntKind.wrap .i64 n13)] w14 fun e18 w17 =>
      ∃ s19 : ByteArray, e18 = .returned (.string s19) ∧ Chg W11 w14 w17 ∧ ((ByteArray.size (s16 ++ (ByteArray.mk #[45])) + ByteArray.size s19 : Nat) : Int) ≤ 9223372036854775807 ∧
      Nx (w17.drew) fun w20 => ∃ W21 : Nat → Prop, ¬ W21 (Addr.add ⟨w.heap.size, 0, none⟩ 36).block ∧
      ∃ n22 : Int, w20.cell? (Addr.add ⟨w.heap.size, 0, none⟩ 36) = some (.int .u8 n22) ∧
      ¬ W21 (⟨w.heap.size, 0, none⟩ : Addr).block ∧ ∃ l23 : List Value, rdCells w20 ⟨w.heap.size, 0, none⟩ 0 18 = some l23 ∧
      ¬ W21 (Addr.add ⟨w.heap.size, 0, none⟩ 18).block ∧ ∃ l24 : List Value, rdCells w20 (Addr.add ⟨w.heap.size, 0, none⟩ 18) 0 18 = some l24 ∧
      Calls Tryz.prog F.acl_proto #[.int .u8 n22] w20 fun e26 w25 => ∃ s27 : ByteArray, e26 = .returned (.string s27) ∧
      Chg W21 w20 w25 ∧ Calls Tryz.prog F.addr_ShowPrefix #[.agg l23.toArray] w25 fun e29 w28 =>
      ∃ s30 : ByteArray, e29 = .returned (.string s30) ∧ Chg W21 w25 w28 ∧ Calls Tryz.prog F.addr_ShowPrefix #[.agg l24.toArray] w28 fun e32 w31 =>
      ∃ s33 : ByteArray, e32 = .returned (.string s33) ∧ Chg W21 w28 w31 ∧ Nx (
        w31.alloc (
          .cells #[.string s8, .string s27, .string s30, .string s33, .string ((s16 ++ (ByteArray.mk #[45])) ++ s19)] Ty.string)
        )
      fun w34 => Calls Tryz.prog F.strings_Join #[.slice (some ⟨w31.heap.size, 0, none⟩) 5 5, .string (ByteArray.mk #[32])] w34 fun e36 w35 =>
      ∃ s37 : ByteArray, e36 = .returned (.string s37) ∧ Q (.string s37) w35)
    )
def A.acl_show : AT := (.seq (.reg []) (.seq (.seq (.reg []) (.cond (.seq (.reg []) .leaf) .leaf)) (.seq (.reg []) (.seq (.jk [(3, .str)] [1] (.seq (.reg []) (.cond (.reg []) .leaf))) (.seq (.drw 9 true ⟨[0, 1, 2, 4, 8, 0, 32, 64, 136, 272, 1023], [0, 1, 2, 4, 8, 0, 32, 64, 128, 272, 512]⟩ [1024, 2048, 4096, 8192, 16384, 32768, 65536, 131072, 262144, 524288, 16] [2, 1024, 2048, 4096, 8192, 2, 32768, 65536, 131072, 278528, 524288] (.take 0 (.take 1 (.take 2 (.take 5 (.take 6 (.take 7 (.eff 3 (.take 4 (.eff 8 (.tail [.run, .run]))))))))))) (.seq (.drw 11 true ⟨[0, 0, 2, 4, 0, 16, 40, 0, 128, 320, 0, 1609, 2560, 8191], [0, 0, 2, 4, 0, 16, 32, 0, 128, 256, 0, 1609, 2048, 4096]⟩ [1048576, 2097152, 4194304, 8388608, 16777216, 33554432, 67108864, 134217728, 268435456, 536870912, 1073741824, 2147483648, 4294967296, 4] [8, 2, 2097152, 4194304, 2, 16777216, 33554432, 2, 134217728, 268435456, 16, 1687158784, 2147483648, 4294967296] (.take 0 (.take 1 (.take 2 (.take 4 (.take 5 (.take 7 (.take 8 (.take 10 (.eff 3 (.eff 6 (.eff 9 (.tail [.run, .run, .run]))))))))))))) .leaf))))))
theorem W.acl_show_eq (r : Array Value) (w : World) (Q : Value → World → Prop) : W.acl_show r w Q = DF Tryz.prog tk A.acl_show Tryz.f9 [.agg r] w Q := by kernel_rfl
theorem W.acl_show_ok (r : Array Value) (w : World) (Q : Value → World → Prop) (h : W.acl_show r w Q) : Calls Tryz.prog F.acl_show #[.agg r] w fun e w1 => ∃ v, e = .returned v ∧ Q v w1 :=
  calls_of_DF hmix Tryz.func9 (by kernel_rfl) (Eq.mp (W.acl_show_eq r w Q) h)

/-- stanchion/acl.unproto -/
def W.acl_unproto (s : ByteArray) (w : World) (Q : Value → World → Prop) : Prop :=
  (
    (ByteArray.toList s == ByteArray.toList (ByteArray.mk #[97, 110, 121])) = true →
    Q (.tuple #[.int .u8 0, .bool true]) w)
  ∧ (
    (ByteArray.toList s == ByteArray.toList (ByteArray.mk #[97, 110, 121])) = false →
    (
      (ByteArray.toList s == ByteArray.toList (ByteArray.mk #[116, 99, 112])) = true →
      Q (.tuple #[.int .u8 6, .bool true]) w)
    ∧ (
      (ByteArray.toList s == ByteArray.toList (ByteArray.mk #[116, 99, 112])) = false →
      (
        (ByteArray.toList s == ByteArray.toList (ByteArray.mk #[117, 100, 112])) = true →
        Q (.tuple #[.int .u8 17, .bool true]) w)
      ∧ (
        (ByteArray.toList s == ByteArray.toList (ByteArray.mk #[117, 100, 112])) = false →
        Calls Tryz.prog F.acl_number #[.string s, .int .i64 8] w fun e2 w1 => ∃ n3 : Int, ∃ b4 : Bool, e2 = .returned (.tuple #[.int .u64 n3, .bool b4]) ∧
        Q (.tuple #[.int .u8 (IntKind.wrap .u8 n3), .bool b4]) w1)
      )
    )
def A.acl_unproto : AT := (.seq (.reg []) (.seq (.seq (.reg []) (.blk (.seq (.reg []) (.cond (.seq (.reg []) .leaf) (.seq (.reg []) (.cond (.seq (.reg []) .leaf) (.seq (.reg []) (.cond (.seq (.reg []) .leaf) .leaf)))))))) (.seq (.reg []) (.seq (.reg []) .leaf))))
theorem W.acl_unproto_eq (s : ByteArray) (w : World) (Q : Value → World → Prop) : W.acl_unproto s w Q = DF Tryz.prog tk A.acl_unproto Tryz.f11 [.string s] w Q := by kernel_rfl
theorem W.acl_unproto_ok (s : ByteArray) (w : World) (Q : Value → World → Prop) (h : W.acl_unproto s w Q) : Calls Tryz.prog F.acl_unproto #[.string s] w fun e w1 => ∃ v, e = .returned v ∧ Q v w1 :=
  calls_of_DF hmix Tryz.func11 (by kernel_rfl) (Eq.mp (W.acl_unproto_eq s w Q) h)

/-- stanchion/addr.ParsePrefix -/
def W.addr_ParsePrefix (s : ByteArray) (w : World) (Q : Value → World → Prop) : Prop :=
  Nx (
    w.alloc (
      .cells #[.bool false, .int .u8 0, .int .u8 0, .int .u8 0, .int .u8 0, .int .u8 0, .int .u8 0, .int .u8 0, .int .u8 0, .int .u8 0, .int .u8 0, .int .u8 0, .int .u8 0, .int .u8 0, .int .u8 0, .int .u8 0, .int .u8 0, .int .i64 0] Ty.api_Prefix)
    )
  fun w1 => Calls Tryz.prog F.strings_Cut #[.string s, .string (ByteArray.mk #[47])] w1 fun e3 w2 =>
  ∃ s4 : ByteArray, ∃ s5 : ByteArray, ∃ b6 : Bool, e3 = .returned (.tuple #[.string s4, .string s5, .bool b6]) ∧
  Calls Tryz.prog F.addr_parse #[.string s4] w2 fun e8 w7 => ∃ c9 : Array Value, ∃ b10 : Bool, e8 = .returned (.tuple #[.agg c9, .bool b10]) ∧
  Nx (
    w7.alloc (
      .cells #[.bool false, .int .u8 0, .int .u8 0, .int .u8 0, .int .u8 0, .int .u8 0, .int .u8 0, .int .u8 0, .int .u8 0, .int .u8 0, .int .u8 0, .int .u8 0, .int .u8 0, .int .u8 0, .int .u8 0, .int .u8 0, .int .u8 0] Ty.api_Addr)
    )
  fun w11 => StoreOk w11 ⟨w7.heap.size, 0, none⟩ (Array.toList c9) ∧ Array.size c9 = 17 ∧
  Nx (setCells w11 ⟨w7.heap.size, 0, none⟩ 0 (Array.toList c9)) fun w12 => Calls Tryz.prog F.strconv_Atoi #[.string s5] w12 fun e14 w13 =>
  ∃ n15 : Int, ∃ v16 : Value, e14 = .returned (.tuple #[.int .i64 n15, v16]) ∧
  ∃ l17 : List Value, rdCells w13 ⟨w7.heap.size, 0, none⟩ 0 17 = some l17 ∧
  ∃ c18 : Array Value, Sem.run Tryz.prog (Instr.build Ty.api_Prefix #[(0, .agg l17.toArray), (1, .int .i64 n15)]) w13 = .ok (.agg c18) w13 ∧
  Nx (
    w13.alloc (
      .cells #[.bool false, .int .u8 0, .int .u8 0, .int .u8 0, .int .u8 0, .int .u8 0, .int .u8 0, .int .u8 0, .int .u8 0, .int .u8 0, .int .u8 0, .int .u8 0, .int .u8 0, .int .u8 0, .int .u8 0, .int .u8 0, .int .u8 0, .int .i64 0] Ty.api_Prefix)
    )
  fun w19 => StoreOk w19 ⟨w13.heap.size, 0, none⟩ (Array.toList c18) ∧ Array.size c18 = 18 ∧
  Nx (setCells w19 ⟨w13.heap.size, 0, none⟩ 0 (Array.toList c18)) fun w20 =>
  Jn (
    fun k21 : Bool → World → Prop => ((!b10) = true → k21 true w20) ∧ ((!b10) = false → ∃ b22 : Bool, ifaceNil v16 = some b22 ∧ k21 (!b22) w20))
  (
    fun (b23 : Bool) (w24 : World) => Jn (
      fun k25 : Bool → World → Prop => (b23 = true → k25 true w24) ∧ (
        b23 = false → ∃ l26 : List Value, rdCells w24 ⟨w13.heap.size, 0, none⟩ 0 18 = some l26 ∧
        Calls Tryz.prog F.addr_showPrefix #[.agg l26.toArray] w24 fun e28 w27 => ∃ s29 : ByteArray, e28 = .returned (.string s29) ∧
        k25 (!(ByteArray.toList s29 == ByteArray.toList s)) w27)
      )
    (
      fun (b30 : Bool) (w31 : World) => (
        b30 = true → ∃ c32 : Array Value, Sem.run Tryz.prog (Instr.build Ty.api_Prefix #[]) w31 = .ok (.agg c32) w31 ∧
        StoreOk w31 ⟨w.heap.size, 0, none⟩ (Array.toList c32) ∧ Array.size c32 = 18 ∧
        Nx (setCells w31 ⟨w.heap.size, 0, none⟩ 0 (Array.toList c32)) fun w33 => ∃ l34 : List Value, rdCells w33 ⟨w.heap.size, 0, none⟩ 0 18 = some l34 ∧
        Q (.tuple #[.agg l34.toArray, .bool false]) w33)
      ∧ (
        b30 = false → ∃ l35 : List Value, rdCells w31 ⟨w13.heap.size, 0, none⟩ 0 18 = some l35 ∧
        StoreOk w31 ⟨w.heap.size, 0, none⟩ (Array.toList l35.toArray) ∧ Array.size l35.toArray = 18 ∧
        Nx (setCells w31 ⟨w.heap.size, 0, none⟩ 0 (Array.toList l35.toArray)) fun w36 =>
        ∃ l37 : List Value, rdCells w36 ⟨w.heap.size, 0, none⟩ 0 18 = some l37 ∧ Q (.tuple #[.agg l37.toArray, .bool true]) w36)
      )
    )
def A.addr_ParsePrefix : AT := (.seq (.reg []) (.seq (.reg []) (.seq (.reg []) (.seq (.reg []) (.seq (.reg []) (.seq (.seq (.reg [.run, .run, .run, .split 2, .run, .run, .run, .split 4]) (.cond (.seq (.reg []) .leaf) .leaf)) (.seq (.reg []) .leaf)))))))
theorem W.addr_ParsePrefix_eq (s : ByteArray) (w : World) (Q : Value → World → Prop) : W.addr_ParsePrefix s w Q = DF Tryz.prog tk A.addr_ParsePrefix Tryz.f12 [.string s] w Q := by kernel_rfl
theorem W.addr_ParsePrefix_ok (s : ByteArray) (w : World) (Q : Value → World → Prop) (h : W.addr_ParsePrefix s w Q) : Calls Tryz.prog F.addr_ParsePrefix #[.string s] w fun e w1 => ∃ v, e = .returned v ∧ Q v w1 :=
  calls_of_DF hmix Tryz.func12 (by kernel_rfl) (Eq.mp (W.addr_ParsePrefix_eq s w Q) h)

/-- stanchion/acl.number -/
def W.acl_number (s : ByteArray) (bits : Int) (w : World) (Q : Value → World → Prop) : Prop :=
  Calls Tryz.prog F.strconv_ParseUint #[.string s, .int .i64 10, .int .i64 bits] w fun e2 w1 =>
  ∃ n3 : Int, ∃ v4 : Value, e2 = .returned (.tuple #[.int .u64 n3, v4]) ∧ Nx (w1.drew) fun w5 =>
  ∃ b6 : Bool, ifaceNil v4 = some b6 ∧ Q (.tuple #[.int .u64 n3, .bool b6]) w5
def A.acl_number : AT := (.seq (.reg []) (.seq (.reg []) (.seq (.drw 4 false ⟨[0, 0, 2, 1, 15], [0, 0, 2, 1, 4]⟩ [16384, 32768, 65536, 16, 32] [64, 128, 32768, 16384, 65536] (.take 0 (.take 1 (.take 2 (.take 3 (.tail [.run])))))) .leaf)))
theorem W.acl_number_eq (s : ByteArray) (bits : Int) (w : World) (Q : Value → World → Prop) : W.acl_number s bits w Q = DF Tryz.prog tk A.acl_number Tryz.f14 [.string s, .int .i64 bits] w Q := by kernel_rfl
theorem W.acl_number_ok (s : ByteArray) (bits : Int) (w : World) (Q : Value → World → Prop) (h : W.acl_number s bits w Q) : Calls Tryz.prog F.acl_number #[.string s, .int .i64 bits] w fun e w1 => ∃ v, e = .returned v ∧ Q v w1 :=
  calls_of_DF hmix Tryz.func14 (by kernel_rfl) (Eq.mp (W.acl_number_eq s bits w Q) h)

/-- stanchion/acl.First -/
def W.acl_First (l : Sl) (f : Array Value) (w : World) (Q : Value → World → Prop) : Prop :=
  Nx (w.alloc (.cells f Ty.api_Flow)) fun w1 => Calls Tryz.prog F.slices_IndexFunc_Sl_api_Rule_api_Rule #[.slice l.a l.len l.cap, .func (.func F.acl_First_1) #[] #[.pointer (some ⟨w.heap.size, 0, none⟩)]] w1 fun e3 w2 =>
  ∃ n4 : Int, e3 = .returned (.int .i64 n4) ∧ Nx (w2.drew) fun w5 => ((decide ((n4 : Int) < 0)) = true → Q (.tuple #[.int .i64 n4, .bool true]) w5) ∧
  (
    (decide ((n4 : Int) < 0)) = false → ∃ a6 : Addr, l.a = some a6 ∧ ((0 : Int) ≤ n4 ∧ n4 < ((l.len : Nat) : Int)) ∧
    ¬ False ∧ ∃ b7 : Bool, w5.cell? ((a6.add (Int.toNat n4 * 40)).add 39) = some (.bool b7) ∧
    Q (.tuple #[.int .i64 n4, .bool b7]) w5)
def A.acl_First : AT := (.seq (.reg []) (.seq (.reg []) (.seq (.drw 11 false ⟨[0, 0, 2, 4, 8, 8, 56, 72, 136, 264, 9, 2047], [0, 0, 2, 4, 8, 8, 56, 72, 136, 264, 1, 512]⟩ [1024, 2048, 4096, 8192, 16384, 32768, 65536, 131072, 262144, 524288, 16, 32] [64, 64, 2048, 4096, 8193, 8256, 57344, 73728, 139264, 270336, 1024, 524288] (.take 0 (.take 1 (.take 2 (.take 3 (.take 10 (.sp 13 (.take 4 (.take 5 (.take 6 (.take 7 (.take 8 (.take 9 (.tail [.run]))))))) (.take 4 (.take 5 (.take 6 (.take 7 (.take 8 (.take 9 (.tail [.run])))))))))))))) .leaf)))
theorem W.acl_First_eq (l : Sl) (f : Array Value) (w : World) (Q : Value → World → Prop) : W.acl_First l f w Q = DF Tryz.prog tk A.acl_First Tryz.f18 [.slice l.a l.len l.cap, .agg f] w Q := by kernel_rfl
theorem W.acl_First_ok (l : Sl) (f : Array Value) (w : World) (Q : Value → World → Prop) (h : W.acl_First l f w Q) : Calls Tryz.prog F.acl_First #[.slice l.a l.len l.cap, .agg f] w fun e w1 => ∃ v, e = .returned v ∧ Q v w1 :=
  calls_of_DF hmix Tryz.func18 (by kernel_rfl) (Eq.mp (W.acl_First_eq l f w Q) h)

/-- stanchion/acl.Good -/
def W.acl_Good (r : Array Value) (w : World) (Q : Value → World → Prop) : Prop :=
  Nx (w.alloc (.cells r Ty.api_Rule)) fun w1 => ∃ l2 : List Value, rdCells w1 ⟨w.heap.size, 0, none⟩ 0 40 = some l2 ∧
  Calls Tryz.prog F.acl_good #[.agg l2.toArray] w1 fun e4 w3 => ∃ b5 : Bool, e4 = .returned (.bool b5) ∧
  Q (.bool b5) w3
def A.acl_Good : AT := (.seq (.reg []) (.seq (.reg []) .leaf))
theorem W.acl_Good_eq (r : Array Value) (w : World) (Q : Value → World → Prop) : W.acl_Good r w Q = DF Tryz.prog tk A.acl_Good Tryz.f19 [.agg r] w Q := by kernel_rfl
theorem W.acl_Good_ok (r : Array Value) (w : World) (Q : Value → World → Prop) (h : W.acl_Good r w Q) : Calls Tryz.prog F.acl_Good #[.agg r] w fun e w1 => ∃ v, e = .returned v ∧ Q v w1 :=
  calls_of_DF hmix Tryz.func19 (by kernel_rfl) (Eq.mp (W.acl_Good_eq r w Q) h)

/-- stanchion/acl.good -/
def W.acl_good (r : Array Value) (w : World) (Q : Value → World → Prop) : Prop :=
  Nx (w.alloc (.cells r Ty.api_Rule)) fun w1 => ∃ l2 : List Value, rdCells w1 ⟨w.heap.size, 0, none⟩ 0 18 = some l2 ∧
  Calls Tryz.prog F.acl_prefix #[.agg l2.toArray] w1 fun e4 w3 => ∃ b5 : Bool, e4 = .returned (.bool b5) ∧
  Jn (
    fun k6 : Bool → World → Prop => (
      b5 = true → ∃ l7 : List Value, rdCells w3 (Addr.add ⟨w.heap.size, 0, none⟩ 18) 0 18 = some l7 ∧
      Calls Tryz.prog F.acl_prefix #[.agg l7.toArray] w3 fun e9 w8 => ∃ b10 : Bool, e9 = .returned (.bool b10) ∧
      k6 b10 w8)
    ∧ (b5 = false → k6 false w3))
  (
    fun (b11 : Bool) (w12 : World) => Jn (
      fun k13 : Bool → World → Prop => (
        b11 = true → ∃ b14 : Bool, w12.cell? ⟨w.heap.size, 0, none⟩ = some (.bool b14) ∧
        ∃ b15 : Bool, w12.cell? (Addr.add ⟨w.heap.size, 0, none⟩ 18) = some (.bool b15) ∧
        k13 (b14 == b15) w12)
      ∧ (b11 = false → k13 false w12))
    (
      fun (b16 : Bool) (w17 : World) => Jn (
        fun k18 : Bool → World → Prop => (
          b16 = true → ∃ n19 : Int, w17.cell? (Addr.add ⟨w.heap.size, 0, none⟩ 37) = some (.int .u16 n19) ∧
          ∃ n20 : Int, w17.cell? (Addr.add ⟨w.heap.size, 0, none⟩ 38) = some (.int .u16 n20) ∧
          k18 (decide ((n19 : Int) ≤ n20)) w17)
        ∧ (b16 = false → k18 false w17))
      (fun (b21 : Bool) (w22 : World) => Q (.bool b21) w22))
    )
def A.acl_good : AT := (.seq (.reg []) (.seq (.reg [.run, .run, .run, .run, .split 3, .run, .run, .run, .run, .split 9, .run, .run, .run, .run, .run, .run, .run, .run, .run, .run, .split 5]) .leaf))
theorem W.acl_good_eq (r : Array Value) (w : World) (Q : Value → World → Prop) : W.acl_good r w Q = DF Tryz.prog tk A.acl_good Tryz.f20 [.agg r] w Q := by kernel_rfl
theorem W.acl_good_ok (r : Array Value) (w : World) (Q : Value → World → Prop) (h : W.acl_good r w Q) : Calls Tryz.prog F.acl_good #[.agg r] w fun e w1 => ∃ v, e = .returned v ∧ Q v w1 :=
  calls_of_DF hmix Tryz.func20 (by kernel_rfl) (Eq.mp (W.acl_good_eq r w Q) h)

/-- stanchion/acl.proto -/
def W.acl_proto (p : Int) (w : World) (Q : Value → World → Prop) : Prop :=
  (((p : Int) == 0) = true → Q (.string (ByteArray.mk #[97, 110, 121])) w) ∧
  (
    ((p : Int) == 0) = false → (((p : Int) == 6) = true → Q (.string (ByteArray.mk #[116, 99, 112])) w) ∧
    (
      ((p : Int) == 6) = false → (((p : Int) == 17) = true → Q (.string (ByteArray.mk #[117, 100, 112])) w) ∧
      (
        ((p : Int) == 17) = false → Calls Tryz.prog F.strconv_Itoa #[.int .i64 (IntKind.wrap .i64 p)] w fun e2 w1 =>
        ∃ s3 : ByteArray, e2 = .returned (.string s3) ∧ Q (.string s3) w1)
      )
    )
def A.acl_proto : AT := (.seq (.reg []) (.seq (.seq (.reg []) (.blk (.seq (.reg []) (.cond (.seq (.reg []) .leaf) (.seq (.reg []) (.cond (.seq (.reg []) .leaf) (.seq (.reg []) (.cond (.seq (.reg []) .leaf) .leaf)))))))) (.seq (.reg []) .leaf)))
theorem W.acl_proto_eq (p : Int) (w : World) (Q : Value → World → Prop) : W.acl_proto p w Q = DF Tryz.prog tk A.acl_proto Tryz.f23 [.int .u8 p] w Q := by kernel_rfl
theorem W.acl_proto_ok (p : Int) (w : World) (Q : Value → World → Prop) (h : W.acl_proto p w Q) : Calls Tryz.prog F.acl_proto #[.int .u8 p] w fun e w1 => ∃ v, e = .returned v ∧ Q v w1 :=
  calls_of_DF hmix Tryz.func23 (by kernel_rfl) (Eq.mp (W.acl_proto_eq p w Q) h)

/-- stanchion/addr.ShowPrefix -/
def W.addr_ShowPrefix (p : Array Value) (w : World) (Q : Value → World → Prop) : Prop :=
  Nx (w.alloc (.cells p Ty.api_Prefix)) fun w1 => ∃ l2 : List Value, rdCells w1 ⟨w.heap.size, 0, none⟩ 0 18 = some l2 ∧
  Calls Tryz.prog F.addr_showPrefix #[.agg l2.toArray] w1 fun e4 w3 => ∃ s5 : ByteArray, e4 = .returned (.string s5) ∧
  Q (.string s5) w3
def A.addr_ShowPrefix : AT := (.seq (.reg []) (.seq (.reg []) .leaf))
theorem W.addr_ShowPrefix_eq (p : Array Value) (w : World) (Q : Value → World → Prop) : W.addr_ShowPrefix p w Q = DF Tryz.prog tk A.addr_ShowPrefix Tryz.f24 [.agg p] w Q := by kernel_rfl
theorem W.addr_ShowPrefix_ok (p : Array Value) (w : World) (Q : Value → World → Prop) (h : W.addr_ShowPrefix p w Q) : Calls Tryz.prog F.addr_ShowPrefix #[.agg p] w fun e w1 => ∃ v, e = .returned v ∧ Q v w1 :=
  calls_of_DF hmix Tryz.func24 (by kernel_rfl) (Eq.mp (W.addr_ShowPrefix_eq p w Q) h)

/-- stanchion/addr.parse -/
def W.addr_parse (s : ByteArray) (w : World) (Q : Value → World → Prop) : Prop :=
  Nx (
    w.alloc (
      .cells #[.bool false, .int .u8 0, .int .u8 0, .int .u8 0, .int .u8 0, .int .u8 0, .int .u8 0, .int .u8 0, .int .u8 0, .int .u8 0, .int .u8 0, .int .u8 0, .int .u8 0, .int .u8 0, .int .u8 0, .int .u8 0, .int .u8 0] Ty.api_Addr)
    )
  fun w1 => Jn (
    fun k2 : ByteArray → Int → Int → World → Prop => Calls Tryz.prog F.strings_Contains #[.string s, .string (ByteArray.mk #[58])] w1 fun e4 w3 =>
    ∃ b5 : Bool, e4 = .returned (.bool b5) ∧ (b5 = true → k2 (ByteArray.mk #[58]) 16 2 w3) ∧
    (b5 = false → k2 (ByteArray.mk #[46]) 10 1 w3))
  (
    fun (s6 : ByteArray) (n7 : Int) (n8 : Int) (w9 : World) => Calls Tryz.prog F.addr_numbers #[.string s, .string s6, .int .i64 n7, .int .i64 n8] w9 fun e11 w10 =>
    ∃ s12 : Sl, e11 = .returned (.slice s12.a s12.len s12.cap) ∧ Calls Tryz.prog F.addr_of #[.slice s12.a s12.len s12.cap] w10 fun e14 w13 =>
    ∃ c15 : Array Value, ∃ b16 : Bool, e14 = .returned (.tuple #[.agg c15, .bool b16]) ∧
    Nx (
      w13.alloc (
        .cells #[.bool false, .int .u8 0, .int .u8 0, .int .u8 0, .int .u8 0, .int .u8 0, .int .u8 0, .int .u8 0, .int .u8 0, .int .u8 0, .int .u8 0, .int .u8 0, .int .u8 0, .int .u8 0, .int .u8 0, .int .u8 0, .int .u8 0] Ty.api_Addr)
      )
    fun w17 => StoreOk w17 ⟨w13.heap.size, 0, none⟩ (Array.toList c15) ∧ Array.size c15 = 17 ∧
    Nx (setCells w17 ⟨w13.heap.size, 0, none⟩ 0 (Array.toList c15)) fun w18 =>
    Jn (
      fun k19 : Bool → World → Prop => ((!b16) = true → k19 true w18) ∧ (
        (!b16) = false → ∃ l20 : List Value, rdCells w18 ⟨w13.heap.size, 0, none⟩ 0 17 = some l20 ∧
        Calls Tryz.prog F.addr_show #[.agg l20.toArray] w18 fun e22 w21 => ∃ s23 : ByteArray, e22 = .returned (.string s23) ∧
        k19 (!(ByteArray.toList s23 == ByteArray.toList s)) w21)
      )
    (
      fun (b24 : Bool) (w25 : World) => (
        b24 = true → ∃ c26 : Array Value, Sem.run Tryz.prog (Instr.build Ty.api_Addr #[]) w25 = .ok (.agg c26) w25 ∧
        StoreOk w25 ⟨w.heap.size, 0, none⟩ (Array.toList c26) ∧ Array.size c26 = 17 ∧
        Nx (setCells w25 ⟨w.heap.size, 0, none⟩ 0 (Array.toList c26)) fun w27 => ∃ l28 : List Value, rdCells w27 ⟨w.heap.size, 0, none⟩ 0 17 = some l28 ∧
        Q (.tuple #[.agg l28.toArray, .bool false]) w27)
      ∧ (
        b24 = false → ∃ l29 : List Value, rdCells w25 ⟨w13.heap.size, 0, none⟩ 0 17 = some l29 ∧
        StoreOk w25 ⟨w.heap.size, 0, none⟩ (Array.toList l29.toArray) ∧ Array.size l29.toArray = 17 ∧
        Nx (setCells w25 ⟨w.heap.size, 0, none⟩ 0 (Array.toList l29.toArray)) fun w30 =>
        ∃ l31 : List Value, rdCells w30 ⟨w.heap.size, 0, none⟩ 0 17 = some l31 ∧ Q (.tuple #[.agg l31.toArray, .bool true]) w30)
      )
    )
def A.addr_parse : AT := (.seq (.reg []) (.seq (.reg []) (.seq (.jk [(4, .str), (5, (.int .i64)), (6, (.int .i64))] [0, 2] (.seq (.reg []) (.cond (.reg []) .leaf))) (.seq (.reg []) (.seq (.seq (.reg [.run, .run, .run, .split 4]) (.cond (.seq (.reg []) .leaf) .leaf)) (.seq (.reg []) .leaf))))))
theorem W.addr_parse_eq (s : ByteArray) (w : World) (Q : Value → World → Prop) : W.addr_parse s w Q = DF Tryz.prog tk A.addr_parse Tryz.f26 [.string s] w Q := by kernel_rfl
theorem W.addr_parse_ok (s : ByteArray) (w : World) (Q : Value → World → Prop) (h : W.addr_parse s w Q) : Calls Tryz.prog F.addr_parse #[.string s] w fun e w1 => ∃ v, e = .returned v ∧ Q v w1 :=
  calls_of_DF hmix Tryz.func26 (by kernel_rfl) (Eq.mp (W.addr_parse_eq s w Q) h)

/-- stanchion/addr.showPrefix -/
def W.addr_showPrefix (p : Array Value) (w : World) (Q : Value → World → Prop) : Prop :=
  Nx (w.alloc (.cells p Ty.api_Prefix)) fun w1 => ∃ l2 : List Value, rdCells w1 ⟨w.heap.size, 0, none⟩ 0 17 = some l2 ∧
  ∃ n3 : Int, w1.cell? (Addr.add ⟨w.heap.size, 0, none⟩ 17) = some (.int .i64 n3) ∧
  Calls Tryz.prog F.addr_mask #[.agg l2.toArray, .int .i64 n3] w1 fun e5 w4 =>
  ∃ c6 : Array Value, ∃ b7 : Bool, e5 = .returned (.tuple #[.agg c6, .bool b7]) ∧
  Nx (
    w4.alloc (
      .cells #[.bool false, .int .u8 0, .int .u8 0, .int .u8 0, .int .u8 0, .int .u8 0, .int .u8 0, .int .u8 0, .int .u8 0, .int .u8 0, .int .u8 0, .int .u8 0, .int .u8 0, .int .u8 0, .int .u8 0, .int .u8 0, .int .u8 0, .int .i64 0] Ty.api_Prefix)
    )
  fun w8 => StoreOk w8 ⟨w4.heap.size, 0, none⟩ (Array.toList c6) ∧ Array.size c6 = 18 ∧
  Nx (setCells w8 ⟨w4.heap.size, 0, none⟩ 0 (Array.toList c6)) fun w9 => Jn (
    fun k10 : Bool → World → Prop => ((!b7) = true → k10 true w9) ∧ (
      (!b7) = false → ∃ l11 : List Value, rdCells w9 ⟨w4.heap.size, 0, none⟩ 0 18 = some l11 ∧
      ∃ l12 : List Value, rdCells w9 ⟨w.heap.size, 0, none⟩ 0 18 = some l12 ∧ ∃ b13 : Bool, AggEq Tryz.prog Ty.api_Prefix l11.toArray l12.toArray b13 ∧
      k10 (!b13) w9)
    )
  (
    fun (b14 : Bool) (w15 : World) => (b14 = true → Q (.string (ByteArray.mk #[])) w15) ∧
    (
      b14 = false → Nx (w15.drew) fun w16 => ∃ W17 : Nat → Prop, ¬ W17 (⟨w.heap.size, 0, none⟩ : Addr).block ∧
      ∃ l18 : List Value, rdCells w16 ⟨w.heap.size, 0, none⟩ 0 17 = some l18 ∧ ¬ W17 (Addr.add ⟨w.heap.size, 0, none⟩ 17).block ∧
      ∃ n19 : Int, w16.cell? (Addr.add ⟨w.heap.size, 0, none⟩ 17) = some (.int .i64 n19) ∧
      Calls Tryz.prog F.addr_show #[.agg l18.toArray] w16 fun e21 w20 => ∃ s22 : ByteArray, e21 = .returned (.string s22) ∧
      Chg W17 w16 w20 ∧ ((ByteArray.size s22 + ByteArray.size (ByteArray.mk #[47]) : Nat) : Int) ≤ 9223372036854775807 ∧
      Calls Tryz.prog F.strconv_Itoa #[.int .i64 n19] w20 fun e24 w23 => ∃ s25 : ByteArray, e24 = .returned (.string s25) ∧
      Chg W17 w20 w23 ∧ ((ByteArray.size (s22 ++ (ByteArray.mk #[47])) + ByteArray.size s25 : Nat) : Int) ≤ 9223372036854775807 ∧
      Q (.string ((s22 ++ (ByteArray.mk #[47])) ++ s25)) w23)
    )
def A.addr_showPrefix : AT := (.seq (.reg []) (.seq (.seq (.reg []) (.seq (.reg [.run, .run, .run, .split 3]) (.cond (.seq (.reg []) .leaf) .leaf))) (.seq (.drw 7 true ⟨[0, 1, 2, 4, 0, 16, 36, 72, 255], [0, 1, 2, 4, 0, 16, 32, 72, 128]⟩ [1048576, 2097152, 4194304, 8388608, 16777216, 33554432, 67108864, 134217728, 4] [2, 1048576, 2097152, 4194304, 2, 16777216, 33554432, 75497472, 134217728] (.take 0 (.take 1 (.take 4 (.take 5 (.eff 2 (.take 3 (.eff 6 (.tail [.run, .run]))))))))) .leaf)))
theorem W.addr_showPrefix_eq (p : Array Value) (w : World) (Q : Value → World → Prop) : W.addr_showPrefix p w Q = DF Tryz.prog tk A.addr_showPrefix Tryz.f28 [.agg p] w Q := by kernel_rfl
theorem W.addr_showPrefix_ok (p : Array Value) (w : World) (Q : Value → World → Prop) (h : W.addr_showPrefix p w Q) : Calls Tryz.prog F.addr_showPrefix #[.agg p] w fun e w1 => ∃ v, e = .returned v ∧ Q v w1 :=
  calls_of_DF hmix Tryz.func28 (by kernel_rfl) (Eq.mp (W.addr_showPrefix_eq p w Q) h)

/-- stanchion/acl.First$1 -/
def W.acl_First_1 (r : Array Value) (x : Addr) (w : World) (Q : Value → World → Prop) : Prop :=
  Nx (w.alloc (.cells r Ty.api_Rule)) fun w1 => ∃ l2 : List Value, rdCells w1 ⟨w.heap.size, 0, none⟩ 0 40 = some l2 ∧
  ∃ l3 : List Value, rdCells w1 x 0 37 = some l3 ∧ Calls Tryz.prog F.acl_hits #[.agg l2.toArray, .agg l3.toArray] w1 fun e5 w4 =>
  ∃ b6 : Bool, e5 = .returned (.bool b6) ∧ Q (.bool b6) w4
def A.acl_First_1 : AT := (.seq (.reg []) (.seq (.reg []) .leaf))
theorem W.acl_First_1_eq (r : Array Value) (x : Addr) (w : World) (Q : Value → World → Prop) : W.acl_First_1 r x w Q = DF Tryz.prog tk A.acl_First_1 Tryz.f35 [.agg r, .pointer (some x)] w Q := by kernel_rfl
theorem W.acl_First_1_ok (r : Array Value) (x : Addr) (w : World) (Q : Value → World → Prop) (h : W.acl_First_1 r x w Q) : Calls Tryz.prog F.acl_First_1 #[.agg r, .pointer (some x)] w fun e w1 => ∃ v, e = .returned v ∧ Q v w1 :=
  calls_of_DF hmix Tryz.func35 (by kernel_rfl) (Eq.mp (W.acl_First_1_eq r x w Q) h)

/-- stanchion/acl.hits -/
def W.acl_hits (r : Array Value) (f : Array Value) (w : World) (Q : Value → World → Prop) : Prop :=
  Nx (w.alloc (.cells r Ty.api_Rule)) fun w1 => Nx (w1.alloc (.cells f Ty.api_Flow)) fun w2 =>
  ∃ n3 : Int, w2.cell? (Addr.add ⟨w.heap.size, 0, none⟩ 36) = some (.int .u8 n3) ∧
  Jn (
    fun k4 : Bool → World → Prop => (((n3 : Int) == 0) = true → k4 true w2) ∧
    (
      ((n3 : Int) == 0) = false → ∃ n5 : Int, w2.cell? (Addr.add ⟨w.heap.size, 0, none⟩ 36) = some (.int .u8 n5) ∧
      ∃ n6 : Int, w2.cell? (Addr.add ⟨w1.heap.size, 0, none⟩ 36) = some (.int .u8 n6) ∧
      k4 ((n5 : Int) == n6) w2)
    )
  (
    fun (b7 : Bool) (w8 : World) => ∃ l9 : List Value, rdCells w8 ⟨w.heap.size, 0, none⟩ 0 40 = some l9 ∧
    Calls Tryz.prog F.acl_good #[.agg l9.toArray] w8 fun e11 w10 => ∃ b12 : Bool, e11 = .returned (.bool b12) ∧
    Jn (
      fun k13 : Bool → World → Prop => (
        (b12 && b7) = true → ∃ n14 : Int, w10.cell? (Addr.add ⟨w1.heap.size, 0, none⟩ 35) = some (.int .u16 n14) ∧
        ∃ n15 : Int, w10.cell? (Addr.add ⟨w.heap.size, 0, none⟩ 37) = some (.int .u16 n15) ∧
        k13 (decide ((n14 : Int) ≥ n15)) w10)
      ∧ ((b12 && b7) = false → k13 false w10))
    (
      fun (b16 : Bool) (w17 : World) => Jn (
        fun k18 : Bool → World → Prop => (
          b16 = true → ∃ n19 : Int, w17.cell? (Addr.add ⟨w1.heap.size, 0, none⟩ 35) = some (.int .u16 n19) ∧
          ∃ n20 : Int, w17.cell? (Addr.add ⟨w.heap.size, 0, none⟩ 38) = some (.int .u16 n20) ∧
          k18 (decide ((n19 : Int) ≤ n20)) w17)
        ∧ (b16 = false → k18 false w17))
      (
        fun (b21 : Bool) (w22 : World) => Jn (
          fun k23 : Bool → World → Prop => (
            b21 = true → ∃ l24 : List Value, rdCells w22 ⟨w1.heap.size, 0, none⟩ 0 17 = some l24 ∧
            ∃ l25 : List Value, rdCells w22 ⟨w.heap.size, 0, none⟩ 0 18 = some l25 ∧ Calls Tryz.prog F.addr_In #[.agg l24.toArray, .agg l25.toArray] w22 fun e27 w26 =>
            ∃ b28 : Bool, e27 = .returned (.bool b28) ∧ k23 b28 w26)
          ∧ (b21 = false → k23 false w22))
        (
          fun (b29 : Bool) (w30 : World) => Jn (
            fun k31 : Bool → World → Prop => (
              b29 = true → ∃ l32 : List Value, rdCells w30 (Addr.add ⟨w1.heap.size, 0, none⟩ 17) 0 17 = some l32 ∧
              ∃ l33 : List Value, rdCells w30 (Addr.add ⟨w.heap.size, 0, none⟩ 18) 0 18 = some l33 ∧
              Calls Tryz.prog F.addr_In #[.agg l32.toArray, .agg l33.toArray] w30 fun e35 w34 =>
              ∃ b36 : Bool, e35 = .returned (.bool b36) ∧ k31 b36 w34)
            ∧ (b29 = false → k31 false w30))
          (fun (b37 : Bool) (w38 : World) => Q (.bool b37) w38))
        )
      )
    )
def A.acl_hits : AT := (.seq (.reg []) (.seq (.reg [.run, .run, .run, .run, .split 5]) (.seq (.reg [.run, .run, .run, .pure 1, .run, .run, .split 5, .run, .run, .run, .run, .run, .run, .split 5, .run, .run, .run, .run, .run, .run, .split 5, .run, .run, .run, .run, .run, .run, .split 5]) .leaf)))
theorem W.acl_hits_eq (r : Array Value) (f : Array Value) (w : World) (Q : Value → World → Prop) : W.acl_hits r f w Q = DF Tryz.prog tk A.acl_hits Tryz.f36 [.agg r, .agg f] w Q := by kernel_rfl
theorem W.acl_hits_ok (r : Array Value) (f : Array Value) (w : World) (Q : Value → World → Prop) (h : W.acl_hits r f w Q) : Calls Tryz.prog F.acl_hits #[.agg r, .agg f] w fun e w1 => ∃ v, e = .returned v ∧ Q v w1 :=
  calls_of_DF hmix Tryz.func36 (by kernel_rfl) (Eq.mp (W.acl_hits_eq r f w Q) h)

/-- stanchion/acl.prefix -/
def W.acl_prefix (p : Array Value) (w : World) (Q : Value → World → Prop) : Prop :=
  Nx (w.alloc (.cells p Ty.api_Prefix)) fun w1 => ∃ l2 : List Value, rdCells w1 ⟨w.heap.size, 0, none⟩ 0 18 = some l2 ∧
  Calls Tryz.prog F.addr_ShowPrefix #[.agg l2.toArray] w1 fun e4 w3 => ∃ s5 : ByteArray, e4 = .returned (.string s5) ∧
  Q (.bool (!(ByteArray.toList s5 == ByteArray.toList (ByteArray.mk #[])))) w3
def A.acl_prefix : AT := (.seq (.reg []) (.seq (.reg []) .leaf))
theorem W.acl_prefix_eq (p : Array Value) (w : World) (Q : Value → World → Prop) : W.acl_prefix p w Q = DF Tryz.prog tk A.acl_prefix Tryz.f37 [.agg p] w Q := by kernel_rfl
theorem W.acl_prefix_ok (p : Array Value) (w : World) (Q : Value → World → Prop) (h : W.acl_prefix p w Q) : Calls Tryz.prog F.acl_prefix #[.agg p] w fun e w1 => ∃ v, e = .returned v ∧ Q v w1 :=
  calls_of_DF hmix Tryz.func37 (by kernel_rfl) (Eq.mp (W.acl_prefix_eq p w Q) h)

/-- stanchion/addr.of -/
def W.addr_of (b : Sl) (w : World) (Q : Value → World → Prop) : Prop :=
  Nx (
    w.alloc (
      .cells #[.bool false, .int .u8 0, .int .u8 0, .int .u8 0, .int .u8 0, .int .u8 0, .int .u8 0, .int .u8 0, .int .u8 0, .int .u8 0, .int .u8 0, .int .u8 0, .int .u8 0, .int .u8 0, .int .u8 0, .int .u8 0, .int .u8 0] Ty.api_Addr)
    )
  fun w1 => (
    ((((b.len : Nat) : Int) : Int) == 4) = true → Calls Tryz.prog F.addr_last #[.slice b.a b.len b.cap] w1 fun e3 w2 =>
    ∃ c4 : Array Value, e3 = .returned (.agg c4) ∧ StoreOk w2 ⟨w.heap.size, 0, none⟩ (Array.toList c4) ∧
    Array.size c4 = 17 ∧ Nx (setCells w2 ⟨w.heap.size, 0, none⟩ 0 (Array.toList c4)) fun w5 =>
    ∃ l6 : List Value, rdCells w5 ⟨w.heap.size, 0, none⟩ 0 17 = some l6 ∧ Q (.tuple #[.agg l6.toArray, .bool true]) w5)
  ∧ (
    ((((b.len : Nat) : Int) : Int) == 4) = false → (
      ((((b.len : Nat) : Int) : Int) == 16) = true → 16 ≤ b.len ∧ ∃ a7 : Addr, b.a = some a7 ∧
      ∃ l8 : List Value, rdCells w1 a7 0 16 = some l8 ∧ ∃ c9 : Array Value, Sem.run Tryz.prog (Instr.build Ty.api_Addr #[(0, .bool true), (1, .agg l8.toArray)]) w1 = .ok (.agg c9) w1 ∧
      StoreOk w1 ⟨w.heap.size, 0, none⟩ (Array.toList c9) ∧ Array.size c9 = 17 ∧
      Nx (setCells w1 ⟨w.heap.size, 0, none⟩ 0 (Array.toList c9)) fun w10 => ∃ l11 : List Value, rdCells w10 ⟨w.heap.size, 0, none⟩ 0 17 = some l11 ∧
      Q (.tuple #[.agg l11.toArray, .bool true]) w10)
    ∧ (
      ((((b.len : Nat) : Int) : Int) == 16) = false → ∃ c12 : Array Value, Sem.run Tryz.prog (Instr.build Ty.api_Addr #[]) w1 = .ok (.agg c12) w1 ∧
      StoreOk w1 ⟨w.heap.size, 0, none⟩ (Array.toList c12) ∧ Array.size c12 = 17 ∧
      Nx (setCells w1 ⟨w.heap.size, 0, none⟩ 0 (Array.toList c12)) fun w13 => ∃ l14 : List Value, rdCells w13 ⟨w.heap.size, 0, none⟩ 0 17 = some l14 ∧
      Q (.tuple #[.agg l14.toArray, .bool false]) w13)
    )
def A.addr_of : AT := (.seq (.reg []) (.seq (.seq (.reg []) (.blk (.seq (.reg []) (.cond (.seq (.reg []) .leaf) (.seq (.reg []) (.cond (.seq (.reg []) .leaf) .leaf)))))) (.seq (.reg []) .leaf)))
theorem W.addr_of_eq (b : Sl) (w : World) (Q : Value → World → Prop) : W.addr_of b w Q = DF Tryz.prog tk A.addr_of Tryz.f46 [.slice b.a b.len b.cap] w Q := by kernel_rfl
theorem W.addr_of_ok (b : Sl) (w : World) (Q : Value → World → Prop) (h : W.addr_of b w Q) : Calls Tryz.prog F.addr_of #[.slice b.a b.len b.cap] w fun e w1 => ∃ v, e = .returned v ∧ Q v w1 :=
  calls_of_DF hmix Tryz.func46 (by kernel_rfl) (Eq.mp (W.addr_of_eq b w Q) h)

/-- stanchion/addr.numbers -/
def W.addr_numbers (s : ByteArray) (sign : ByteArray) (base : Int) (size : Int) (w : World) (Q : Value → World → Prop) : Prop :=
  Calls Tryz.prog F.strings_Split #[.string s, .string sign] w fun e2 w1 => ∃ s3 : Sl, e2 = .returned (.slice s3.a s3.len s3.cap) ∧
  ∃ (I4 : Sl → Int → World → Prop) (μ5 : Sl → Int → World → Nat), I4 ⟨none, 0, 0⟩ 0 w1 ∧
  ∀ (s6 : Sl) (n7 : Int) (w8 : World), I4 s6 n7 w8 → (
    (decide ((n7 : Int) < ((s3.len : Nat) : Int))) = true → ∃ a9 : Addr, s3.a = some a9 ∧
    ((0 : Int) ≤ n7 ∧ n7 < ((s3.len : Nat) : Int)) ∧ ∃ s10 : ByteArray, w8.cell? (a9.add (Int.toNat n7 * 1)) = some (.string s10) ∧
    Calls Tryz.prog F.strconv_ParseUint #[.string s10, .int .i64 base, .int .i64 (IntKind.wrap .i64 (8 * size))] w8 fun e12 w11 =>
    ∃ n13 : Int, ∃ v14 : Value, e12 = .returned (.tuple #[.int .u64 n13, v14]) ∧
    ∃ b15 : Bool, ifaceNil v14 = some b15 ∧ ((!b15) = true → Q (.slice none 0 0) w11) ∧
    (
      (!b15) = false → Calls Tryz.prog F.num_Put #[.slice s6.a s6.len s6.cap, .int .u64 n13, .int .i64 size] w11 fun e17 w16 =>
      ∃ s18 : Sl, e17 = .returned (.slice s18.a s18.len s18.cap) ∧ I4 s18 (IntKind.wrap .i64 (n7 + 1)) w16 ∧
      μ5 s18 (IntKind.wrap .i64 (n7 + 1)) w16 < μ5 s6 n7 w8)
    )
  ∧ ((decide ((n7 : Int) < ((s3.len : Nat) : Int))) = false → Q (.slice s6.a s6.len s6.cap) w8)
def A.addr_numbers : AT := (.seq (.reg []) (.seq (.reg []) (.seq (.seq (.reg []) (.blk (.loop [(9, .slice), (18, (.int .i64))] [2, 3, 16, 17] (.seq (.reg []) (.seq (.cond .leaf .leaf) (.seq (.blk (.seq (.reg []) (.seq (.reg []) (.seq (.seq (.reg []) (.cond (.seq (.reg []) .leaf) .leaf)) (.reg []))))) (.reg []))))))) (.seq (.reg []) .leaf))))
theorem W.addr_numbers_eq (s : ByteArray) (sign : ByteArray) (base : Int) (size : Int) (w : World) (Q : Value → World → Prop) : W.addr_numbers s sign base size w Q = DF Tryz.prog tk A.addr_numbers Tryz.f47 [.string s, .string sign, .int .i64 base, .int .i64 size] w Q := by kernel_rfl
theorem W.addr_numbers_ok (s : ByteArray) (sign : ByteArray) (base : Int) (size : Int) (w : World) (Q : Value → World → Prop) (h : W.addr_numbers s sign base size w Q) : Calls Tryz.prog F.addr_numbers #[.string s, .string sign, .int .i64 base, .int .i64 size] w fun e w1 => ∃ v, e = .returned v ∧ Q v w1 :=
  calls_of_DF hmix Tryz.func47 (by kernel_rfl) (Eq.mp (W.addr_numbers_eq s sign base size w Q) h)

/-- stanchion/addr.show -/
def W.addr_show (a : Array Value) (w : World) (Q : Value → World → Prop) : Prop :=
  Nx (w.alloc (.cells a Ty.api_Addr)) fun w1 => ∃ l2 : List Value, rdCells w1 ⟨w.heap.size, 0, none⟩ 0 17 = some l2 ∧
  Calls Tryz.prog F.addr_good #[.agg l2.toArray] w1 fun e4 w3 => ∃ b5 : Bool, e4 = .returned (.bool b5) ∧
  ((!b5) = true → Q (.string (ByteArray.mk #[])) w3) ∧ (
    (!b5) = false → ∃ b6 : Bool, w3.cell? ⟨w.heap.size, 0, none⟩ = some (.bool b6) ∧
    (
      (!b6) = true → ∃ l7 : List Value, rdCells w3 ⟨w.heap.size, 0, none⟩ 0 17 = some l7 ∧
      Calls Tryz.prog F.addr_raw #[.agg l7.toArray] w3 fun e9 w8 => ∃ s10 : Sl, e9 = .returned (.slice s10.a s10.len s10.cap) ∧
      ∃ (I11 : Sl → Int → World → Prop) (μ12 : Sl → Int → World → Nat), I11 ⟨none, 0, 0⟩ 0 w8 ∧
      ∀ (s13 : Sl) (n14 : Int) (w15 : World), I11 s13 n14 w15 → (
        (decide ((n14 : Int) < ((s10.len : Nat) : Int))) = true → ∃ a16 : Addr, s10.a = some a16 ∧
        ((0 : Int) ≤ n14 ∧ n14 < ((s10.len : Nat) : Int)) ∧ ∃ n17 : Int, w15.cell? (a16.add (Int.toNat n14 * 1)) = some (.int .u8 n17) ∧
        Calls Tryz.prog F.strconv_Itoa #[.int .i64 (IntKind.wrap .i64 n17)] w15 fun e19 w18 =>
        ∃ s20 : ByteArray, e19 = .returned (.string s20) ∧ Nx (w18.alloc (.cells #[.string s20] Ty.string)) fun w21 =>
        ∃ s22 : Sl, ∃ w23 : World, Sem.run Tryz.prog (
          Builtin.append_ #[Ty.Sl_string, Ty.Sl_string] Ty.Sl_string #[.slice s13.a s13.len s13.cap, .slice (some ⟨w18.heap.size, 0, none⟩) 1 1])
        w21 = .ok (.slice s22.a s22.len s22.cap) w23 ∧ I11 s22 (IntKind.wrap .i64 (n14 + 1)) w23 ∧
        μ12 s22 (IntKind.wrap .i64 (n14 + 1)) w23 < μ12 s13 n14 w15)
      ∧ (
        (decide ((n14 : Int) < ((s10.len : Nat) : Int))) = false → Calls Tryz.prog F.strings_Join #[.slice s13.a s13.len s13.cap, .string (ByteArray.mk #[46])] w15 fun e25 w24 =>
        ∃ s26 : ByteArray, e25 = .returned (.string s26) ∧ Q (.string s26) w24)
      )
    ∧ (
      (!b6) = false → ∃ (I27 : Sl → Int → World → Prop) (μ28 : Sl → Int → World → Nat), I27 ⟨none, 0, 0⟩ 0 w3 ∧
      ∀ (s29 : Sl) (n30 : Int) (w31 : World), I27 s29 n30 w31 → (
        (decide ((n30 : Int) < 8)) = true → Calls Tryz.prog F.num_Get #[.slice (cutA (some (Addr.add ⟨w.heap.size, 0, none⟩ 1)) 1 0 16) (16 - 0) (16 - 0), .int .i64 (IntKind.wrap .i64 (2 * n30)), .int .i64 2] w31 fun e33 w32 =>
        ∃ n34 : Int, ∃ b35 : Bool, e33 = .returned (.tuple #[.int .u64 n34, .bool b35]) ∧
        Calls Tryz.prog F.strconv_FormatUint #[.int .u64 n34, .int .i64 16] w32 fun e37 w36 =>
        ∃ s38 : ByteArray, e37 = .returned (.string s38) ∧ Nx (w36.alloc (.cells #[.string s38] Ty.string)) fun w39 =>
        ∃ s40 : Sl, ∃ w41 : World, Sem.run Tryz.prog (
          Builtin.append_ #[Ty.Sl_string, Ty.Sl_string] Ty.Sl_string #[.slice s29.a s29.len s29.cap, .slice (some ⟨w36.heap.size, 0, none⟩) 1 1])
        w39 = .ok (.slice s40.a s40.len s40.cap) w41 ∧ I27 s40 (IntKind.wrap .i64 (n30 + 1)) w41 ∧
        μ28 s40 (IntKind.wrap .i64 (n30 + 1)) w41 < μ28 s29 n30 w31)
      ∧ (
        (decide ((n30 : Int) < 8)) = false → Calls Tryz.prog F.strings_Join #[.slice s29.a s29.len s29.cap, .string (ByteArray.mk #[58])] w31 fun e43 w42 =>
        ∃ s44 : ByteArray, e43 = .returned (.string s44) ∧ Q (.string s44) w42)
      )
    )
def A.addr_show : AT := (.seq (.reg []) (.seq (.seq (.reg []) (.cond (.seq (.reg []) .leaf) .leaf)) (.seq (.reg []) (.seq (.seq (.reg []) (.cond (.seq (.seq (.reg []) (.blk (.loop [(3, .slice), (18, (.int .i64))] [16, 17] (.seq (.reg []) (.seq (.cond .leaf .leaf) (.seq (.blk (.seq (.reg []) (.reg []))) (.reg []))))))) (.seq (.reg []) .leaf)) .leaf)) (.seq (.seq (.reg []) (.blk (.loop [(3, .slice), (31, (.int .i64))] [1] (.seq (.reg []) (.seq (.cond .leaf .leaf) (.seq (.blk (.seq (.reg []) (.seq (.reg []) (.reg [])))) (.reg []))))))) (.seq (.reg []) .leaf))))))
theorem W.addr_show_eq (a : Array Value) (w : World) (Q : Value → World → Prop) : W.addr_show a w Q = DF Tryz.prog tk A.addr_show Tryz.f48 [.agg a] w Q := by kernel_rfl
theorem W.addr_show_ok (a : Array Value) (w : World) (Q : Value → World → Prop) (h : W.addr_show a w Q) : Calls Tryz.prog F.addr_show #[.agg a] w fun e w1 => ∃ v, e = .returned v ∧ Q v w1 :=
  calls_of_DF hmix Tryz.func48 (by kernel_rfl) (Eq.mp (W.addr_show_eq a w Q) h)

/-- stanchion/addr.mask -/
def W.addr_mask (a : Array Value) (bits : Int) (w : World) (Q : Value → World → Prop) : Prop :=
  Nx (w.alloc (.cells a Ty.api_Addr)) fun w1 => Nx (
    w1.alloc (
      .cells #[.bool false, .int .u8 0, .int .u8 0, .int .u8 0, .int .u8 0, .int .u8 0, .int .u8 0, .int .u8 0, .int .u8 0, .int .u8 0, .int .u8 0, .int .u8 0, .int .u8 0, .int .u8 0, .int .u8 0, .int .u8 0, .int .u8 0, .int .i64 0] Ty.api_Prefix)
    )
  fun w2 => ∃ l3 : List Value, rdCells w2 ⟨w.heap.size, 0, none⟩ 0 17 = some l3 ∧
  Calls Tryz.prog F.addr_Bytes #[.agg l3.toArray] w2 fun e5 w4 => ∃ s6 : Sl, e5 = .returned (.slice s6.a s6.len s6.cap) ∧
  ∃ l7 : List Value, rdCells w4 ⟨w.heap.size, 0, none⟩ 0 17 = some l7 ∧ Calls Tryz.prog F.addr_good #[.agg l7.toArray] w4 fun e9 w8 =>
  ∃ b10 : Bool, e9 = .returned (.bool b10) ∧ (
    (
      ((!b10) || (decide ((bits : Int) < 0))) || (decide ((bits : Int) > (IntKind.wrap .i64 (8 * ((s6.len : Nat) : Int))))))
    = true → ∃ c11 : Array Value, Sem.run Tryz.prog (Instr.build Ty.api_Prefix #[]) w8 = .ok (.agg c11) w8 ∧
    StoreOk w8 ⟨w1.heap.size, 0, none⟩ (Array.toList c11) ∧ Array.size c11 = 18 ∧
    Nx (setCells w8 ⟨w1.heap.size, 0, none⟩ 0 (Array.toList c11)) fun w12 => ∃ l13 : List Value, rdCells w12 ⟨w1.heap.size, 0, none⟩ 0 18 = some l13 ∧
    Q (.tuple #[.agg l13.toArray, .bool false]) w12)
  ∧ (
    (
      ((!b10) || (decide ((bits : Int) < 0))) || (decide ((bits : Int) > (IntKind.wrap .i64 (8 * ((s6.len : Nat) : Int))))))
    = false → ∃ (I14 : Int → World → Prop) (μ15 : Int → World → Nat), I14 0 w8 ∧
    ∀ (n16 : Int) (w17 : World), I14 n16 w17 → (
      (decide ((n16 : Int) < ((s6.len : Nat) : Int))) = true → ∃ n18 : Int, ∃ w19 : World, Sem.run Tryz.prog (
        Builtin.max_ #[Ty.int, Ty.int] Ty.int #[.int .i64 (IntKind.wrap .i64 (bits - (IntKind.wrap .i64 (8 * n16)))), .int .i64 0])
      w17 = .ok (.int .i64 n18) w19 ∧ ∃ n20 : Int, ∃ w21 : World, Sem.run Tryz.prog (Builtin.min_ #[Ty.int, Ty.int] Ty.int #[.int .i64 n18, .int .i64 8]) w19 = .ok (.int .i64 n20) w21 ∧
      Nx (w21.drew) fun w22 => ∃ a23 : Addr, s6.a = some a23 ∧ ((0 : Int) ≤ n16 ∧ n16 < ((s6.len : Nat) : Int)) ∧
      ¬ False ∧ ∃ n24 : Int, w22.cell? (a23.add (Int.toNat n16 * 1)) = some (.int .u8 n24) ∧
      (0 : Int) ≤ (IntKind.wrap .i64 (8 - n20)) ∧ ∃ a25 : Addr, s6.a = some a25 ∧
      ((0 : Int) ≤ n16 ∧ n16 < ((s6.len : Nat) : Int)) ∧ (∃ u : Value, w22.cell? (a25.add (Int.toNat n16 * 1)) = some u) ∧
      w22.frozen? (a25.add (Int.toNat n16 * 1)) = false ∧ Nx (
        w22.setCell (a25.add (Int.toNat n16 * 1)) (
          .int .u8 (bAnd .u8 n24 (IntKind.wrap .u8 (255 * 2 ^ (min (Int.toNat (IntKind.wrap .i64 (8 - n20))) 8)))))
        )
      fun w26 => I14 (IntKind.wrap .i64 (n16 + 1)) w26 ∧ μ15 (IntKind.wrap .i64 (n16 + 1)) w26 < μ15 n16 w17)
    ∧ (
      (decide ((n16 : Int) < ((s6.len : Nat) : Int))) = false → Calls Tryz.prog F.addr_of #[.slice s6.a s6.len s6.cap] w17 fun e28 w27 =>
      ∃ c29 : Array Value, ∃ b30 : Bool, e28 = .returned (.tuple #[.agg c29, .bool b30]) ∧
      Nx (
        w27.alloc (
          .cells #[.bool false, .int .u8 0, .int .u8 0, .int .u8 0, .int .u8 0, .int .u8 0, .int .u8 0, .int .u8 0, .int .u8 0, .int .u8 0, .int .u8 0, .int .u8 0, .int .u8 0, .int .u8 0, .int .u8 0, .int .u8 0, .int .u8 0] Ty.api_Addr)
        )
      fun w31 => StoreOk w31 ⟨w27.heap.size, 0, none⟩ (Array.toList c29) ∧ Array.size c29 = 17 ∧
      Nx (setCells w31 ⟨w27.heap.size, 0, none⟩ 0 (Array.toList c29)) fun w32 =>
      ∃ l33 : List Value, rdCells w32 ⟨w27.heap.size, 0, none⟩ 0 17 = some l33 ∧
      ∃ c34 : Array Value, Sem.run Tryz.prog (Instr.build Ty.api_Prefix #[(0, .agg l33.toArray), (1, .int .i64 bits)]) w32 = .ok (.agg c34) w32 ∧
      StoreOk w32 ⟨w1.heap.size, 0, none⟩ (Array.toList c34) ∧ Array.size c34 = 18 ∧
      Nx (setCells w32 ⟨w1.heap.size, 0, none⟩ 0 (Array.toList c34)) fun w35 => ∃ l36 : List Value, rdCells w35 ⟨w1.heap.size, 0, none⟩ 0 18 = some l36 ∧
      Q (.tuple #[.agg l36.toArray, .bool true]) w35)
    )
def A.addr_mask : AT := (.seq (.reg []) (.seq (.reg []) (.seq (.seq (.reg [.run, .run, .run, .run, .pure 2, .run, .run, .run, .pure 5]) (.cond (.seq (.reg []) .leaf) .leaf)) (.seq (.seq (.reg []) (.blk (.loop [(30, (.int .i64))] [1, 4, 6, 29] (.seq (.reg []) (.seq (.cond .leaf .leaf) (.seq (.blk (.seq (.reg []) (.seq (.reg []) (.drw 7 false ⟨[0, 0, 3, 4, 0, 16, 32, 72, 255, 511], [0, 0, 3, 4, 0, 16, 32, 72, 3, 384]⟩ [549755813888, 1099511627776, 2199023255552, 4398046511104, 8796093022208, 17592186044416, 35184372088832, 70368744177664, 140737488355328, 0] [64, 128, 1649267441664, 2199023255552, 256, 8796093022208, 17592186044416, 39582418599936, 1649267441664, 211106232532992] (.take 0 (.take 1 (.take 2 (.take 3 (.take 4 (.take 5 (.take 6 (.tail [.run, .run, .run])))))))))))) (.reg []))))))) (.seq (.reg []) (.seq (.reg []) .leaf))))))
theorem W.addr_mask_eq (a : Array Value) (bits : Int) (w : World) (Q : Value → World → Prop) : W.addr_mask a bits w Q = DF Tryz.prog tk A.addr_mask Tryz.f51 [.agg a, .int .i64 bits] w Q := by kernel_rfl
theorem W.addr_mask_ok (a : Array Value) (bits : Int) (w : World) (Q : Value → World → Prop) (h : W.addr_mask a bits w Q) : Calls Tryz.prog F.addr_mask #[.agg a, .int .i64 bits] w fun e w1 => ∃ v, e = .returned v ∧ Q v w1 :=
  calls_of_DF hmix Tryz.func51 (by kernel_rfl) (Eq.mp (W.addr_mask_eq a bits w Q) h)

/-- stanchion/addr.In -/
def W.addr_In (a : Array Value) (p : Array Value) (w : World) (Q : Value → World → Prop) : Prop :=
  Nx (w.alloc (.cells a Ty.api_Addr)) fun w1 => Nx (w1.alloc (.cells p Ty.api_Prefix)) fun w2 =>
  ∃ l3 : List Value, rdCells w2 ⟨w.heap.size, 0, none⟩ 0 17 = some l3 ∧ ∃ n4 : Int, w2.cell? (Addr.add ⟨w1.heap.size, 0, none⟩ 17) = some (.int .i64 n4) ∧
  Calls Tryz.prog F.addr_mask #[.agg l3.toArray, .int .i64 n4] w2 fun e6 w5 =>
  ∃ c7 : Array Value, ∃ b8 : Bool, e6 = .returned (.tuple #[.agg c7, .bool b8]) ∧
  Nx (
    w5.alloc (
      .cells #[.bool false, .int .u8 0, .int .u8 0, .int .u8 0, .int .u8 0, .int .u8 0, .int .u8 0, .int .u8 0, .int .u8 0, .int .u8 0, .int .u8 0, .int .u8 0, .int .u8 0, .int .u8 0, .int .u8 0, .int .u8 0, .int .u8 0, .int .i64 0] Ty.api_Prefix)
    )
  fun w9 => StoreOk w9 ⟨w5.heap.size, 0, none⟩ (Array.toList c7) ∧ Array.size c7 = 18 ∧
  Nx (setCells w9 ⟨w5.heap.size, 0, none⟩ 0 (Array.toList c7)) fun w10 => Jn (
    fun k11 : Bool → World → Prop => (
      b8 = true → ∃ l12 : List Value, rdCells w10 ⟨w5.heap.size, 0, none⟩ 0 18 = some l12 ∧
      ∃ l13 : List Value, rdCells w10 ⟨w1.heap.size, 0, none⟩ 0 18 = some l13 ∧
      ∃ b14 : Bool, AggEq Tryz.prog Ty.api_Prefix l12.toArray l13.toArray b14 ∧
      k11 b14 w10)
    ∧ (b8 = false → k11 false w10))
  (fun (b15 : Bool) (w16 : World) => Q (.bool b15) w16)
def A.addr_In : AT := (.seq (.reg []) (.seq (.reg []) (.seq (.reg [.run, .run, .split 3]) .leaf)))
theorem W.addr_In_eq (a : Array Value) (p : Array Value) (w : World) (Q : Value → World → Prop) : W.addr_In a p w Q = DF Tryz.prog tk A.addr_In Tryz.f56 [.agg a, .agg p] w Q := by kernel_rfl
theorem W.addr_In_ok (a : Array Value) (p : Array Value) (w : World) (Q : Value → World → Prop) (h : W.addr_In a p w Q) : Calls Tryz.prog F.addr_In #[.agg a, .agg p] w fun e w1 => ∃ v, e = .returned v ∧ Q v w1 :=
  calls_of_DF hmix Tryz.func56 (by kernel_rfl) (Eq.mp (W.addr_In_eq a p w Q) h)

/-- stanchion/addr.last -/
def W.addr_last (b : Sl) (w : World) (Q : Value → World → Prop) : Prop :=
  Nx (
    w.alloc (
      .cells #[.bool false, .int .u8 0, .int .u8 0, .int .u8 0, .int .u8 0, .int .u8 0, .int .u8 0, .int .u8 0, .int .u8 0, .int .u8 0, .int .u8 0, .int .u8 0, .int .u8 0, .int .u8 0, .int .u8 0, .int .u8 0, .int .u8 0] Ty.api_Addr)
    )
  fun w1 => ((0 : Int) ≤ 12 ∧ 12 ≤ ((16 : Nat) : Int)) ∧ ∃ n2 : Int, ∃ w3 : World, Sem.run Tryz.prog (
    Builtin.copy_ #[Ty.Sl_uint8, Ty.Sl_uint8] Ty.int #[.slice (cutA (some (Addr.add ⟨w.heap.size, 0, none⟩ 1)) 1 (Int.toNat 12) 16) (16 - (Int.toNat 12)) (16 - (Int.toNat 12)), .slice b.a b.len b.cap])
  w1 = .ok (.int .i64 n2) w3 ∧ ∃ l4 : List Value, rdCells w3 ⟨w.heap.size, 0, none⟩ 0 17 = some l4 ∧
  StoreOk w3 ⟨w.heap.size, 0, none⟩ (Array.toList l4.toArray) ∧ Array.size l4.toArray = 17 ∧
  Nx (setCells w3 ⟨w.heap.size, 0, none⟩ 0 (Array.toList l4.toArray)) fun w5 =>
  ∃ l6 : List Value, rdCells w5 ⟨w.heap.size, 0, none⟩ 0 17 = some l6 ∧ Q (.agg l6.toArray) w5
def A.addr_last : AT := (.seq (.reg []) (.seq (.reg []) (.seq (.reg []) .leaf)))
theorem W.addr_last_eq (b : Sl) (w : World) (Q : Value → World → Prop) : W.addr_last b w Q = DF Tryz.prog tk A.addr_last Tryz.f63 [.slice b.a b.len b.cap] w Q := by kernel_rfl
theorem W.addr_last_ok (b : Sl) (w : World) (Q : Value → World → Prop) (h : W.addr_last b w Q) : Calls Tryz.prog F.addr_last #[.slice b.a b.len b.cap] w fun e w1 => ∃ v, e = .returned v ∧ Q v w1 :=
  calls_of_DF hmix Tryz.func63 (by kernel_rfl) (Eq.mp (W.addr_last_eq b w Q) h)

/-- stanchion/num.Put -/
def W.num_Put (b : Sl) (n : Int) (size : Int) (w : World) (Q : Value → World → Prop) : Prop :=
  Calls Tryz.prog F.slices_Clone_Sl_byte_byte #[.slice b.a b.len b.cap] w fun e2 w1 =>
  ∃ s3 : Sl, e2 = .returned (.slice s3.a s3.len s3.cap) ∧ Calls Tryz.prog F.num_good #[.int .i64 size] w1 fun e5 w4 =>
  ∃ b6 : Bool, e5 = .returned (.bool b6) ∧ ((!b6) = true → Q (.slice s3.a s3.len s3.cap) w4) ∧
  (
    (!b6) = false → ∃ (I7 : Sl → Int → World → Prop) (μ8 : Sl → Int → World → Nat), I7 s3 (IntKind.wrap .i64 (size - 1)) w4 ∧
    ∀ (s9 : Sl) (n10 : Int) (w11 : World), I7 s9 n10 w11 → (
      (decide ((n10 : Int) ≥ 0)) = true → (0 : Int) ≤ (IntKind.wrap .i64 (8 * n10)) ∧
      Nx (
        w11.alloc (
          .cells #[.int .u8 (IntKind.wrap .u8 (Int.fdiv n (2 ^ (min (Int.toNat (IntKind.wrap .i64 (8 * n10))) 64))))] Ty.uint8)
        )
      fun w12 => ∃ s13 : Sl, ∃ w14 : World, Sem.run Tryz.prog (
        Builtin.append_ #[Ty.Sl_uint8, Ty.Sl_uint8] Ty.Sl_uint8 #[.slice s9.a s9.len s9.cap, .slice (some ⟨w11.heap.size, 0, none⟩) 1 1])
      w12 = .ok (.slice s13.a s13.len s13.cap) w14 ∧ I7 s13 (IntKind.wrap .i64 (n10 - 1)) w14 ∧
      μ8 s13 (IntKind.wrap .i64 (n10 - 1)) w14 < μ8 s9 n10 w11)
    ∧ ((decide ((n10 : Int) ≥ 0)) = false → Q (.slice s9.a s9.len s9.cap) w11))
def A.num_Put : AT := (.seq (.reg []) (.seq (.reg []) (.seq (.seq (.reg []) (.cond (.seq (.reg []) .leaf) .leaf)) (.seq (.seq (.reg []) (.blk (.loop [(7, .slice), (8, (.int .i64))] [1] (.seq (.seq (.reg []) (.cond .leaf .leaf)) (.seq (.blk (.reg [])) (.reg [])))))) (.seq (.reg []) .leaf)))))
theorem W.num_Put_eq (b : Sl) (n : Int) (size : Int) (w : World) (Q : Value → World → Prop) : W.num_Put b n size w Q = DF Tryz.prog tk A.num_Put Tryz.f64 [.slice b.a b.len b.cap, .int .u64 n, .int .i64 size] w Q := by kernel_rfl
theorem W.num_Put_ok (b : Sl) (n : Int) (size : Int) (w : World) (Q : Value → World → Prop) (h : W.num_Put b n size w Q) : Calls Tryz.prog F.num_Put #[.slice b.a b.len b.cap, .int .u64 n, .int .i64 size] w fun e w1 => ∃ v, e = .returned v ∧ Q v w1 :=
  calls_of_DF hmix Tryz.func64 (by kernel_rfl) (Eq.mp (W.num_Put_eq b n size w Q) h)

/-- stanchion/addr.good -/
def W.addr_good (a : Array Value) (w : World) (Q : Value → World → Prop) : Prop :=
  Nx (w.alloc (.cells a Ty.api_Addr)) fun w1 => ∃ b2 : Bool, w1.cell? ⟨w.heap.size, 0, none⟩ = some (.bool b2) ∧
  Jn (
    fun k3 : Bool → World → Prop => (b2 = true → k3 true w1) ∧ (
      b2 = false → ((0 : Int) ≤ 12 ∧ 12 ≤ ((16 : Nat) : Int)) ∧ 12 ≤ ((Int.toNat 12) - 0) ∧
      ∃ a4 : Addr, (cutA (some (Addr.add ⟨w.heap.size, 0, none⟩ 1)) 1 0 16) = some a4 ∧
      ∃ l5 : List Value, rdCells w1 a4 0 12 = some l5 ∧ ∃ c6 : Array Value, Sem.run Tryz.prog (Instr.build Ty.n12_uint8 #[]) w1 = .ok (.agg c6) w1 ∧
      ∃ b7 : Bool, AggEq Tryz.prog Ty.n12_uint8 l5.toArray c6 b7 ∧ k3 b7 w1)
    )
  (fun (b8 : Bool) (w9 : World) => Q (.bool b8) w9)
def A.addr_good : AT := (.seq (.reg []) (.seq (.reg [.run, .run, .run, .split 6]) .leaf))
theorem W.addr_good_eq (a : Array Value) (w : World) (Q : Value → World → Prop) : W.addr_good a w Q = DF Tryz.prog tk A.addr_good Tryz.f65 [.agg a] w Q := by kernel_rfl
theorem W.addr_good_ok (a : Array Value) (w : World) (Q : Value → World → Prop) (h : W.addr_good a w Q) : Calls Tryz.prog F.addr_good #[.agg a] w fun e w1 => ∃ v, e = .returned v ∧ Q v w1 :=
  calls_of_DF hmix Tryz.func65 (by kernel_rfl) (Eq.mp (W.addr_good_eq a w Q) h)

/-- stanchion/addr.raw -/
def W.addr_raw (a : Array Value) (w : World) (Q : Value → World → Prop) : Prop :=
  Nx (w.alloc (.cells a Ty.api_Addr)) fun w1 => ∃ b2 : Bool, w1.cell? ⟨w.heap.size, 0, none⟩ = some (.bool b2) ∧
  (
    b2 = true → Q (.slice (cutA (some (Addr.add ⟨w.heap.size, 0, none⟩ 1)) 1 0 16) (16 - 0) (16 - 0)) w1)
  ∧ (
    b2 = false → ((0 : Int) ≤ 12 ∧ 12 ≤ ((16 : Nat) : Int)) ∧ Q (
      .slice (cutA (some (Addr.add ⟨w.heap.size, 0, none⟩ 1)) 1 (Int.toNat 12) 16) (16 - (Int.toNat 12)) (16 - (Int.toNat 12)))
    w1)
def A.addr_raw : AT := (.seq (.reg []) (.seq (.seq (.reg []) (.cond (.seq (.reg []) .leaf) .leaf)) (.seq (.reg []) .leaf)))
theorem W.addr_raw_eq (a : Array Value) (w : World) (Q : Value → World → Prop) : W.addr_raw a w Q = DF Tryz.prog tk A.addr_raw Tryz.f66 [.agg a] w Q := by kernel_rfl
theorem W.addr_raw_ok (a : Array Value) (w : World) (Q : Value → World → Prop) (h : W.addr_raw a w Q) : Calls Tryz.prog F.addr_raw #[.agg a] w fun e w1 => ∃ v, e = .returned v ∧ Q v w1 :=
  calls_of_DF hmix Tryz.func66 (by kernel_rfl) (Eq.mp (W.addr_raw_eq a w Q) h)

/-- stanchion/num.Get -/
def W.num_Get (b : Sl) (v_at : Int) (size : Int) (w : World) (Q : Value → World → Prop) : Prop :=
  Calls Tryz.prog F.num_cut #[.slice b.a b.len b.cap, .int .i64 v_at, .int .i64 size] w fun e2 w1 =>
  ∃ s3 : Sl, ∃ b4 : Bool, e2 = .returned (.tuple #[.slice s3.a s3.len s3.cap, .bool b4]) ∧
  Jn (
    fun k5 : Bool → World → Prop => ((!b4) = true → k5 true w1) ∧ (
      (!b4) = false → Calls Tryz.prog F.num_good #[.int .i64 size] w1 fun e7 w6 =>
      ∃ b8 : Bool, e7 = .returned (.bool b8) ∧ k5 (!b8) w6)
    )
  (
    fun (b9 : Bool) (w10 : World) => (b9 = true → Q (.tuple #[.int .u64 0, .bool false]) w10) ∧
    (
      b9 = false → ∃ (I11 : Int → Int → World → Prop) (μ12 : Int → Int → World → Nat), I11 0 0 w10 ∧
      ∀ (n13 : Int) (n14 : Int) (w15 : World), I11 n13 n14 w15 → (
        (decide ((n14 : Int) < ((s3.len : Nat) : Int))) = true → ∃ a16 : Addr, s3.a = some a16 ∧
        ((0 : Int) ≤ n14 ∧ n14 < ((s3.len : Nat) : Int)) ∧ ∃ n17 : Int, w15.cell? (a16.add (Int.toNat n14 * 1)) = some (.int .u8 n17) ∧
        (0 : Int) ≤ 8 ∧ I11 (bOr .u64 (IntKind.wrap .u64 (n13 * 2 ^ (min (Int.toNat 8) 64))) (IntKind.wrap .u64 n17)) (IntKind.wrap .i64 (n14 + 1)) w15 ∧
        μ12 (bOr .u64 (IntKind.wrap .u64 (n13 * 2 ^ (min (Int.toNat 8) 64))) (IntKind.wrap .u64 n17)) (IntKind.wrap .i64 (n14 + 1)) w15 < μ12 n13 n14 w15)
      ∧ (
        (decide ((n14 : Int) < ((s3.len : Nat) : Int))) = false → Q (.tuple #[.int .u64 n13, .bool true]) w15)
      )
    )
def A.num_Get : AT := (.seq (.reg []) (.seq (.reg []) (.seq (.seq (.reg [.run, .run, .run, .split 3]) (.cond (.seq (.reg []) .leaf) .leaf)) (.seq (.reg []) (.seq (.seq (.reg []) (.blk (.loop [(10, (.int .u64)), (29, (.int .i64))] [27, 28] (.seq (.reg []) (.seq (.cond .leaf .leaf) (.seq (.blk (.seq (.reg []) (.reg []))) (.reg []))))))) (.seq (.reg []) .leaf))))))
theorem W.num_Get_eq (b : Sl) (v_at : Int) (size : Int) (w : World) (Q : Value → World → Prop) : W.num_Get b v_at size w Q = DF Tryz.prog tk A.num_Get Tryz.f67 [.slice b.a b.len b.cap, .int .i64 v_at, .int .i64 size] w Q := by kernel_rfl
theorem W.num_Get_ok (b : Sl) (v_at : Int) (size : Int) (w : World) (Q : Value → World → Prop) (h : W.num_Get b v_at size w Q) : Calls Tryz.prog F.num_Get #[.slice b.a b.len b.cap, .int .i64 v_at, .int .i64 size] w fun e w1 => ∃ v, e = .returned v ∧ Q v w1 :=
  calls_of_DF hmix Tryz.func67 (by kernel_rfl) (Eq.mp (W.num_Get_eq b v_at size w Q) h)

/-- stanchion/addr.Bytes -/
def W.addr_Bytes (a : Array Value) (w : World) (Q : Value → World → Prop) : Prop :=
  Nx (w.alloc (.cells a Ty.api_Addr)) fun w1 => ∃ l2 : List Value, rdCells w1 ⟨w.heap.size, 0, none⟩ 0 17 = some l2 ∧
  Calls Tryz.prog F.addr_raw #[.agg l2.toArray] w1 fun e4 w3 => ∃ s5 : Sl, e4 = .returned (.slice s5.a s5.len s5.cap) ∧
  Nx (w3.alloc (.cells #[.slice s5.a s5.len s5.cap] Ty.Sl_uint8)) fun w6 => Calls Tryz.prog F.num_Bytes #[.slice (some ⟨w3.heap.size, 0, none⟩) 1 1] w6 fun e8 w7 =>
  ∃ s9 : Sl, e8 = .returned (.slice s9.a s9.len s9.cap) ∧ Q (.slice s9.a s9.len s9.cap) w7
def A.addr_Bytes : AT := (.seq (.reg []) (.seq (.reg []) .leaf))
theorem W.addr_Bytes_eq (a : Array Value) (w : World) (Q : Value → World → Prop) : W.addr_Bytes a w Q = DF Tryz.prog tk A.addr_Bytes Tryz.f74 [.agg a] w Q := by kernel_rfl
theorem W.addr_Bytes_ok (a : Array Value) (w : World) (Q : Value → World → Prop) (h : W.addr_Bytes a w Q) : Calls Tryz.prog F.addr_Bytes #[.agg a] w fun e w1 => ∃ v, e = .returned v ∧ Q v w1 :=
  calls_of_DF hmix Tryz.func74 (by kernel_rfl) (Eq.mp (W.addr_Bytes_eq a w Q) h)

/-- stanchion/num.good -/
def W.num_good (size : Int) (w : World) (Q : Value → World → Prop) : Prop :=
  Q (.bool ((decide ((size : Int) ≥ 1)) && (decide ((size : Int) ≤ 8)))) w
def A.num_good : AT := (.seq (.reg []) (.seq (.reg [.run, .run, .run, .pure 2]) .leaf))
theorem W.num_good_eq (size : Int) (w : World) (Q : Value → World → Prop) : W.num_good size w Q = DF Tryz.prog tk A.num_good Tryz.f89 [.int .i64 size] w Q := by kernel_rfl
theorem W.num_good_ok (size : Int) (w : World) (Q : Value → World → Prop) (h : W.num_good size w Q) : Calls Tryz.prog F.num_good #[.int .i64 size] w fun e w1 => ∃ v, e = .returned v ∧ Q v w1 :=
  calls_of_DF hmix Tryz.func89 (by kernel_rfl) (Eq.mp (W.num_good_eq size w Q) h)

/-- stanchion/num.cut -/
def W.num_cut (b : Sl) (v_at : Int) (size : Int) (w : World) (Q : Value → World → Prop) : Prop :=
  (
    (
      (
        ((decide ((v_at : Int) < 0)) || (decide ((size : Int) < 0))) || (decide ((v_at : Int) > ((b.len : Nat) : Int))))
      || (decide ((size : Int) > (IntKind.wrap .i64 (((b.len : Nat) : Int) - v_at)))))
    = true → Q (.tuple #[.slice none 0 0, .bool false]) w)
  ∧ (
    (
      (
        ((decide ((v_at : Int) < 0)) || (decide ((size : Int) < 0))) || (decide ((v_at : Int) > ((b.len : Nat) : Int))))
      || (decide ((size : Int) > (IntKind.wrap .i64 (((b.len : Nat) : Int) - v_at)))))
    = false → (
      (0 : Int) ≤ (IntKind.wrap .i64 (v_at + size)) ∧ (IntKind.wrap .i64 (v_at + size)) ≤ ((b.cap : Nat) : Int))
    ∧ ((0 : Int) ≤ v_at ∧ v_at ≤ (((Int.toNat (IntKind.wrap .i64 (v_at + size))) : Nat) : Int)) ∧
    Q (
      .tuple #[.slice (cutA b.a 1 (Int.toNat v_at) b.cap) ((Int.toNat (IntKind.wrap .i64 (v_at + size))) - (Int.toNat v_at)) (b.cap - (Int.toNat v_at)), .bool true])
    w)
def A.num_cut : AT := (.seq (.reg []) (.seq (.seq (.reg [.run, .run, .run, .pure 2, .run, .run, .run, .pure 4, .run, .run, .run, .run, .run, .pure 6]) (.cond (.seq (.reg []) .leaf) .leaf)) (.seq (.reg []) .leaf)))
theorem W.num_cut_eq (b : Sl) (v_at : Int) (size : Int) (w : World) (Q : Value → World → Prop) : W.num_cut b v_at size w Q = DF Tryz.prog tk A.num_cut Tryz.f90 [.slice b.a b.len b.cap, .int .i64 v_at, .int .i64 size] w Q := by kernel_rfl
theorem W.num_cut_ok (b : Sl) (v_at : Int) (size : Int) (w : World) (Q : Value → World → Prop) (h : W.num_cut b v_at size w Q) : Calls Tryz.prog F.num_cut #[.slice b.a b.len b.cap, .int .i64 v_at, .int .i64 size] w fun e w1 => ∃ v, e = .returned v ∧ Q v w1 :=
  calls_of_DF hmix Tryz.func90 (by kernel_rfl) (Eq.mp (W.num_cut_eq b v_at size w Q) h)

/-- stanchion/num.Bytes -/
def W.num_Bytes (parts : Sl) (w : World) (Q : Value → World → Prop) : Prop :=
  ∃ (I1 : Sl → Int → World → Prop) (μ2 : Sl → Int → World → Nat), I1 ⟨none, 0, 0⟩ 0 w ∧
  ∀ (s3 : Sl) (n4 : Int) (w5 : World), I1 s3 n4 w5 → (
    (decide ((n4 : Int) < ((parts.len : Nat) : Int))) = true → ∃ a6 : Addr, parts.a = some a6 ∧
    ((0 : Int) ≤ n4 ∧ n4 < ((parts.len : Nat) : Int)) ∧ ∃ s7 : Sl, w5.cell? (a6.add (Int.toNat n4 * 1)) = some (.slice s7.a s7.len s7.cap) ∧
    ∃ s8 : Sl, ∃ w9 : World, Sem.run Tryz.prog (
      Builtin.append_ #[Ty.Sl_uint8, Ty.Sl_uint8] Ty.Sl_uint8 #[.slice s3.a s3.len s3.cap, .slice s7.a s7.len s7.cap])
    w5 = .ok (.slice s8.a s8.len s8.cap) w9 ∧ I1 s8 (IntKind.wrap .i64 (n4 + 1)) w9 ∧
    μ2 s8 (IntKind.wrap .i64 (n4 + 1)) w9 < μ2 s3 n4 w5)
  ∧ ((decide ((n4 : Int) < ((parts.len : Nat) : Int))) = false → Q (.slice s3.a s3.len s3.cap) w5)
def A.num_Bytes : AT := (.seq (.reg []) (.seq (.reg []) (.seq (.seq (.reg []) (.blk (.loop [(3, .slice), (8, (.int .i64))] [6, 7] (.seq (.reg []) (.seq (.cond .leaf .leaf) (.seq (.blk (.seq (.reg []) (.reg []))) (.reg []))))))) (.seq (.reg []) .leaf))))
theorem W.num_Bytes_eq (parts : Sl) (w : World) (Q : Value → World → Prop) : W.num_Bytes parts w Q = DF Tryz.prog tk A.num_Bytes Tryz.f94 [.slice parts.a parts.len parts.cap] w Q := by kernel_rfl
theorem W.num_Bytes_ok (parts : Sl) (w : World) (Q : Value → World → Prop) (h : W.num_Bytes parts w Q) : Calls Tryz.prog F.num_Bytes #[.slice parts.a parts.len parts.cap] w fun e w1 => ∃ v, e = .returned v ∧ Q v w1 :=
  calls_of_DF hmix Tryz.func94 (by kernel_rfl) (Eq.mp (W.num_Bytes_eq parts w Q) h)

end Go.Proofs.YtcjpgabpihkcjaaGreatDoor
