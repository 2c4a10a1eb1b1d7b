/- Printed by gen.py: each function of the program as what must be shown of it. -/
import Derived.Test.YtcjpgabpihkcjaaGreatDoorGb
namespace Go.Proofs.YtcjpgabpihkcjaaGreatDoor
open Go Gx
set_option maxRecDepth 100000
/-- stanchion/stanchionref32.Show -/
def W.ref32_Show (r : Array Value) (w : World) (Q : Value → World → Prop) : Prop :=
  Nx (w.alloc (.cells r Ty.api_Rule)) fun w1 => ∃ l2 : List Value, rdCells w1 ⟨w.heap.size, 0, none⟩ 0 40 = some l2 ∧
  Calls Tryz.prog F.ref32_Good #[.agg l2.toArray] w1 fun e4 w3 => ∃ b5 : Bool, e4 = .returned (.bool b5) ∧
  ((!b5) = true → Q (.string (ByteArray.mk #[])) w3) ∧ (
    (!b5) = false → Jn (
      fun k6 : ByteArray → World → Prop => ∃ b7 : Bool, w3.cell? (Addr.add ⟨w.heap.size, 0, none⟩ 39) = some (.bool b7) ∧
      (b7 = true → k6 (ByteArray.mk #[97, 108, 108, 111, 119, 32]) w3) ∧ (b7 = false → k6 (ByteArray.mk #[100, 101, 110, 121, 32]) w3))
    (
      fun (s8 : ByteArray) (w9 : World) => ∃ n10 : Int, w9.cell? (Addr.add ⟨w.heap.size, 0, none⟩ 36) = some (.int .u8 n10) ∧
      Calls Tryz.prog F.ref12_Num #[.int .i64 (IntKind.wrap .i64 n10), .int .i64 10] w9 fun e12 w11 =>
      ∃ s13 : ByteArray, e12 = .returned (.string s13) ∧ Jn (
        fun k14 : ByteArray → World → Prop => ∃ n15 : Int, w11.cell? (Addr.add ⟨w.heap.size, 0, none⟩ 36) = some (.int .u8 n15) ∧
        (((n15 : Int) == 0) = true → k14 (ByteArray.mk #[97, 110, 121]) w11) ∧ (((n15 : Int) == 0) = false → k14 s13 w11))
      (
        fun (s16 : ByteArray) (w17 : World) => Jn (
          fun k18 : ByteArray → World → Prop => ∃ n19 : Int, w17.cell? (Addr.add ⟨w.heap.size, 0, none⟩ 36) = some (.int .u8 n19) ∧
          (((n19 : Int) == 6) = true → k18 (ByteArray.mk #[116, 99, 112]) w17) ∧ (((n19 : Int) == 6) = false → k18 s16 w17))
        (
          fun (s20 : ByteArray) (w21 : World) => Jn (
            fun k22 : ByteArray → World → Prop => ∃ n23 : Int, w21.cell? (Addr.add ⟨w.heap.size, 0, none⟩ 36) = some (.int .u8 n23) ∧
            (((n23 : Int) == 17) = true → k22 (ByteArray.mk #[117, 100, 112]) w21) ∧ (((n23 : Int) == 17) = false → k22 s20 w21))
          (
            fun (s24 : ByteArray) (w25 : World) => Nx (w25.drew) fun w26 => ∃ W27 : Nat →
            Prop, ((ByteArray.size s8 + ByteArray.size s24 : Nat) : Int) ≤ 9223372036854775807 ∧
            ((ByteArray.size (s8 ++ s24) + ByteArray.size (ByteArray.mk #[32]) : Nat) : Int) ≤ 9223372036854775807 ∧
            ¬ W27 (⟨w.heap.size, 0, none⟩ : Addr).block ∧ ∃ l28 : List Value, rdCells w26 ⟨w.heap.size, 0, none⟩ 0 18 = some l28 ∧
            ¬ W27 (Addr.add ⟨w.heap.size, 0, none⟩ 18).block ∧ ∃ l29 : List Value, rdCells w26 (Addr.add ⟨w.heap.size, 0, none⟩ 18) 0 18 = some l29 ∧
            ¬ W27 (Addr.add ⟨w.heap.size, 0, none⟩ 37).block ∧ ∃ n30 : Int, w26.cell? (Addr.add ⟨w.heap.size, 0, none⟩ 37) = some (.int .u16 n30) ∧
            ¬ W27 (Addr.add ⟨w.heap.size, 0, none⟩ 38).block ∧ ∃ n31 : Int, w26.cell? (Addr.add ⟨w.heap.size, 0, none⟩ 38) = some (.int .u16 n31) ∧
            Calls Tryz.prog F.ref12_ShowPrefix #[.agg l28.toArray] w26 fun e33 w32 => ∃ s34 : ByteArray, e33 = .returned (.string s34) ∧
            Chg W27 w26 w32 ∧ ((ByteArray.size ((s8 ++ s24) ++ (ByteArray.mk #[32])) + ByteArray.size s34 : Nat) : Int) ≤ 9223372036854775807 ∧
            (
              (
                ByteArray.size (((s8 ++ s24) ++ (ByteArray.mk #[32])) ++ s34) + ByteArray.size (ByteArray.mk #[32]) : Nat)
              : Int)
            ≤ 9223372036854775807 ∧ Calls Tryz.prog F.ref12_ShowPrefix #[.agg l29.toArray] w32 fun e36 w35 =>
            ∃ s37 : ByteArray, e36 = .returned (.string s37) ∧ Chg W27 w32 w35 ∧ (
              (
                ByteArray.size ((((s8 ++ s24) ++ (ByteArray.mk #[32])) ++ s34) ++ (ByteArray.mk #[32])) + ByteArray.size s37 : Nat)
              : Int)
            ≤ 9223372036854775807 ∧ (
              (
                ByteArray.size (((((s8 ++ s24) ++ (ByteArray.mk #[32])) ++ s34) ++ (ByteArray.mk #[32])) ++ s37) + ByteArray.size (ByteArray.mk #[32]) : Nat)
              : Int)
            ≤ 9223372036854775807 ∧ Calls Tryz.prog F.ref12_Num #[.int .i64 (IntKind.wrap .i64 n30), .int .i64 10] w35 fun e39 w38 =>
            ∃ s40 : ByteArray, e39 = .returned (.string s40) ∧ Chg W27 w35 w38 ∧ (
              (
                ByteArray.size (
                  (((((s8 ++ s24) ++ (ByteArray.mk #[32])) ++ s34) ++ (ByteArray.mk #[32])) ++ s37) ++ (ByteArray.mk #[32]))
                + ByteArray.size s40 : Nat)
              : Int)
            ≤ 9223372036854775807 ∧ (
              (
                ByteArray.size (
                  (
                    (((((s8 ++ s24) ++ (ByteArray.mk #[32])) ++ s34) ++ (ByteArray.mk #[32])) ++ s37) ++ (ByteArray.mk #[32]))
                  ++ s40)
                + ByteArray.size (ByteArray.mk #[45]) : Nat)
              : Int)
            ≤ 9223372036854775807 ∧ Calls Tryz.prog F.ref12_Num #[.int .i64 (IntKind.wrap .i64 n31), .int .i64 10] w38 fun e42 w41 =>
            ∃ s43 : ByteArray, e42 = .returned (.string s43) ∧ Chg W27 w38 w41 ∧ (
              (
                ByteArray.size (
                  (
                    (
                      (((((s8 ++ s24) ++ (ByteArray.mk #[32])) ++ s34) ++ (ByteArray.mk #[32])) ++ s37) ++ (ByteArray.mk #[32]))
                    ++ s40)
                  ++ (ByteArray.mk #[45]))
                + ByteArray.size s43 : Nat)
              : Int)
            ≤ 9223372036854775807 ∧ Q (
              .string (
                (
                  (
                    (
                      (((((s8 ++ s24) ++ (ByteArray.mk #[32])) ++ s34) ++ (ByteArray.mk #[32])) ++ s37) ++ (ByteArray.mk #[32]))
                    ++ s40)
                  ++ (ByteArray.mk #[45]))
                ++ s43)
              )
            w41)
          )
        )
      )
    )
def A.ref32_Show : AT := (.seq (.reg []) (.seq (.seq (.reg []) (.cond (.seq (.reg []) .leaf) .leaf)) (.seq (.reg []) (.seq (.jk [(3, .str)] [1] (.seq (.reg []) (.cond (.reg []) .leaf))) (.seq (.reg []) (.seq (.jk [(4, .str)] [1, 3] (.seq (.reg []) (.cond (.reg []) .leaf))) (.seq (.jk [(4, .str)] [1, 3] (.seq (.reg []) (.cond (.reg []) .leaf))) (.seq (.jk [(4, .str)] [1, 3] (.seq (.reg []) (.cond (.reg []) .leaf))) (.seq (.drw 24 true ⟨[0, 0, 3, 4, 0, 16, 32, 72, 128, 0, 512, 1088, 2304, 4096, 0, 16384, 32768, 67584, 139264, 262144, 0, 1048576, 2097152, 4325376, 8912896, 33554431], [0, 0, 3, 4, 0, 16, 32, 72, 128, 0, 512, 1024, 2304, 4096, 0, 16384, 32768, 65536, 139264, 262144, 0, 1048576, 2097152, 4194304, 8912896, 16777216]⟩ [8388608, 16777216, 33554432, 67108864, 134217728, 268435456, 536870912, 1073741824, 2147483648, 4294967296, 8589934592, 17179869184, 34359738368, 68719476736, 137438953472, 274877906944, 549755813888, 1099511627776, 2199023255552, 4398046511104, 8796093022208, 17592186044416, 35184372088832, 70368744177664, 140737488355328, 4] [8, 16, 25165824, 33554432, 2, 134217728, 268435456, 603979776, 1073741824, 2, 4294967296, 8589934592, 19327352832, 34359738368, 2, 137438953472, 274877906944, 549755813888, 1168231104512, 2199023255552, 2, 8796093022208, 17592186044416, 35184372088832, 74766790688768, 140737488355328] (.take 0 (.take 1 (.take 2 (.take 3 (.take 4 (.take 5 (.take 9 (.take 10 (.take 14 (.take 15 (.take 16 (.take 20 (.take 21 (.take 22 (.eff 6 (.take 7 (.take 8 (.eff 11 (.take 12 (.take 13 (.eff 17 (.take 18 (.take 19 (.eff 23 (.tail [.run, .run])))))))))))))))))))))))))) .leaf)))))))))
theorem W.ref32_Show_eq (r : Array Value) (w : World) (Q : Value → World → Prop) : W.ref32_Show r w Q = DF Tryz.prog tk A.ref32_Show Tryz.f7 [.agg r] w Q := by kernel_rfl
theorem W.ref32_Show_ok (r : Array Value) (w : World) (Q : Value → World → Prop) (h : W.ref32_Show r w Q) : Calls Tryz.prog F.ref32_Show #[.agg r] w fun e w1 => ∃ v, e = .returned v ∧ Q v w1 :=
  calls_of_DF hmix Tryz.func7 (by kernel_rfl) (Eq.mp (W.ref32_Show_eq r w Q) h)

/-- stanchion/stanchionref32.Good -/
def W.ref32_Good (r : Array Value) (w : World) (Q : Value → World → Prop) : Prop :=
  Nx (w.alloc (.cells r Ty.api_Rule)) fun w1 => ∃ l2 : List Value, rdCells w1 ⟨w.heap.size, 0, none⟩ 0 18 = some l2 ∧
  Calls Tryz.prog F.ref31_Good #[.agg l2.toArray] w1 fun e4 w3 => ∃ b5 : Bool, e4 = .returned (.bool b5) ∧
  Jn (
    fun k6 : Bool → World → Prop => (
      b5 = true → ∃ l7 : List Value, rdCells w3 (Addr.add ⟨w.heap.size, 0, none⟩ 18) 0 18 = some l7 ∧
      Calls Tryz.prog F.ref31_Good #[.agg l7.toArray] w3 fun e9 w8 => ∃ b10 : Bool, e9 = .returned (.bool b10) ∧
      k6 b10 w8)
    ∧ (b5 = false → k6 false w3))
  (
    fun (b11 : Bool) (w12 : World) => Jn (
      fun k13 : Bool → World → Prop => (
        b11 = true → ∃ b14 : Bool, w12.cell? ⟨w.heap.size, 0, none⟩ = some (.bool b14) ∧
        ∃ b15 : Bool, w12.cell? (Addr.add ⟨w.heap.size, 0, none⟩ 18) = some (.bool b15) ∧
        k13 (b14 == b15) w12)
      ∧ (b11 = false → k13 false w12))
    (
      fun (b16 : Bool) (w17 : World) => Jn (
        fun k18 : Bool → World → Prop => (
          b16 = true → ∃ n19 : Int, w17.cell? (Addr.add ⟨w.heap.size, 0, none⟩ 37) = some (.int .u16 n19) ∧
          ∃ n20 : Int, w17.cell? (Addr.add ⟨w.heap.size, 0, none⟩ 38) = some (.int .u16 n20) ∧
          k18 (decide ((n19 : Int) ≤ n20)) w17)
        ∧ (b16 = false → k18 false w17))
      (fun (b21 : Bool) (w22 : World) => Q (.bool b21) w22))
    )
def A.ref32_Good : AT := (.seq (.reg []) (.seq (.reg [.run, .run, .run, .run, .split 3, .run, .run, .run, .run, .split 9, .run, .run, .run, .run, .run, .run, .run, .run, .run, .run, .split 5]) .leaf))
theorem W.ref32_Good_eq (r : Array Value) (w : World) (Q : Value → World → Prop) : W.ref32_Good r w Q = DF Tryz.prog tk A.ref32_Good Tryz.f15 [.agg r] w Q := by kernel_rfl
theorem W.ref32_Good_ok (r : Array Value) (w : World) (Q : Value → World → Prop) (h : W.ref32_Good r w Q) : Calls Tryz.prog F.ref32_Good #[.agg r] w fun e w1 => ∃ v, e = .returned v ∧ Q v w1 :=
  calls_of_DF hmix Tryz.func15 (by kernel_rfl) (Eq.mp (W.ref32_Good_eq r w Q) h)

/-- stanchion/stanchionref12.Num -/
def W.ref12_Num (n : Int) (base : Int) (w : World) (Q : Value → World → Prop) : Prop :=
  (
    (decide ((n : Int) < base)) = true → (
      (0 : Int) ≤ (IntKind.wrap .i64 (n + 1)) ∧ (IntKind.wrap .i64 (n + 1)) ≤ (
        (
          (ByteArray.size (ByteArray.mk #[48, 49, 50, 51, 52, 53, 54, 55, 56, 57, 97, 98, 99, 100, 101, 102])) : Nat)
        : Int)
      )
    ∧ ((0 : Int) ≤ n ∧ n ≤ (((Int.toNat (IntKind.wrap .i64 (n + 1))) : Nat) : Int)) ∧
    Q (
      .string (
        ByteArray.extract (ByteArray.mk #[48, 49, 50, 51, 52, 53, 54, 55, 56, 57, 97, 98, 99, 100, 101, 102]) (Int.toNat n) (Int.toNat (IntKind.wrap .i64 (n + 1))))
      )
    w)
  ∧ (
    (decide ((n : Int) < base)) = false → Nx (w.drew) fun w1 => ∃ W2 : Nat → Prop, (base : Int) ≠ 0 ∧
    (base : Int) ≠ 0 ∧ Calls Tryz.prog F.ref12_Num #[.int .i64 (IntKind.wrap .i64 (Int.tdiv n base)), .int .i64 base] w1 fun e4 w3 =>
    ∃ s5 : ByteArray, e4 = .returned (.string s5) ∧ Calls Tryz.prog F.ref12_Num #[.int .i64 (Int.tmod n base), .int .i64 base] w3 fun e7 w6 =>
    ∃ s8 : ByteArray, e7 = .returned (.string s8) ∧ ((ByteArray.size s5 + ByteArray.size s8 : Nat) : Int) ≤ 9223372036854775807 ∧
    Q (.string (s5 ++ s8)) w6)
def A.ref12_Num : AT := (.seq (.reg []) (.seq (.seq (.reg []) (.cond (.seq (.reg []) .leaf) .leaf)) (.seq (.drw 9 true ⟨[0, 0, 3, 0, 12, 0, 0, 96, 0, 400, 528, 2047], [0, 0, 3, 0, 12, 0, 0, 96, 0, 384, 528, 1024]⟩ [4096, 8192, 16384, 32768, 65536, 131072, 262144, 524288, 1048576, 2097152, 4194304, 16] [1, 2, 12288, 2, 49152, 1, 2, 393216, 2, 1572864, 2162688, 4194304] (.take 0 (.take 1 (.take 2 (.take 3 (.take 5 (.take 6 (.take 7 (.take 8 (.out 4 false (.tail [.run, .run, .run]))))))))))) .leaf)))
theorem W.ref12_Num_eq (n : Int) (base : Int) (w : World) (Q : Value → World → Prop) : W.ref12_Num n base w Q = DF Tryz.prog tk A.ref12_Num Tryz.f16 [.int .i64 n, .int .i64 base] w Q := by kernel_rfl
theorem W.ref12_Num_ok (n : Int) (base : Int) (w : World) (Q : Value → World → Prop) (h : W.ref12_Num n base w Q) : Calls Tryz.prog F.ref12_Num #[.int .i64 n, .int .i64 base] w fun e w1 => ∃ v, e = .returned v ∧ Q v w1 :=
  calls_of_DF hmix Tryz.func16 (by kernel_rfl) (Eq.mp (W.ref12_Num_eq n base w Q) h)

/-- stanchion/stanchionref12.ShowPrefix -/
def W.ref12_ShowPrefix (p : Array Value) (w : World) (Q : Value → World → Prop) : Prop :=
  Nx (w.alloc (.cells p Ty.api_Prefix)) fun w1 => ∃ l2 : List Value, rdCells w1 ⟨w.heap.size, 0, none⟩ 0 17 = some l2 ∧
  ∃ n3 : Int, w1.cell? (Addr.add ⟨w.heap.size, 0, none⟩ 17) = some (.int .i64 n3) ∧
  Calls Tryz.prog F.ref12_Mask #[.agg l2.toArray, .int .i64 n3] w1 fun e5 w4 =>
  ∃ c6 : Array Value, ∃ b7 : Bool, e5 = .returned (.tuple #[.agg c6, .bool b7]) ∧
  Nx (
    w4.alloc (
      .cells #[.bool false, .int .u8 0, .int .u8 0, .int .u8 0, .int .u8 0, .int .u8 0, .int .u8 0, .int .u8 0, .int .u8 0, .int .u8 0, .int .u8 0, .int .u8 0, .int .u8 0, .int .u8 0, .int .u8 0, .int .u8 0, .int .u8 0, .int .i64 0] Ty.api_Prefix)
    )
  fun w8 => StoreOk w8 ⟨w4.heap.size, 0, none⟩ (Array.toList c6) ∧ Array.size c6 = 18 ∧
  Nx (setCells w8 ⟨w4.heap.size, 0, none⟩ 0 (Array.toList c6)) fun w9 => Jn (
    fun k10 : Bool → World → Prop => ((!b7) = true → k10 true w9) ∧ (
      (!b7) = false → ∃ l11 : List Value, rdCells w9 ⟨w4.heap.size, 0, none⟩ 0 18 = some l11 ∧
      ∃ l12 : List Value, rdCells w9 ⟨w.heap.size, 0, none⟩ 0 18 = some l12 ∧ ∃ b13 : Bool, AggEq Tryz.prog Ty.api_Prefix l11.toArray l12.toArray b13 ∧
      k10 (!b13) w9)
    )
  (
    fun (b14 : Bool) (w15 : World) => (b14 = true → Q (.string (ByteArray.mk #[])) w15) ∧
    (
      b14 = false → Nx (w15.drew) fun w16 => ∃ W17 : Nat → Prop, ¬ W17 (⟨w.heap.size, 0, none⟩ : Addr).block ∧
      ∃ l18 : List Value, rdCells w16 ⟨w.heap.size, 0, none⟩ 0 17 = some l18 ∧ ¬ W17 (Addr.add ⟨w.heap.size, 0, none⟩ 17).block ∧
      ∃ n19 : Int, w16.cell? (Addr.add ⟨w.heap.size, 0, none⟩ 17) = some (.int .i64 n19) ∧
      Calls Tryz.prog F.ref12_Show #[.agg l18.toArray] w16 fun e21 w20 => ∃ s22 : ByteArray, e21 = .returned (.string s22) ∧
      Chg W17 w16 w20 ∧ ((ByteArray.size s22 + ByteArray.size (ByteArray.mk #[47]) : Nat) : Int) ≤ 9223372036854775807 ∧
      Calls Tryz.prog F.ref12_Num #[.int .i64 n19, .int .i64 10] w20 fun e24 w23 =>
      ∃ s25 : ByteArray, e24 = .returned (.string s25) ∧ Chg W17 w20 w23 ∧ ((ByteArray.size (s22 ++ (ByteArray.mk #[47])) + ByteArray.size s25 : Nat) : Int) ≤ 9223372036854775807 ∧
      Q (.string ((s22 ++ (ByteArray.mk #[47])) ++ s25)) w23)
    )
def A.ref12_ShowPrefix : AT := (.seq (.reg []) (.seq (.reg []) (.seq (.seq (.reg [.run, .run, .run, .split 3]) (.cond (.seq (.reg []) .leaf) .leaf)) (.seq (.drw 7 true ⟨[0, 1, 2, 4, 0, 16, 36, 72, 255], [0, 1, 2, 4, 0, 16, 32, 72, 128]⟩ [1048576, 2097152, 4194304, 8388608, 16777216, 33554432, 67108864, 134217728, 4] [2, 1048576, 2097152, 4194304, 2, 16777216, 33554432, 75497472, 134217728] (.take 0 (.take 1 (.take 4 (.take 5 (.eff 2 (.take 3 (.eff 6 (.tail [.run, .run]))))))))) .leaf))))
theorem W.ref12_ShowPrefix_eq (p : Array Value) (w : World) (Q : Value → World → Prop) : W.ref12_ShowPrefix p w Q = DF Tryz.prog tk A.ref12_ShowPrefix Tryz.f17 [.agg p] w Q := by kernel_rfl
theorem W.ref12_ShowPrefix_ok (p : Array Value) (w : World) (Q : Value → World → Prop) (h : W.ref12_ShowPrefix p w Q) : Calls Tryz.prog F.ref12_ShowPrefix #[.agg p] w fun e w1 => ∃ v, e = .returned v ∧ Q v w1 :=
  calls_of_DF hmix Tryz.func17 (by kernel_rfl) (Eq.mp (W.ref12_ShowPrefix_eq p w Q) h)

/-- stanchion/stanchionref31.Good -/
def W.ref31_Good (p : Array Value) (w : World) (Q : Value → World → Prop) : Prop :=
  Nx (w.alloc (.cells p Ty.api_Prefix)) fun w1 => ∃ l2 : List Value, rdCells w1 ⟨w.heap.size, 0, none⟩ 0 17 = some l2 ∧
  ∃ n3 : Int, w1.cell? (Addr.add ⟨w.heap.size, 0, none⟩ 17) = some (.int .i64 n3) ∧
  Calls Tryz.prog F.ref12_Mask #[.agg l2.toArray, .int .i64 n3] w1 fun e5 w4 =>
  ∃ c6 : Array Value, ∃ b7 : Bool, e5 = .returned (.tuple #[.agg c6, .bool b7]) ∧
  Nx (
    w4.alloc (
      .cells #[.bool false, .int .u8 0, .int .u8 0, .int .u8 0, .int .u8 0, .int .u8 0, .int .u8 0, .int .u8 0, .int .u8 0, .int .u8 0, .int .u8 0, .int .u8 0, .int .u8 0, .int .u8 0, .int .u8 0, .int .u8 0, .int .u8 0, .int .i64 0] Ty.api_Prefix)
    )
  fun w8 => StoreOk w8 ⟨w4.heap.size, 0, none⟩ (Array.toList c6) ∧ Array.size c6 = 18 ∧
  Nx (setCells w8 ⟨w4.heap.size, 0, none⟩ 0 (Array.toList c6)) fun w9 => Jn (
    fun k10 : Bool → World → Prop => (
      b7 = true → ∃ l11 : List Value, rdCells w9 ⟨w4.heap.size, 0, none⟩ 0 18 = some l11 ∧
      ∃ l12 : List Value, rdCells w9 ⟨w.heap.size, 0, none⟩ 0 18 = some l12 ∧ ∃ b13 : Bool, AggEq Tryz.prog Ty.api_Prefix l11.toArray l12.toArray b13 ∧
      k10 b13 w9)
    ∧ (b7 = false → k10 false w9))
  (fun (b14 : Bool) (w15 : World) => Q (.bool b14) w15)
def A.ref31_Good : AT := (.seq (.reg []) (.seq (.reg []) (.seq (.reg [.run, .run, .split 3]) .leaf)))
theorem W.ref31_Good_eq (p : Array Value) (w : World) (Q : Value → World → Prop) : W.ref31_Good p w Q = DF Tryz.prog tk A.ref31_Good Tryz.f31 [.agg p] w Q := by kernel_rfl
theorem W.ref31_Good_ok (p : Array Value) (w : World) (Q : Value → World → Prop) (h : W.ref31_Good p w Q) : Calls Tryz.prog F.ref31_Good #[.agg p] w fun e w1 => ∃ v, e = .returned v ∧ Q v w1 :=
  calls_of_DF hmix Tryz.func31 (by kernel_rfl) (Eq.mp (W.ref31_Good_eq p w Q) h)

/-- stanchion/stanchionref12.Mask -/
def W.ref12_Mask (a : Array Value) (bits : Int) (w : World) (Q : Value → World → Prop) : Prop :=
  Nx (w.alloc (.cells a Ty.api_Addr)) fun w1 => Nx (
    w1.alloc (
      .cells #[.bool false, .int .u8 0, .int .u8 0, .int .u8 0, .int .u8 0, .int .u8 0, .int .u8 0, .int .u8 0, .int .u8 0, .int .u8 0, .int .u8 0, .int .u8 0, .int .u8 0, .int .u8 0, .int .u8 0, .int .u8 0, .int .u8 0, .int .i64 0] Ty.api_Prefix)
    )
  fun w2 => ∃ l3 : List Value, rdCells w2 ⟨w.heap.size, 0, none⟩ 0 17 = some l3 ∧
  Calls Tryz.prog F.ref12_From #[.agg l3.toArray] w2 fun e5 w4 => ∃ n6 : Int, e5 = .returned (.int .i64 n6) ∧
  ∃ l7 : List Value, rdCells w4 ⟨w.heap.size, 0, none⟩ 0 17 = some l7 ∧ Calls Tryz.prog F.ref12_Good #[.agg l7.toArray] w4 fun e9 w8 =>
  ∃ b10 : Bool, e9 = .returned (.bool b10) ∧ (
    (
      ((!b10) || (decide ((bits : Int) < 0))) || (decide ((bits : Int) > (IntKind.wrap .i64 (8 * (IntKind.wrap .i64 (16 - n6)))))))
    = true → ∃ c11 : Array Value, Sem.run Tryz.prog (Instr.build Ty.api_Prefix #[]) w8 = .ok (.agg c11) w8 ∧
    StoreOk w8 ⟨w1.heap.size, 0, none⟩ (Array.toList c11) ∧ Array.size c11 = 18 ∧
    Nx (setCells w8 ⟨w1.heap.size, 0, none⟩ 0 (Array.toList c11)) fun w12 => ∃ l13 : List Value, rdCells w12 ⟨w1.heap.size, 0, none⟩ 0 18 = some l13 ∧
    Q (.tuple #[.agg l13.toArray, .bool false]) w12)
  ∧ (
    (
      ((!b10) || (decide ((bits : Int) < 0))) || (decide ((bits : Int) > (IntKind.wrap .i64 (8 * (IntKind.wrap .i64 (16 - n6)))))))
    = false → ∃ b14 : Bool, w8.cell? ⟨w.heap.size, 0, none⟩ = some (.bool b14) ∧
    ∃ c15 : Array Value, Sem.run Tryz.prog (Instr.build Ty.api_Addr #[(0, .bool b14)]) w8 = .ok (.agg c15) w8 ∧
    ∃ c16 : Array Value, Sem.run Tryz.prog (Instr.build Ty.api_Prefix #[(0, .agg c15), (1, .int .i64 bits)]) w8 = .ok (.agg c16) w8 ∧
    Nx (
      w8.alloc (
        .cells #[.bool false, .int .u8 0, .int .u8 0, .int .u8 0, .int .u8 0, .int .u8 0, .int .u8 0, .int .u8 0, .int .u8 0, .int .u8 0, .int .u8 0, .int .u8 0, .int .u8 0, .int .u8 0, .int .u8 0, .int .u8 0, .int .u8 0, .int .i64 0] Ty.api_Prefix)
      )
    fun w17 => StoreOk w17 ⟨w8.heap.size, 0, none⟩ (Array.toList c16) ∧ Array.size c16 = 18 ∧
    Nx (setCells w17 ⟨w8.heap.size, 0, none⟩ 0 (Array.toList c16)) fun w18 => ∃ (I19 : Int → World → Prop) (μ20 : Int → World → Nat), I19 0 w18 ∧
    ∀ (n21 : Int) (w22 : World), I19 n21 w22 → (
      (decide ((n21 : Int) < bits)) = true → Jn (
        fun k23 : World → Prop => (8 : Int) ≠ 0 ∧ (
          (0 : Int) ≤ (IntKind.wrap .i64 (n6 + (IntKind.wrap .i64 (Int.tdiv n21 8)))) ∧
          (IntKind.wrap .i64 (n6 + (IntKind.wrap .i64 (Int.tdiv n21 8)))) < ((16 : Nat) : Int))
        ∧ ∃ n24 : Int, w22.cell? (
          Addr.add (Addr.add ⟨w.heap.size, 0, none⟩ 1) (Int.toNat (IntKind.wrap .i64 (n6 + (IntKind.wrap .i64 (Int.tdiv n21 8)))) * 1))
        = some (.int .u8 n24) ∧ (8 : Int) ≠ 0 ∧ (0 : Int) ≤ (IntKind.wrap .u64 (IntKind.wrap .i64 (7 - (Int.tmod n21 8)))) ∧
        (2 : Int) ≠ 0 ∧ (
          (
            (
              (
                Int.tmod (
                  Int.fdiv n24 (2 ^ (min (Int.toNat (IntKind.wrap .u64 (IntKind.wrap .i64 (7 - (Int.tmod n21 8))))) 8)))
                2)
              : Int)
            == 1)
          = true → (8 : Int) ≠ 0 ∧ (8 : Int) ≠ 0 ∧ (
            (0 : Int) ≤ (IntKind.wrap .i64 (n6 + (IntKind.wrap .i64 (Int.tdiv n21 8)))) ∧
            (IntKind.wrap .i64 (n6 + (IntKind.wrap .i64 (Int.tdiv n21 8)))) < ((16 : Nat) : Int))
          ∧ ∃ n25 : Int, w22.cell? (
            Addr.add (Addr.add ⟨w8.heap.size, 0, none⟩ 1) (Int.toNat (IntKind.wrap .i64 (n6 + (IntKind.wrap .i64 (Int.tdiv n21 8)))) * 1))
          = some (.int .u8 n25) ∧ (8 : Int) ≠ 0 ∧ (0 : Int) ≤ (IntKind.wrap .u64 (IntKind.wrap .i64 (7 - (Int.tmod n21 8)))) ∧
          (
            (0 : Int) ≤ (IntKind.wrap .i64 (n6 + (IntKind.wrap .i64 (Int.tdiv n21 8)))) ∧
            (IntKind.wrap .i64 (n6 + (IntKind.wrap .i64 (Int.tdiv n21 8)))) < ((16 : Nat) : Int))
          ∧ (
            ∃ u : Value, w22.cell? (
              Addr.add (Addr.add ⟨w8.heap.size, 0, none⟩ 1) (Int.toNat (IntKind.wrap .i64 (n6 + (IntKind.wrap .i64 (Int.tdiv n21 8)))) * 1))
            = some u)
          ∧ w22.frozen? (
            Addr.add (Addr.add ⟨w8.heap.size, 0, none⟩ 1) (Int.toNat (IntKind.wrap .i64 (n6 + (IntKind.wrap .i64 (Int.tdiv n21 8)))) * 1))
          = false ∧ Nx (
            w22.setCell (
              Addr.add (Addr.add ⟨w8.heap.size, 0, none⟩ 1) (Int.toNat (IntKind.wrap .i64 (n6 + (IntKind.wrap .i64 (Int.tdiv n21 8)))) * 1))
            (
              .int .u8 (
                IntKind.wrap .u8 (
                  n25 + (
                    IntKind.wrap .u8 (1 * 2 ^ (min (Int.toNat (IntKind.wrap .u64 (IntKind.wrap .i64 (7 - (Int.tmod n21 8))))) 8)))
                  )
                )
              )
            )
          fun w26 => k23 w26)
        ∧ (
          (
            (
              (
                Int.tmod (
                  Int.fdiv n24 (2 ^ (min (Int.toNat (IntKind.wrap .u64 (IntKind.wrap .i64 (7 - (Int.tmod n21 8))))) 8)))
                2)
              : Int)
            == 1)
          = false → k23 w22)
        )
      (
        fun  (w27 : World) => I19 (IntKind.wrap .i64 (n21 + 1)) w27 ∧ μ20 (IntKind.wrap .i64 (n21 + 1)) w27 < μ20 n21 w22)
      )
    ∧ (
      (decide ((n21 : Int) < bits)) = false → ∃ l28 : List Value, rdCells w22 ⟨w8.heap.size, 0, none⟩ 0 18 = some l28 ∧
      StoreOk w22 ⟨w1.heap.size, 0, none⟩ (Array.toList l28.toArray) ∧ Array.size l28.toArray = 18 ∧
      Nx (setCells w22 ⟨w1.heap.size, 0, none⟩ 0 (Array.toList l28.toArray)) fun w29 =>
      ∃ l30 : List Value, rdCells w29 ⟨w1.heap.size, 0, none⟩ 0 18 = some l30 ∧
      Q (.tuple #[.agg l30.toArray, .bool true]) w29)
    )
def A.ref12_Mask : AT := (.seq (.reg []) (.seq (.reg []) (.seq (.seq (.reg [.run, .run, .run, .run, .pure 2, .run, .run, .run, .pure 5]) (.cond (.seq (.reg []) .leaf) .leaf)) (.seq (.reg []) (.seq (.seq (.reg []) (.blk (.loop [(8, (.int .i64))] [1, 2, 4, 6, 7] (.seq (.seq (.reg []) (.cond .leaf .leaf)) (.seq (.jk [] [1, 2, 4, 6, 7, 8] (.blk (.seq (.reg []) (.cond (.reg []) .leaf)))) (.reg [])))))) (.seq (.reg []) .leaf))))))
theorem W.ref12_Mask_eq (a : Array Value) (bits : Int) (w : World) (Q : Value → World → Prop) : W.ref12_Mask a bits w Q = DF Tryz.prog tk A.ref12_Mask Tryz.f32 [.agg a, .int .i64 bits] w Q := by kernel_rfl
theorem W.ref12_Mask_ok (a : Array Value) (bits : Int) (w : World) (Q : Value → World → Prop) (h : W.ref12_Mask a bits w Q) : Calls Tryz.prog F.ref12_Mask #[.agg a, .int .i64 bits] w fun e w1 => ∃ v, e = .returned v ∧ Q v w1 :=
  calls_of_DF hmix Tryz.func32 (by kernel_rfl) (Eq.mp (W.ref12_Mask_eq a bits w Q) h)

/-- stanchion/stanchionref12.Show -/
def W.ref12_Show (a : Array Value) (w : World) (Q : Value → World → Prop) : Prop :=
  Nx (w.alloc (.cells a Ty.api_Addr)) fun w1 => ∃ l2 : List Value, rdCells w1 ⟨w.heap.size, 0, none⟩ 0 17 = some l2 ∧
  Calls Tryz.prog F.ref12_Good #[.agg l2.toArray] w1 fun e4 w3 => ∃ b5 : Bool, e4 = .returned (.bool b5) ∧
  ((!b5) = true → Q (.string (ByteArray.mk #[])) w3) ∧ (
    (!b5) = false → ∃ (I6 : ByteArray → Int → World → Prop) (μ7 : ByteArray → Int → World → Nat), I6 (ByteArray.mk #[]) 12 w3 ∧
    ∀ (s8 : ByteArray) (n9 : Int) (w10 : World), I6 s8 n9 w10 → Jn (
      fun k11 : Bool → World → Prop => (
        (decide ((n9 : Int) < 16)) = true → ∃ b12 : Bool, w10.cell? ⟨w.heap.size, 0, none⟩ = some (.bool b12) ∧
        k11 (!b12) w10)
      ∧ ((decide ((n9 : Int) < 16)) = false → k11 false w10))
    (
      fun (b13 : Bool) (w14 : World) => (
        b13 = true → Jn (
          fun k15 : ByteArray → World → Prop => ((0 : Int) ≤ n9 ∧ n9 < ((16 : Nat) : Int)) ∧
          ∃ n16 : Int, w14.cell? (Addr.add (Addr.add ⟨w.heap.size, 0, none⟩ 1) (Int.toNat n9 * 1)) = some (.int .u8 n16) ∧
          Calls Tryz.prog F.ref12_Num #[.int .i64 (IntKind.wrap .i64 n16), .int .i64 10] w14 fun e18 w17 =>
          ∃ s19 : ByteArray, e18 = .returned (.string s19) ∧ ((ByteArray.size s8 + ByteArray.size s19 : Nat) : Int) ≤ 9223372036854775807 ∧
          (
            (decide ((n9 : Int) < 15)) = true → ((ByteArray.size (s8 ++ s19) + ByteArray.size (ByteArray.mk #[46]) : Nat) : Int) ≤ 9223372036854775807 ∧
            k15 ((s8 ++ s19) ++ (ByteArray.mk #[46])) w17)
          ∧ ((decide ((n9 : Int) < 15)) = false → k15 (s8 ++ s19) w17))
        (
          fun (s20 : ByteArray) (w21 : World) => I6 s20 (IntKind.wrap .i64 (n9 + 1)) w21 ∧
          μ7 s20 (IntKind.wrap .i64 (n9 + 1)) w21 < μ7 s8 n9 w10)
        )
      ∧ (
        b13 = false → ∃ (I22 : ByteArray → Int → World → Prop) (μ23 : ByteArray → Int → World → Nat), I22 s8 0 w14 ∧
        ∀ (s24 : ByteArray) (n25 : Int) (w26 : World), I22 s24 n25 w26 → Jn (
          fun k27 : Bool → World → Prop => (
            (decide ((n25 : Int) < 8)) = true → ∃ b28 : Bool, w26.cell? ⟨w.heap.size, 0, none⟩ = some (.bool b28) ∧
            k27 b28 w26)
          ∧ ((decide ((n25 : Int) < 8)) = false → k27 false w26))
        (
          fun (b29 : Bool) (w30 : World) => (
            b29 = true → Jn (
              fun k31 : ByteArray → World → Prop => Nx (w30.drew) fun w32 => ∃ W33 : Nat →
              Prop, ((0 : Int) ≤ (IntKind.wrap .i64 (2 * n25)) ∧ (IntKind.wrap .i64 (2 * n25)) < ((16 : Nat) : Int)) ∧
              ¬ W33 (Addr.add (Addr.add ⟨w.heap.size, 0, none⟩ 1) (Int.toNat (IntKind.wrap .i64 (2 * n25)) * 1)).block ∧
              ∃ n34 : Int, w32.cell? (Addr.add (Addr.add ⟨w.heap.size, 0, none⟩ 1) (Int.toNat (IntKind.wrap .i64 (2 * n25)) * 1)) = some (.int .u8 n34) ∧
              (
                (0 : Int) ≤ (IntKind.wrap .i64 ((IntKind.wrap .i64 (2 * n25)) + 1)) ∧ (IntKind.wrap .i64 ((IntKind.wrap .i64 (2 * n25)) + 1)) < ((16 : Nat) : Int))
              ∧ ¬ W33 (
              Addr.add (Addr.add ⟨w.heap.size, 0, none⟩ 1) (Int.toNat (IntKind.wrap .i64 ((IntKind.wrap .i64 (2 * n25)) + 1)) * 1)).block ∧
              ∃ n35 : Int, w32.cell? (
                Addr.add (Addr.add ⟨w.heap.size, 0, none⟩ 1) (Int.toNat (IntKind.wrap .i64 ((IntKind.wrap .i64 (2 * n25)) + 1)) * 1))
              = some (.int .u8 n35) ∧ Calls Tryz.prog F.ref12_Num #[.int .i64 (IntKind.wrap .i64 ((IntKind.wrap .i64 (256 * (IntKind.wrap .i64 n34))) + (IntKind.wrap .i64 n35))), .int .i64 16] w32 fun e37 w36 =>
              ∃ s38 : ByteArray, e37 = .returned (.string s38) ∧ Chg W33 w32 w36 ∧ ((ByteArray.size s24 + ByteArray.size s38 : Nat) : Int) ≤ 9223372036854775807 ∧
              (
                (decide ((n25 : Int) < 7)) = true → ((ByteArray.size (s24 ++ s38) + ByteArray.size (ByteArray.mk #[58]) : Nat) : Int) ≤ 9223372036854775807 ∧
                k31 ((s24 ++ s38) ++ (ByteArray.mk #[58])) w36)
              ∧ ((decide ((n25 : Int) < 7)) = false → k31 (s24 ++ s38) w36))
            (
              fun (s39 : ByteArray) (w40 : World) => I22 s39 (IntKind.wrap .i64 (n25 + 1)) w40 ∧
              μ23 s39 (IntKind.wrap .i64 (n25 + 1)) w40 < μ23 s24 n25 w26)
            )
          ∧ (b29 = false → Q (.string s24) w30))
        )
      )
    )
def A.ref12_Show : AT := (.seq (.reg []) (.seq (.reg []) (.seq (.seq (.reg []) (.cond (.seq (.reg []) .leaf) .leaf)) (.seq (.seq (.reg []) (.blk (.loop [(3, .str), (4, (.int .i64))] [1] (.seq (.seq (.reg [.run, .run, .run, .split 3]) (.cond .leaf .leaf)) (.seq (.jk [(3, .str)] [1, 4] (.blk (.seq (.reg []) (.seq (.reg []) (.cond (.reg []) .leaf))))) (.reg [])))))) (.seq (.seq (.reg []) (.blk (.loop [(3, .str), (5, (.int .i64))] [1] (.seq (.seq (.reg [.run, .run, .run, .split 2]) (.cond .leaf .leaf)) (.seq (.jk [(3, .str)] [1, 5] (.blk (.seq (.drw 17 true ⟨[0, 0, 2, 0, 12, 16, 32, 64, 0, 256, 512, 0, 3072, 4096, 8192, 16512, 32768, 65537, 262143], [0, 0, 2, 0, 12, 16, 32, 64, 0, 256, 512, 0, 3072, 4096, 8192, 16512, 32768, 65537, 131073]⟩ [549755813888, 1099511627776, 2199023255552, 4398046511104, 8796093022208, 17592186044416, 35184372088832, 70368744177664, 140737488355328, 281474976710656, 562949953421312, 1125899906842624, 2251799813685248, 4503599627370496, 9007199254740992, 18014398509481984, 36028797018963968, 72057594037927936, 8] [8, 32, 1099511627776, 2, 6597069766656, 8796093022208, 17592186044416, 35184372088832, 32, 140737488355328, 281474976710656, 2, 1688849860263936, 2251799813685248, 4503599627370496, 9077567998918656, 18014398509481984, 36029346774777856, 72057594037927936] (.take 0 (.take 1 (.take 2 (.take 3 (.take 4 (.take 5 (.take 6 (.take 7 (.take 8 (.take 9 (.take 10 (.take 11 (.take 12 (.take 13 (.take 14 (.take 15 (.eff 16 (.tail [.run, .run]))))))))))))))))))) (.seq (.reg []) (.cond (.reg []) .leaf))))) (.reg [])))))) (.seq (.reg []) .leaf))))))
theorem W.ref12_Show_eq (a : Array Value) (w : World) (Q : Value → World → Prop) : W.ref12_Show a w Q = DF Tryz.prog tk A.ref12_Show Tryz.f33 [.agg a] w Q := by kernel_rfl
theorem W.ref12_Show_ok (a : Array Value) (w : World) (Q : Value → World → Prop) (h : W.ref12_Show a w Q) : Calls Tryz.prog F.ref12_Show #[.agg a] w fun e w1 => ∃ v, e = .returned v ∧ Q v w1 :=
  calls_of_DF hmix Tryz.func33 (by kernel_rfl) (Eq.mp (W.ref12_Show_eq a w Q) h)

/-- stanchion/stanchionref12.From -/
def W.ref12_From (a : Array Value) (w : World) (Q : Value → World → Prop) : Prop :=
  Nx (w.alloc (.cells a Ty.api_Addr)) fun w1 => ∃ b2 : Bool, w1.cell? ⟨w.heap.size, 0, none⟩ = some (.bool b2) ∧
  (b2 = true → Q (.int .i64 0) w1) ∧ (b2 = false → Q (.int .i64 12) w1)
def A.ref12_From : AT := (.seq (.reg []) (.seq (.seq (.reg []) (.cond (.seq (.reg []) .leaf) .leaf)) (.seq (.reg []) .leaf)))
theorem W.ref12_From_eq (a : Array Value) (w : World) (Q : Value → World → Prop) : W.ref12_From a w Q = DF Tryz.prog tk A.ref12_From Tryz.f54 [.agg a] w Q := by kernel_rfl
theorem W.ref12_From_ok (a : Array Value) (w : World) (Q : Value → World → Prop) (h : W.ref12_From a w Q) : Calls Tryz.prog F.ref12_From #[.agg a] w fun e w1 => ∃ v, e = .returned v ∧ Q v w1 :=
  calls_of_DF hmix Tryz.func54 (by kernel_rfl) (Eq.mp (W.ref12_From_eq a w Q) h)

/-- stanchion/stanchionref12.Good -/
def W.ref12_Good (a : Array Value) (w : World) (Q : Value → World → Prop) : Prop :=
  Nx (w.alloc (.cells a Ty.api_Addr)) fun w1 => ∃ (I2 : Int → World → Prop) (μ3 : Int → World → Nat), I2 0 w1 ∧
  ∀ (n4 : Int) (w5 : World), I2 n4 w5 → (
    (decide ((n4 : Int) < 12)) = true → ∃ b6 : Bool, w5.cell? ⟨w.heap.size, 0, none⟩ = some (.bool b6) ∧
    Jn (
      fun k7 : Bool → World → Prop => (
        (!b6) = true → ((0 : Int) ≤ n4 ∧ n4 < ((16 : Nat) : Int)) ∧ ∃ n8 : Int, w5.cell? (Addr.add (Addr.add ⟨w.heap.size, 0, none⟩ 1) (Int.toNat n4 * 1)) = some (.int .u8 n8) ∧
        k7 ((n8 : Int) != 0) w5)
      ∧ ((!b6) = false → k7 false w5))
    (
      fun (b9 : Bool) (w10 : World) => (b9 = true → Q (.bool false) w10) ∧ (b9 = false → I2 (IntKind.wrap .i64 (n4 + 1)) w10 ∧ μ3 (IntKind.wrap .i64 (n4 + 1)) w10 < μ3 n4 w5))
    )
  ∧ ((decide ((n4 : Int) < 12)) = false → Q (.bool true) w5)
def A.ref12_Good : AT := (.seq (.reg []) (.seq (.seq (.reg []) (.blk (.loop [(3, (.int .i64))] [1] (.seq (.seq (.reg []) (.cond .leaf .leaf)) (.seq (.blk (.seq (.reg [.run, .run, .run, .run, .split 5]) (.cond (.seq (.reg []) .leaf) .leaf))) (.reg [])))))) (.seq (.reg []) .leaf)))
theorem W.ref12_Good_eq (a : Array Value) (w : World) (Q : Value → World → Prop) : W.ref12_Good a w Q = DF Tryz.prog tk A.ref12_Good Tryz.f55 [.agg a] w Q := by kernel_rfl
theorem W.ref12_Good_ok (a : Array Value) (w : World) (Q : Value → World → Prop) (h : W.ref12_Good a w Q) : Calls Tryz.prog F.ref12_Good #[.agg a] w fun e w1 => ∃ v, e = .returned v ∧ Q v w1 :=
  calls_of_DF hmix Tryz.func55 (by kernel_rfl) (Eq.mp (W.ref12_Good_eq a w Q) h)

end Go.Proofs.YtcjpgabpihkcjaaGreatDoor
