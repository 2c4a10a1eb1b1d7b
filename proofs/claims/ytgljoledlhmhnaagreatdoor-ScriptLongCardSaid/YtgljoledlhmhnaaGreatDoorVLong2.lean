/- Printed by gen.py: functions of the program, each as what must be shown of it. -/
import Derived.Test.YtgljoledlhmhnaaGreatDoorGb
import Derived.Test.YtgljoledlhmhnaaGreatDoorVLong1
namespace Go.Proofs.YtgljoledlhmhnaaGreatDoor
open Go Gx
set_option maxRecDepth 100000
/-- stanchion/script.Show -/
def W.script_Show (op : Array Value) (w : World) (Q : Value → World → Prop) : Prop :=
  Nx (w.alloc (.cells op Ty.api_Op)) fun w1 => ∃ l2 : List Value, rdCells w1 ⟨w.heap.size, 0, none⟩ 0 51 = some l2 ∧
  Calls Tryz.prog F.script_show #[.agg l2.toArray] w1 fun e4 w3 => ∃ s5 : ByteArray, e4 = .returned (.string s5) ∧
  Q (.string s5) w3
def A.script_Show : AT := (.seq (.reg []) (.seq (.reg []) .leaf))
theorem W.script_Show_eq (op : Array Value) (w : World) (Q : Value → World → Prop) : W.script_Show op w Q = DF Tryz.prog tk A.script_Show Tryz.f10 [.agg op] w Q := by kernel_rfl
theorem W.script_Show_ok (op : Array Value) (w : World) (Q : Value → World → Prop) (h : W.script_Show op w Q) : Calls Tryz.prog F.script_Show #[.agg op] w fun e w1 => ∃ v, e = .returned v ∧ Q v w1 :=
  calls_of_DF hmix Tryz.func10 (by kernel_rfl) (Eq.mp (W.script_Show_eq op w Q) h)

/-- stanchion/script.Parse -/
def W.script_Parse (s : ByteArray) (w : World) (Q : Value → World → Prop) : Prop :=
  Nx (
    w.alloc (
      .cells #[.int .i64 0, .slice none 0 0, .int .i64 0, .int .i64 0, .int .u64 0, .bool false, .int .i64 0, .bool false, .int .u8 0, .int .u8 0, .int .u8 0, .int .u8 0, .int .u8 0, .int .u8 0, .int .u8 0, .int .u8 0, .int .u8 0, .int .u8 0, .int .u8 0, .int .u8 0, .int .u8 0, .int .u8 0, .int .u8 0, .int .u8 0, .int .u16 0, .int .u8 0, .int .i64 0, .int .u64 0, .slice none 0 0, .int .i64 0, .bool false, .int .u8 0, .int .u8 0, .int .u8 0, .int .u8 0, .int .u8 0, .int .u8 0, .int .u8 0, .int .u8 0, .int .u8 0, .int .u8 0, .int .u8 0, .int .u8 0, .int .u8 0, .int .u8 0, .int .u8 0, .int .u8 0, .int .u16 0, .int .i64 0, .bool false, .slice none 0 0] Ty.api_Op)
    )
  fun w1 => Calls Tryz.prog F.script_parse #[.string s] w1 fun e3 w2 => ∃ c4 : Array Value, ∃ b5 : Bool, e3 = .returned (.tuple #[.agg c4, .bool b5]) ∧
  StoreOk w2 ⟨w.heap.size, 0, none⟩ (Array.toList c4) ∧ Array.size c4 = 51 ∧
  Nx (setCells w2 ⟨w.heap.size, 0, none⟩ 0 (Array.toList c4)) fun w6 => ∃ l7 : List Value, rdCells w6 ⟨w.heap.size, 0, none⟩ 0 51 = some l7 ∧
  Q (.tuple #[.agg l7.toArray, .bool b5]) w6
def A.script_Parse : AT := (.seq (.reg []) (.seq (.reg []) .leaf))
theorem W.script_Parse_eq (s : ByteArray) (w : World) (Q : Value → World → Prop) : W.script_Parse s w Q = DF Tryz.prog tk A.script_Parse Tryz.f12 [.string s] w Q := by kernel_rfl
theorem W.script_Parse_ok (s : ByteArray) (w : World) (Q : Value → World → Prop) (h : W.script_Parse s w Q) : Calls Tryz.prog F.script_Parse #[.string s] w fun e w1 => ∃ v, e = .returned v ∧ Q v w1 :=
  calls_of_DF hmix Tryz.func12 (by kernel_rfl) (Eq.mp (W.script_Parse_eq s w Q) h)

/-- stanchion/script.Read -/
def W.script_Read (s : ByteArray) (w : World) (Q : Value → World → Prop) : Prop :=
  Jn (
    fun k1 : Bool → World → Prop => ((decide ((((ByteArray.size s : Nat) : Int) : Int) > 1048576)) = true → k1 true w) ∧
    (
      (decide ((((ByteArray.size s : Nat) : Int) : Int) > 1048576)) = false → Calls Tryz.prog F.strings_Count #[.string s, .string (ByteArray.mk #[10])] w fun e3 w2 =>
      ∃ n4 : Int, e3 = .returned (.int .i64 n4) ∧ k1 (decide ((n4 : Int) > 1000)) w2)
    )
  (
    fun (b5 : Bool) (w6 : World) => (b5 = true → Q (.tuple #[.slice none 0 0, .int .i64 0, .int .i64 10]) w6) ∧
    (
      b5 = false → ∃ (I7 : ByteArray → Sl → Int → World → Prop) (μ8 : ByteArray → Sl → Int → World → Nat), I7 s ⟨none, 0, 0⟩ 1 w6 ∧
      ∀ (s9 : ByteArray) (s10 : Sl) (n11 : Int) (w12 : World), I7 s9 s10 n11 w12 →
      (
        (!(ByteArray.toList s9 == ByteArray.toList (ByteArray.mk #[]))) = true → Calls Tryz.prog F.strings_Cut #[.string s9, .string (ByteArray.mk #[10])] w12 fun e14 w13 =>
        ∃ s15 : ByteArray, ∃ s16 : ByteArray, ∃ b17 : Bool, e14 = .returned (.tuple #[.string s15, .string s16, .bool b17]) ∧
        Calls Tryz.prog F.script_parse #[.string s15] w13 fun e19 w18 => ∃ c20 : Array Value, ∃ b21 : Bool, e19 = .returned (.tuple #[.agg c20, .bool b21]) ∧
        Nx (
          w18.alloc (
            .cells #[.int .i64 0, .slice none 0 0, .int .i64 0, .int .i64 0, .int .u64 0, .bool false, .int .i64 0, .bool false, .int .u8 0, .int .u8 0, .int .u8 0, .int .u8 0, .int .u8 0, .int .u8 0, .int .u8 0, .int .u8 0, .int .u8 0, .int .u8 0, .int .u8 0, .int .u8 0, .int .u8 0, .int .u8 0, .int .u8 0, .int .u8 0, .int .u16 0, .int .u8 0, .int .i64 0, .int .u64 0, .slice none 0 0, .int .i64 0, .bool false, .int .u8 0, .int .u8 0, .int .u8 0, .int .u8 0, .int .u8 0, .int .u8 0, .int .u8 0, .int .u8 0, .int .u8 0, .int .u8 0, .int .u8 0, .int .u8 0, .int .u8 0, .int .u8 0, .int .u8 0, .int .u8 0, .int .u16 0, .int .i64 0, .bool false, .slice none 0 0] Ty.api_Op)
          )
        fun w22 => StoreOk w22 ⟨w18.heap.size, 0, none⟩ (Array.toList c20) ∧ Array.size c20 = 51 ∧
        Nx (setCells w22 ⟨w18.heap.size, 0, none⟩ 0 (Array.toList c20)) fun w23 =>
        (((!b21) || (!b17)) = true → Q (.tuple #[.slice none 0 0, .int .i64 n11, .int .i64 4]) w23) ∧
        (
          ((!b21) || (!b17)) = false → ∃ l24 : List Value, rdCells w23 ⟨w18.heap.size, 0, none⟩ 0 51 = some l24 ∧
          ∃ s25 : Sl, ∃ w26 : World, Sem.run Tryz.prog (Instr.buildSlice Ty.Sl_api_Op 1 #[(0, .agg l24.toArray)]) w23 = .ok (.slice s25.a s25.len s25.cap) w26 ∧
          ∃ s27 : Sl, ∃ w28 : World, Sem.run Tryz.prog (
            Builtin.append_ #[Ty.Sl_api_Op, Ty.Sl_api_Op] Ty.Sl_api_Op #[.slice s10.a s10.len s10.cap, .slice s25.a s25.len s25.cap])
          w26 = .ok (.slice s27.a s27.len s27.cap) w28 ∧ I7 s16 s27 (IntKind.wrap .i64 (n11 + 1)) w28 ∧
          μ8 s16 s27 (IntKind.wrap .i64 (n11 + 1)) w28 < μ8 s9 s10 n11 w12)
        )
      ∧ (
        (!(ByteArray.toList s9 == ByteArray.toList (ByteArray.mk #[]))) = false →
        Q (.tuple #[.slice s10.a s10.len s10.cap, .int .i64 0, .int .i64 0]) w12)
      )
    )
def A.script_Read : AT := (.seq (.reg []) (.seq (.seq (.reg [.run, .run, .run, .run, .split 3]) (.cond (.seq (.reg []) .leaf) .leaf)) (.seq (.reg []) (.seq (.seq (.reg []) (.blk (.loop [(0, .str), (5, .slice), (6, (.int .i64))] [] (.seq (.seq (.reg []) (.cond .leaf .leaf)) (.seq (.blk (.seq (.reg []) (.seq (.reg []) (.seq (.seq (.reg [.run, .run, .run, .pure 2]) (.cond (.seq (.reg []) .leaf) .leaf)) (.seq (.reg []) (.reg [])))))) (.reg [])))))) (.seq (.reg []) .leaf)))))
theorem W.script_Read_eq (s : ByteArray) (w : World) (Q : Value → World → Prop) : W.script_Read s w Q = DF Tryz.prog tk A.script_Read Tryz.f15 [.string s] w Q := by kernel_rfl
theorem W.script_Read_ok (s : ByteArray) (w : World) (Q : Value → World → Prop) (h : W.script_Read s w Q) : Calls Tryz.prog F.script_Read #[.string s] w fun e w1 => ∃ v, e = .returned v ∧ Q v w1 :=
  calls_of_DF hmix Tryz.func15 (by kernel_rfl) (Eq.mp (W.script_Read_eq s w Q) h)

/-- stanchion/script.Print -/
def W.script_Print (l : Sl) (w : World) (Q : Value → World → Prop) : Prop :=
  (
    (decide ((((l.len : Nat) : Int) : Int) > 1000)) = true → Q (.tuple #[.string (ByteArray.mk #[]), .int .i64 10]) w)
  ∧ (
    (decide ((((l.len : Nat) : Int) : Int) > 1000)) = false → Nx (w.alloc (.cells #[.pointer none, .slice none 0 0] Ty.strings_Builder)) fun w1 =>
    ∃ (I2 : Int → World → Prop) (μ3 : Int → World → Nat), I2 0 w1 ∧ ∀ (n4 : Int) (w5 : World), I2 n4 w5 →
    (
      (decide ((n4 : Int) < ((l.len : Nat) : Int))) = true → ∃ a6 : Addr, l.a = some a6 ∧
      ((0 : Int) ≤ n4 ∧ n4 < ((l.len : Nat) : Int)) ∧ ∃ l7 : List Value, rdCells w5 (a6.add (Int.toNat n4 * 51)) 0 51 = some l7 ∧
      Nx (
        w5.alloc (
          .cells #[.int .i64 0, .slice none 0 0, .int .i64 0, .int .i64 0, .int .u64 0, .bool false, .int .i64 0, .bool false, .int .u8 0, .int .u8 0, .int .u8 0, .int .u8 0, .int .u8 0, .int .u8 0, .int .u8 0, .int .u8 0, .int .u8 0, .int .u8 0, .int .u8 0, .int .u8 0, .int .u8 0, .int .u8 0, .int .u8 0, .int .u8 0, .int .u16 0, .int .u8 0, .int .i64 0, .int .u64 0, .slice none 0 0, .int .i64 0, .bool false, .int .u8 0, .int .u8 0, .int .u8 0, .int .u8 0, .int .u8 0, .int .u8 0, .int .u8 0, .int .u8 0, .int .u8 0, .int .u8 0, .int .u8 0, .int .u8 0, .int .u8 0, .int .u8 0, .int .u8 0, .int .u8 0, .int .u16 0, .int .i64 0, .bool false, .slice none 0 0] Ty.api_Op)
        )
      fun w8 => StoreOk w8 ⟨w5.heap.size, 0, none⟩ (Array.toList l7.toArray) ∧
      Array.size l7.toArray = 51 ∧ Nx (setCells w8 ⟨w5.heap.size, 0, none⟩ 0 (Array.toList l7.toArray)) fun w9 =>
      ∃ l10 : List Value, rdCells w9 ⟨w5.heap.size, 0, none⟩ 0 51 = some l10 ∧ Calls Tryz.prog F.script_show #[.agg l10.toArray] w9 fun e12 w11 =>
      ∃ s13 : ByteArray, e12 = .returned (.string s13) ∧ (
        (ByteArray.toList s13 == ByteArray.toList (ByteArray.mk #[])) = true → Q (.tuple #[.string (ByteArray.mk #[]), .int .i64 1]) w11)
      ∧ (
        (ByteArray.toList s13 == ByteArray.toList (ByteArray.mk #[])) = false → ((ByteArray.size s13 + ByteArray.size (ByteArray.mk #[10]) : Nat) : Int) ≤ 9223372036854775807 ∧
        Calls Tryz.prog F.strings_Builder_WriteString #[.pointer (some ⟨w.heap.size, 0, none⟩), .string (s13 ++ (ByteArray.mk #[10]))] w11 fun e15 w14 =>
        ∃ n16 : Int, ∃ v17 : Value, e15 = .returned (.tuple #[.int .i64 n16, v17]) ∧
        I2 (IntKind.wrap .i64 (n4 + 1)) w14 ∧ μ3 (IntKind.wrap .i64 (n4 + 1)) w14 < μ3 n4 w5)
      )
    ∧ (
      (decide ((n4 : Int) < ((l.len : Nat) : Int))) = false → Calls Tryz.prog F.strings_Builder_String #[.pointer (some ⟨w.heap.size, 0, none⟩)] w5 fun e19 w18 =>
      ∃ s20 : ByteArray, e19 = .returned (.string s20) ∧ Q (.tuple #[.string s20, .int .i64 0]) w18)
    )
def A.script_Print : AT := (.seq (.reg []) (.seq (.seq (.reg []) (.cond (.seq (.reg []) .leaf) .leaf)) (.seq (.reg []) (.seq (.seq (.reg []) (.blk (.loop [(13, (.int .i64))] [4, 11, 12] (.seq (.reg []) (.seq (.cond .leaf .leaf) (.seq (.blk (.seq (.reg []) (.seq (.reg []) (.seq (.seq (.reg []) (.cond (.seq (.reg []) .leaf) .leaf)) (.reg []))))) (.reg []))))))) (.seq (.reg []) .leaf)))))
theorem W.script_Print_eq (l : Sl) (w : World) (Q : Value → World → Prop) : W.script_Print l w Q = DF Tryz.prog tk A.script_Print Tryz.f16 [.slice l.a l.len l.cap] w Q := by kernel_rfl
theorem W.script_Print_ok (l : Sl) (w : World) (Q : Value → World → Prop) (h : W.script_Print l w Q) : Calls Tryz.prog F.script_Print #[.slice l.a l.len l.cap] w fun e w1 => ∃ v, e = .returned v ∧ Q v w1 :=
  calls_of_DF hmix Tryz.func16 (by kernel_rfl) (Eq.mp (W.script_Print_eq l w Q) h)

/-- stanchion/script.show -/
def W.script_show (op : Array Value) (w : World) (Q : Value → World → Prop) : Prop :=
  Nx (w.alloc (.cells op Ty.api_Op)) fun w1 => ∃ n2 : Int, w1.cell? ⟨w.heap.size, 0, none⟩ = some (.int .i64 n2) ∧
  Jn (
    fun k3 : Bool → World → Prop => ((decide ((n2 : Int) < 1)) = true → k3 true w1) ∧
    (
      (decide ((n2 : Int) < 1)) = false → ∃ n4 : Int, w1.cell? ⟨w.heap.size, 0, none⟩ = some (.int .i64 n4) ∧
      k3 (decide ((n4 : Int) > 14)) w1)
    )
  (
    fun (b5 : Bool) (w6 : World) => Jn (
      fun k7 : Bool → World → Prop => (b5 = true → k7 true w6) ∧ (
        b5 = false → ∃ s8 : Sl, w6.cell? (Addr.add ⟨w.heap.size, 0, none⟩ 1) = some (.slice s8.a s8.len s8.cap) ∧
        k7 (decide ((((s8.len : Nat) : Int) : Int) > 4200)) w6)
      )
    (
      fun (b9 : Bool) (w10 : World) => Jn (
        fun k11 : Bool → World → Prop => (b9 = true → k11 true w10) ∧ (
          b9 = false → ∃ s12 : Sl, w10.cell? (Addr.add ⟨w.heap.size, 0, none⟩ 50) = some (.slice s12.a s12.len s12.cap) ∧
          k11 (decide ((((s12.len : Nat) : Int) : Int) > 4200)) w10)
        )
      (
        fun (b13 : Bool) (w14 : World) => (b13 = true → Q (.string (ByteArray.mk #[])) w14) ∧
        (
          b13 = false → ∃ l15 : List Value, rdCells w14 ⟨w.heap.size, 0, none⟩ 0 51 = some l15 ∧
          Calls Tryz.prog F.script_written #[.agg l15.toArray] w14 fun e17 w16 => ∃ s18 : Sl, e17 = .returned (.slice s18.a s18.len s18.cap) ∧
          Calls Tryz.prog F.strings_Join #[.slice s18.a s18.len s18.cap, .string (ByteArray.mk #[32])] w16 fun e20 w19 =>
          ∃ s21 : ByteArray, e20 = .returned (.string s21) ∧ Calls Tryz.prog F.script_parsed #[.string s21] w19 fun e23 w22 =>
          ∃ c24 : Array Value, ∃ b25 : Bool, e23 = .returned (.tuple #[.agg c24, .bool b25]) ∧
          Nx (
            w22.alloc (
              .cells #[.int .i64 0, .slice none 0 0, .int .i64 0, .int .i64 0, .int .u64 0, .bool false, .int .i64 0, .bool false, .int .u8 0, .int .u8 0, .int .u8 0, .int .u8 0, .int .u8 0, .int .u8 0, .int .u8 0, .int .u8 0, .int .u8 0, .int .u8 0, .int .u8 0, .int .u8 0, .int .u8 0, .int .u8 0, .int .u8 0, .int .u8 0, .int .u16 0, .int .u8 0, .int .i64 0, .int .u64 0, .slice none 0 0, .int .i64 0, .bool false, .int .u8 0, .int .u8 0, .int .u8 0, .int .u8 0, .int .u8 0, .int .u8 0, .int .u8 0, .int .u8 0, .int .u8 0, .int .u8 0, .int .u8 0, .int .u8 0, .int .u8 0, .int .u8 0, .int .u8 0, .int .u8 0, .int .u16 0, .int .i64 0, .bool false, .slice none 0 0] Ty.api_Op)
            )
          fun w26 => StoreOk w26 ⟨w22.heap.size, 0, none⟩ (Array.toList c24) ∧ Array.size c24 = 51 ∧
          Nx (setCells w26 ⟨w22.heap.size, 0, none⟩ 0 (Array.toList c24)) fun w27 =>
          Jn (
            fun k28 : Bool → World → Prop => ((!b25) = true → k28 true w27) ∧ (
              (!b25) = false → ∃ l29 : List Value, rdCells w27 ⟨w22.heap.size, 0, none⟩ 0 51 = some l29 ∧
              ∃ l30 : List Value, rdCells w27 ⟨w.heap.size, 0, none⟩ 0 51 = some l30 ∧ Calls Tryz.prog F.script_same #[.agg l29.toArray, .agg l30.toArray] w27 fun e32 w31 =>
              ∃ b33 : Bool, e32 = .returned (.bool b33) ∧ k28 (!b33) w31)
            )
          (
            fun (b34 : Bool) (w35 : World) => (
              (b34 || (decide ((((ByteArray.size s21 : Nat) : Int) : Int) > 4200))) = true →
              Q (.string (ByteArray.mk #[])) w35)
            ∧ ((b34 || (decide ((((ByteArray.size s21 : Nat) : Int) : Int) > 4200))) = false → Q (.string s21) w35))
          )
        )
      )
    )
def A.script_show : AT := (.seq (.reg []) (.seq (.seq (.reg [.run, .run, .run, .run, .split 3, .run, .run, .run, .run, .split 4, .run, .run, .run, .run, .run, .split 4]) (.cond (.seq (.reg []) .leaf) .leaf)) (.seq (.reg []) (.seq (.seq (.reg []) (.seq (.reg [.run, .run, .run, .split 4, .run, .run, .run, .run, .run, .pure 3]) (.cond (.seq (.reg []) .leaf) .leaf))) (.seq (.reg []) .leaf)))))
theorem W.script_show_eq (op : Array Value) (w : World) (Q : Value → World → Prop) : W.script_show op w Q = DF Tryz.prog tk A.script_show Tryz.f29 [.agg op] w Q := by kernel_rfl
theorem W.script_show_ok (op : Array Value) (w : World) (Q : Value → World → Prop) (h : W.script_show op w Q) : Calls Tryz.prog F.script_show #[.agg op] w fun e w1 => ∃ v, e = .returned v ∧ Q v w1 :=
  calls_of_DF hmix Tryz.func29 (by kernel_rfl) (Eq.mp (W.script_show_eq op w Q) h)

/-- stanchion/script.parse -/
def W.script_parse (s : ByteArray) (w : World) (Q : Value → World → Prop) : Prop :=
  Nx (
    w.alloc (
      .cells #[.int .i64 0, .slice none 0 0, .int .i64 0, .int .i64 0, .int .u64 0, .bool false, .int .i64 0, .bool false, .int .u8 0, .int .u8 0, .int .u8 0, .int .u8 0, .int .u8 0, .int .u8 0, .int .u8 0, .int .u8 0, .int .u8 0, .int .u8 0, .int .u8 0, .int .u8 0, .int .u8 0, .int .u8 0, .int .u8 0, .int .u8 0, .int .u16 0, .int .u8 0, .int .i64 0, .int .u64 0, .slice none 0 0, .int .i64 0, .bool false, .int .u8 0, .int .u8 0, .int .u8 0, .int .u8 0, .int .u8 0, .int .u8 0, .int .u8 0, .int .u8 0, .int .u8 0, .int .u8 0, .int .u8 0, .int .u8 0, .int .u8 0, .int .u8 0, .int .u8 0, .int .u8 0, .int .u16 0, .int .i64 0, .bool false, .slice none 0 0] Ty.api_Op)
    )
  fun w1 => Calls Tryz.prog F.script_parsed #[.string s] w1 fun e3 w2 => ∃ c4 : Array Value, ∃ b5 : Bool, e3 = .returned (.tuple #[.agg c4, .bool b5]) ∧
  Nx (
    w2.alloc (
      .cells #[.int .i64 0, .slice none 0 0, .int .i64 0, .int .i64 0, .int .u64 0, .bool false, .int .i64 0, .bool false, .int .u8 0, .int .u8 0, .int .u8 0, .int .u8 0, .int .u8 0, .int .u8 0, .int .u8 0, .int .u8 0, .int .u8 0, .int .u8 0, .int .u8 0, .int .u8 0, .int .u8 0, .int .u8 0, .int .u8 0, .int .u8 0, .int .u16 0, .int .u8 0, .int .i64 0, .int .u64 0, .slice none 0 0, .int .i64 0, .bool false, .int .u8 0, .int .u8 0, .int .u8 0, .int .u8 0, .int .u8 0, .int .u8 0, .int .u8 0, .int .u8 0, .int .u8 0, .int .u8 0, .int .u8 0, .int .u8 0, .int .u8 0, .int .u8 0, .int .u8 0, .int .u8 0, .int .u16 0, .int .i64 0, .bool false, .slice none 0 0] Ty.api_Op)
    )
  fun w6 => StoreOk w6 ⟨w2.heap.size, 0, none⟩ (Array.toList c4) ∧ Array.size c4 = 51 ∧
  Nx (setCells w6 ⟨w2.heap.size, 0, none⟩ 0 (Array.toList c4)) fun w7 => Jn (
    fun k8 : Bool → World → Prop => (((!b5) || (decide ((((ByteArray.size s : Nat) : Int) : Int) > 4200))) = true → k8 true w7) ∧
    (
      ((!b5) || (decide ((((ByteArray.size s : Nat) : Int) : Int) > 4200))) = false →
      ∃ l9 : List Value, rdCells w7 ⟨w2.heap.size, 0, none⟩ 0 51 = some l9 ∧ Calls Tryz.prog F.script_show #[.agg l9.toArray] w7 fun e11 w10 =>
      ∃ s12 : ByteArray, e11 = .returned (.string s12) ∧ k8 (!(ByteArray.toList s12 == ByteArray.toList s)) w10)
    )
  (
    fun (b13 : Bool) (w14 : World) => (
      b13 = true → ∃ c15 : Array Value, Sem.run Tryz.prog (Instr.build Ty.api_Op #[]) w14 = .ok (.agg c15) w14 ∧
      StoreOk w14 ⟨w.heap.size, 0, none⟩ (Array.toList c15) ∧ Array.size c15 = 51 ∧
      Nx (setCells w14 ⟨w.heap.size, 0, none⟩ 0 (Array.toList c15)) fun w16 => ∃ l17 : List Value, rdCells w16 ⟨w.heap.size, 0, none⟩ 0 51 = some l17 ∧
      Q (.tuple #[.agg l17.toArray, .bool false]) w16)
    ∧ (
      b13 = false → ∃ l18 : List Value, rdCells w14 ⟨w2.heap.size, 0, none⟩ 0 51 = some l18 ∧
      StoreOk w14 ⟨w.heap.size, 0, none⟩ (Array.toList l18.toArray) ∧ Array.size l18.toArray = 51 ∧
      Nx (setCells w14 ⟨w.heap.size, 0, none⟩ 0 (Array.toList l18.toArray)) fun w19 =>
      ∃ l20 : List Value, rdCells w19 ⟨w.heap.size, 0, none⟩ 0 51 = some l20 ∧ Q (.tuple #[.agg l20.toArray, .bool true]) w19)
    )
def A.script_parse : AT := (.seq (.reg []) (.seq (.reg []) (.seq (.seq (.reg [.run, .run, .run, .pure 3, .run, .run, .run, .run, .split 4]) (.cond (.seq (.reg []) .leaf) .leaf)) (.seq (.reg []) .leaf))))
theorem W.script_parse_eq (s : ByteArray) (w : World) (Q : Value → World → Prop) : W.script_parse s w Q = DF Tryz.prog tk A.script_parse Tryz.f37 [.string s] w Q := by kernel_rfl
theorem W.script_parse_ok (s : ByteArray) (w : World) (Q : Value → World → Prop) (h : W.script_parse s w Q) : Calls Tryz.prog F.script_parse #[.string s] w fun e w1 => ∃ v, e = .returned v ∧ Q v w1 :=
  calls_of_DF hmix Tryz.func37 (by kernel_rfl) (Eq.mp (W.script_parse_eq s w Q) h)

/-- stanchion/script.written -/
def W.script_written (op : Array Value) (w : World) (Q : Value → World → Prop) : Prop :=
  Nx (w.alloc (.cells op Ty.api_Op)) fun w1 => Nx (w1.alloc (.cells #[.slice none 0 0] Ty.script_line)) fun w2 =>
  Nx (w2.drew) fun w3 => ∃ W4 : Nat → Prop, ¬ W4 (⟨w.heap.size, 0, none⟩ : Addr).block ∧
  ∃ n5 : Int, w3.cell? ⟨w.heap.size, 0, none⟩ = some (.int .i64 n5) ∧ Calls Tryz.prog F.script_names #[] w3 fun e7 w6 =>
  ∃ s8 : Sl, e7 = .returned (.slice s8.a s8.len s8.cap) ∧ Chg W4 w3 w6 ∧ ∃ a9 : Addr, s8.a = some a9 ∧
  ((0 : Int) ≤ (IntKind.wrap .i64 (n5 - 1)) ∧ (IntKind.wrap .i64 (n5 - 1)) < ((s8.len : Nat) : Int)) ∧
  ¬ W4 (a9.add (Int.toNat (IntKind.wrap .i64 (n5 - 1)) * 1)).block ∧ ∃ s10 : ByteArray, w6.cell? (a9.add (Int.toNat (IntKind.wrap .i64 (n5 - 1)) * 1)) = some (.string s10) ∧
  Nx (w6.alloc (.cells #[.string s10] Ty.string)) fun w11 => Chg W4 w6 w11 ∧
  Calls Tryz.prog F.script_line_text #[.pointer (some ⟨w1.heap.size, 0, none⟩), .slice (some ⟨w6.heap.size, 0, none⟩) 1 1] w11 fun e13 w12 =>
  e13 = .returned (.tuple #[]) ∧ Jn (
    fun k14 : World → Prop => ∃ n15 : Int, w12.cell? ⟨w.heap.size, 0, none⟩ = some (.int .i64 n15) ∧
    (
      ((n15 : Int) == 1) = true → ∃ s16 : Sl, w12.cell? (Addr.add ⟨w.heap.size, 0, none⟩ 1) = some (.slice s16.a s16.len s16.cap) ∧
      Calls Tryz.prog F.script_hex #[.slice s16.a s16.len s16.cap] w12 fun e18 w17 =>
      ∃ s19 : ByteArray, e18 = .returned (.string s19) ∧ Nx (w17.alloc (.cells #[.string s19] Ty.string)) fun w20 =>
      Calls Tryz.prog F.script_line_text #[.pointer (some ⟨w1.heap.size, 0, none⟩), .slice (some ⟨w17.heap.size, 0, none⟩) 1 1] w20 fun e22 w21 =>
      e22 = .returned (.tuple #[]) ∧ k14 w21)
    ∧ (
      ((n15 : Int) == 1) = false → (
        ((n15 : Int) == 2) = true → ∃ n23 : Int, w12.cell? (Addr.add ⟨w.heap.size, 0, none⟩ 4) = some (.int .u64 n23) ∧
        Calls Tryz.prog F.script_line_long #[.pointer (some ⟨w1.heap.size, 0, none⟩), .int .u64 n23] w12 fun e25 w24 =>
        e25 = .returned (.tuple #[]) ∧ k14 w24)
      ∧ (
        ((n15 : Int) == 2) = false → (
          ((n15 : Int) == 3) = true → ∃ l26 : List Value, rdCells w12 (Addr.add ⟨w.heap.size, 0, none⟩ 6) 0 23 = some l26 ∧
          Nx (
            w12.alloc (
              .cells #[.int .i64 0, .bool false, .int .u8 0, .int .u8 0, .int .u8 0, .int .u8 0, .int .u8 0, .int .u8 0, .int .u8 0, .int .u8 0, .int .u8 0, .int .u8 0, .int .u8 0, .int .u8 0, .int .u8 0, .int .u8 0, .int .u8 0, .int .u8 0, .int .u16 0, .int .u8 0, .int .i64 0, .int .u64 0, .slice none 0 0] Ty.api_Service)
            )
          fun w27 => StoreOk w27 ⟨w12.heap.size, 0, none⟩ (Array.toList l26.toArray) ∧
          Array.size l26.toArray = 23 ∧ Nx (setCells w27 ⟨w12.heap.size, 0, none⟩ 0 (Array.toList l26.toArray)) fun w28 =>
          ∃ n29 : Int, w28.cell? ⟨w12.heap.size, 0, none⟩ = some (.int .i64 n29) ∧ Nx (w28.alloc (.cells #[.int .i64 n29] Ty.int)) fun w30 =>
          Calls Tryz.prog F.script_line_ints #[.pointer (some ⟨w1.heap.size, 0, none⟩), .slice (some ⟨w28.heap.size, 0, none⟩) 1 1] w30 fun e32 w31 =>
          e32 = .returned (.tuple #[]) ∧ ∃ l33 : List Value, rdCells w31 (Addr.add ⟨w12.heap.size, 0, none⟩ 1) 0 17 = some l33 ∧
          Calls Tryz.prog F.addr_Show #[.agg l33.toArray] w31 fun e35 w34 => ∃ s36 : ByteArray, e35 = .returned (.string s36) ∧
          Nx (w34.alloc (.cells #[.string s36] Ty.string)) fun w37 => Calls Tryz.prog F.script_line_text #[.pointer (some ⟨w1.heap.size, 0, none⟩), .slice (some ⟨w34.heap.size, 0, none⟩) 1 1] w37 fun e39 w38 =>
          e39 = .returned (.tuple #[]) ∧ ∃ n40 : Int, w38.cell? (Addr.add ⟨w12.heap.size, 0, none⟩ 18) = some (.int .u16 n40) ∧
          ∃ n41 : Int, w38.cell? (Addr.add ⟨w12.heap.size, 0, none⟩ 19) = some (.int .u8 n41) ∧
          ∃ n42 : Int, w38.cell? (Addr.add ⟨w12.heap.size, 0, none⟩ 20) = some (.int .i64 n42) ∧
          Nx (
            w38.alloc (
              .cells #[.int .i64 (IntKind.wrap .i64 n40), .int .i64 (IntKind.wrap .i64 n41), .int .i64 n42] Ty.int)
            )
          fun w43 => Calls Tryz.prog F.script_line_ints #[.pointer (some ⟨w1.heap.size, 0, none⟩), .slice (some ⟨w38.heap.size, 0, none⟩) 3 3] w43 fun e45 w44 =>
          e45 = .returned (.tuple #[]) ∧ ∃ n46 : Int, w44.cell? (Addr.add ⟨w12.heap.size, 0, none⟩ 21) = some (.int .u64 n46) ∧
          Calls Tryz.prog F.script_line_long #[.pointer (some ⟨w1.heap.size, 0, none⟩), .int .u64 n46] w44 fun e48 w47 =>
          e48 = .returned (.tuple #[]) ∧ k14 w47)
        ∧ (
          ((n15 : Int) == 3) = false → (
            ((n15 : Int) == 4) = true → ∃ n49 : Int, w12.cell? (Addr.add ⟨w.heap.size, 0, none⟩ 2) = some (.int .i64 n49) ∧
            Nx (w12.alloc (.cells #[.int .i64 n49] Ty.int)) fun w50 => Calls Tryz.prog F.script_line_ints #[.pointer (some ⟨w1.heap.size, 0, none⟩), .slice (some ⟨w12.heap.size, 0, none⟩) 1 1] w50 fun e52 w51 =>
            e52 = .returned (.tuple #[]) ∧ k14 w51)
          ∧ (
            ((n15 : Int) == 4) = false → (
              ((n15 : Int) == 5) = true → ∃ n53 : Int, w12.cell? (Addr.add ⟨w.heap.size, 0, none⟩ 2) = some (.int .i64 n53) ∧
              ∃ n54 : Int, w12.cell? (Addr.add ⟨w.heap.size, 0, none⟩ 29) = some (.int .i64 n54) ∧
              Nx (w12.alloc (.cells #[.int .i64 n53, .int .i64 n54] Ty.int)) fun w55 => Calls Tryz.prog F.script_line_ints #[.pointer (some ⟨w1.heap.size, 0, none⟩), .slice (some ⟨w12.heap.size, 0, none⟩) 2 2] w55 fun e57 w56 =>
              e57 = .returned (.tuple #[]) ∧ ∃ l58 : List Value, rdCells w56 ((Addr.add ⟨w.heap.size, 0, none⟩ 29).add 1) 0 17 = some l58 ∧
              Calls Tryz.prog F.addr_Show #[.agg l58.toArray] w56 fun e60 w59 => ∃ s61 : ByteArray, e60 = .returned (.string s61) ∧
              Nx (w59.alloc (.cells #[.string s61] Ty.string)) fun w62 => Calls Tryz.prog F.script_line_text #[.pointer (some ⟨w1.heap.size, 0, none⟩), .slice (some ⟨w59.heap.size, 0, none⟩) 1 1] w62 fun e64 w63 =>
              e64 = .returned (.tuple #[]) ∧ ∃ n65 : Int, w63.cell? ((Addr.add ⟨w.heap.size, 0, none⟩ 29).add 18) = some (.int .u16 n65) ∧
              ∃ n66 : Int, w63.cell? ((Addr.add ⟨w.heap.size, 0, none⟩ 29).add 19) = some (.int .i64 n66) ∧
              Nx (w63.alloc (.cells #[.int .i64 (IntKind.wrap .i64 n65), .int .i64 n66] Ty.int)) fun w67 =>
              Calls Tryz.prog F.script_line_ints #[.pointer (some ⟨w1.heap.size, 0, none⟩), .slice (some ⟨w63.heap.size, 0, none⟩) 2 2] w67 fun e69 w68 =>
              e69 = .returned (.tuple #[]) ∧ k14 w68)
            ∧ (
              ((n15 : Int) == 5) = false → Jn (
                fun k70 : Bool → World → Prop => (((n15 : Int) == 6) = true → k70 ((n15 : Int) == 6) w12) ∧
                (((n15 : Int) == 6) = false → k70 ((n15 : Int) == 12) w12))
              (
                fun (b71 : Bool) (w72 : World) => (
                  b71 = true → ∃ n73 : Int, w72.cell? (Addr.add ⟨w.heap.size, 0, none⟩ 2) = some (.int .i64 n73) ∧
                  ∃ n74 : Int, w72.cell? (Addr.add ⟨w.heap.size, 0, none⟩ 3) = some (.int .i64 n74) ∧
                  Nx (w72.alloc (.cells #[.int .i64 n73, .int .i64 n74] Ty.int)) fun w75 => Calls Tryz.prog F.script_line_ints #[.pointer (some ⟨w1.heap.size, 0, none⟩), .slice (some ⟨w72.heap.size, 0, none⟩) 2 2] w75 fun e77 w76 =>
                  e77 = .returned (.tuple #[]) ∧ k14 w76)
                ∧ (
                  b71 = false → Jn (
                    fun k78 : Bool → World → Prop => (((n15 : Int) == 7) = true → k78 ((n15 : Int) == 7) w72) ∧
                    (((n15 : Int) == 7) = false → k78 ((n15 : Int) == 9) w72))
                  (
                    fun (b79 : Bool) (w80 : World) => (
                      b79 = true → ∃ n81 : Int, w80.cell? (Addr.add ⟨w.heap.size, 0, none⟩ 2) = some (.int .i64 n81) ∧
                      ∃ n82 : Int, w80.cell? (Addr.add ⟨w.heap.size, 0, none⟩ 3) = some (.int .i64 n82) ∧
                      Nx (w80.alloc (.cells #[.int .i64 n81, .int .i64 n82] Ty.int)) fun w83 => Calls Tryz.prog F.script_line_ints #[.pointer (some ⟨w1.heap.size, 0, none⟩), .slice (some ⟨w80.heap.size, 0, none⟩) 2 2] w83 fun e85 w84 =>
                      e85 = .returned (.tuple #[]) ∧ ∃ b86 : Bool, w84.cell? (Addr.add ⟨w.heap.size, 0, none⟩ 5) = some (.bool b86) ∧
                      Calls Tryz.prog F.script_on #[.bool b86] w84 fun e88 w87 => ∃ s89 : ByteArray, e88 = .returned (.string s89) ∧
                      Nx (w87.alloc (.cells #[.string s89] Ty.string)) fun w90 => Calls Tryz.prog F.script_line_text #[.pointer (some ⟨w1.heap.size, 0, none⟩), .slice (some ⟨w87.heap.size, 0, none⟩) 1 1] w90 fun e92 w91 =>
                      e92 = .returned (.tuple #[]) ∧ k14 w91)
                    ∧ (
                      b79 = false → Jn (
                        fun k93 : Bool → World → Prop => (((n15 : Int) == 8) = true → k93 ((n15 : Int) == 8) w80) ∧
                        (((n15 : Int) == 8) = false → k93 ((n15 : Int) == 13) w80))
                      (
                        fun (b94 : Bool) (w95 : World) => (
                          b94 = true → ∃ n96 : Int, w95.cell? (Addr.add ⟨w.heap.size, 0, none⟩ 2) = some (.int .i64 n96) ∧
                          ∃ n97 : Int, w95.cell? (Addr.add ⟨w.heap.size, 0, none⟩ 3) = some (.int .i64 n97) ∧
                          Nx (w95.alloc (.cells #[.int .i64 n96, .int .i64 n97] Ty.int)) fun w98 => Calls Tryz.prog F.script_line_ints #[.pointer (some ⟨w1.heap.size, 0, none⟩), .slice (some ⟨w95.heap.size, 0, none⟩) 2 2] w98 fun e100 w99 =>
                          e100 = .returned (.tuple #[]) ∧ ∃ n101 : Int, w99.cell? (Addr.add ⟨w.heap.size, 0, none⟩ 4) = some (.int .u64 n101) ∧
                          Calls Tryz.prog F.script_line_long #[.pointer (some ⟨w1.heap.size, 0, none⟩), .int .u64 n101] w99 fun e103 w102 =>
                          e103 = .returned (.tuple #[]) ∧ k14 w102)
                        ∧ (
                          b94 = false → (
                            ((n15 : Int) == 11) = true → ∃ s104 : Sl, w95.cell? (Addr.add ⟨w.heap.size, 0, none⟩ 50) = some (.slice s104.a s104.len s104.cap) ∧
                            Calls Tryz.prog F.script_line_ints #[.pointer (some ⟨w1.heap.size, 0, none⟩), .slice s104.a s104.len s104.cap] w95 fun e106 w105 =>
                            e106 = .returned (.tuple #[]) ∧ k14 w105)
                          ∧ (((n15 : Int) == 11) = false → k14 w95))
                        )
                      )
                    )
                  )
                )
              )
            )
          )
        )
      )
    )
  (
    fun  (w107 : World) => ∃ a108 : Addr, (some ⟨w1.heap.size, 0, none⟩ : Option Addr) = some a108 ∧
    ∃ s109 : Sl, w107.cell? a108 = some (.slice s109.a s109.len s109.cap) ∧ Q (.slice s109.a s109.len s109.cap) w107)
def A.script_written : AT := (.seq (.reg []) (.seq (.reg []) (.seq (.drw 8 true ⟨[0, 0, 0, 4, 8, 18, 32, 64, 131], [0, 0, 0, 4, 8, 18, 32, 64, 129]⟩ [128, 256, 512, 1024, 2048, 4096, 8192, 16384, 32768] [8, 0, 2, 512, 1024, 2304, 4096, 8192, 16512] (.take 0 (.take 2 (.take 3 (.take 4 (.eff 1 (.take 5 (.take 6 (.eff 7 (.tail [.run])))))))))) (.seq (.jk [] [3] (.seq (.reg []) (.blk (.seq (.reg []) (.cond (.reg []) (.seq (.reg []) (.cond (.reg []) (.seq (.reg []) (.cond (.seq (.reg []) (.seq (.reg []) (.seq (.reg []) (.seq (.reg []) (.reg []))))) (.seq (.reg []) (.cond (.reg []) (.seq (.reg []) (.cond (.seq (.reg []) (.seq (.reg []) (.reg []))) (.seq (.jk [(96, .bool)] [1, 3, 17] (.seq (.reg []) (.cond .leaf (.reg [])))) (.cond (.reg []) (.seq (.jk [(106, .bool)] [1, 3, 17] (.seq (.reg []) (.cond .leaf (.reg [])))) (.cond (.seq (.reg []) (.reg [])) (.seq (.jk [(122, .bool)] [1, 3, 17] (.seq (.reg []) (.cond .leaf (.reg [])))) (.cond (.seq (.reg []) (.reg [])) (.seq (.reg []) (.cond (.reg []) .leaf))))))))))))))))))))) (.seq (.reg []) .leaf)))))
theorem W.script_written_eq (op : Array Value) (w : World) (Q : Value → World → Prop) : W.script_written op w Q = DF Tryz.prog tk A.script_written Tryz.f57 [.agg op] w Q := by kernel_rfl
theorem W.script_written_ok (op : Array Value) (w : World) (Q : Value → World → Prop) (h : W.script_written op w Q) : Calls Tryz.prog F.script_written #[.agg op] w fun e w1 => ∃ v, e = .returned v ∧ Q v w1 :=
  calls_of_DF hmix Tryz.func57 (by kernel_rfl) (Eq.mp (W.script_written_eq op w Q) h)

/-- stanchion/script.parsed -/
def W.script_parsed (s : ByteArray) (w : World) (Q : Value → World → Prop) : Prop :=
  Nx (
    w.alloc (
      .cells #[.int .i64 0, .slice none 0 0, .int .i64 0, .int .i64 0, .int .u64 0, .bool false, .int .i64 0, .bool false, .int .u8 0, .int .u8 0, .int .u8 0, .int .u8 0, .int .u8 0, .int .u8 0, .int .u8 0, .int .u8 0, .int .u8 0, .int .u8 0, .int .u8 0, .int .u8 0, .int .u8 0, .int .u8 0, .int .u8 0, .int .u8 0, .int .u16 0, .int .u8 0, .int .i64 0, .int .u64 0, .slice none 0 0, .int .i64 0, .bool false, .int .u8 0, .int .u8 0, .int .u8 0, .int .u8 0, .int .u8 0, .int .u8 0, .int .u8 0, .int .u8 0, .int .u8 0, .int .u8 0, .int .u8 0, .int .u8 0, .int .u8 0, .int .u8 0, .int .u8 0, .int .u8 0, .int .u16 0, .int .i64 0, .bool false, .slice none 0 0] Ty.api_Op)
    )
  fun w1 => Calls Tryz.prog F.strings_Split #[.string s, .string (ByteArray.mk #[32])] w1 fun e3 w2 =>
  ∃ s4 : Sl, e3 = .returned (.slice s4.a s4.len s4.cap) ∧ Calls Tryz.prog F.script_names #[] w2 fun e6 w5 =>
  ∃ s7 : Sl, e6 = .returned (.slice s7.a s7.len s7.cap) ∧ ∃ (I8 : Int → World → Prop) (μ9 : Int → World → Nat), I8 0 w5 ∧
  ∀ (n10 : Int) (w11 : World), I8 n10 w11 → (
    (decide ((n10 : Int) < ((s7.len : Nat) : Int))) = true → ∃ a12 : Addr, s7.a = some a12 ∧
    ((0 : Int) ≤ n10 ∧ n10 < ((s7.len : Nat) : Int)) ∧ ∃ s13 : ByteArray, w11.cell? (a12.add (Int.toNat n10 * 1)) = some (.string s13) ∧
    ∃ a14 : Addr, s4.a = some a14 ∧ ((0 : Int) ≤ 0 ∧ 0 < ((s4.len : Nat) : Int)) ∧
    ∃ s15 : ByteArray, w11.cell? (a14.add (Int.toNat 0 * 1)) = some (.string s15) ∧
    (
      (ByteArray.toList s15 == ByteArray.toList s13) = true → ((0 : Int) ≤ 1 ∧ 1 ≤ ((s4.len : Nat) : Int)) ∧
      Nx (
        w11.alloc (
          .cells #[.slice (cutA s4.a 1 (Int.toNat 1) s4.cap) (s4.len - (Int.toNat 1)) (s4.cap - (Int.toNat 1)), .bool true] Ty.script_reader)
        )
      fun w16 => Calls Tryz.prog F.script_reader_step #[.pointer (some ⟨w11.heap.size, 0, none⟩), .int .i64 (IntKind.wrap .i64 (n10 + 1))] w16 fun e18 w17 =>
      ∃ c19 : Array Value, e18 = .returned (.agg c19) ∧ Nx (
        w17.alloc (
          .cells #[.int .i64 0, .slice none 0 0, .int .i64 0, .int .i64 0, .int .u64 0, .bool false, .int .i64 0, .bool false, .int .u8 0, .int .u8 0, .int .u8 0, .int .u8 0, .int .u8 0, .int .u8 0, .int .u8 0, .int .u8 0, .int .u8 0, .int .u8 0, .int .u8 0, .int .u8 0, .int .u8 0, .int .u8 0, .int .u8 0, .int .u8 0, .int .u16 0, .int .u8 0, .int .i64 0, .int .u64 0, .slice none 0 0, .int .i64 0, .bool false, .int .u8 0, .int .u8 0, .int .u8 0, .int .u8 0, .int .u8 0, .int .u8 0, .int .u8 0, .int .u8 0, .int .u8 0, .int .u8 0, .int .u8 0, .int .u8 0, .int .u8 0, .int .u8 0, .int .u8 0, .int .u8 0, .int .u16 0, .int .i64 0, .bool false, .slice none 0 0] Ty.api_Op)
        )
      fun w20 => StoreOk w20 ⟨w17.heap.size, 0, none⟩ (Array.toList c19) ∧ Array.size c19 = 51 ∧
      Nx (setCells w20 ⟨w17.heap.size, 0, none⟩ 0 (Array.toList c19)) fun w21 =>
      Nx (w21.drew) fun w22 => ∃ W23 : Nat → Prop, ¬ W23 (⟨w17.heap.size, 0, none⟩ : Addr).block ∧
      ∃ l24 : List Value, rdCells w22 ⟨w17.heap.size, 0, none⟩ 0 51 = some l24 ∧
      ∃ a25 : Addr, (some ⟨w11.heap.size, 0, none⟩ : Option Addr) = some a25 ∧ ¬ W23 (a25.add 1).block ∧
      ∃ b26 : Bool, w22.cell? (a25.add 1) = some (.bool b26) ∧ (
        b26 = true → ∃ a27 : Addr, (some ⟨w11.heap.size, 0, none⟩ : Option Addr) = some a27 ∧
        ¬ W23 a27.block ∧ ∃ s28 : Sl, w22.cell? a27 = some (.slice s28.a s28.len s28.cap) ∧
        StoreOk w22 ⟨w.heap.size, 0, none⟩ (Array.toList l24.toArray) ∧ Array.size l24.toArray = 51 ∧
        Nx (setCells w22 ⟨w.heap.size, 0, none⟩ 0 (Array.toList l24.toArray)) fun w29 =>
        Chg W23 w22 w29 ∧ ∃ l30 : List Value, rdCells w29 ⟨w.heap.size, 0, none⟩ 0 51 = some l30 ∧
        Q (.tuple #[.agg l30.toArray, .bool ((((s28.len : Nat) : Int) : Int) == 0)]) w29)
      ∧ (
        b26 = false → StoreOk w22 ⟨w.heap.size, 0, none⟩ (Array.toList l24.toArray) ∧
        Array.size l24.toArray = 51 ∧ Nx (setCells w22 ⟨w.heap.size, 0, none⟩ 0 (Array.toList l24.toArray)) fun w31 =>
        Chg W23 w22 w31 ∧ ∃ l32 : List Value, rdCells w31 ⟨w.heap.size, 0, none⟩ 0 51 = some l32 ∧
        Q (.tuple #[.agg l32.toArray, .bool false]) w31)
      )
    ∧ (
      (ByteArray.toList s15 == ByteArray.toList s13) = false → I8 (IntKind.wrap .i64 (n10 + 1)) w11 ∧
      μ9 (IntKind.wrap .i64 (n10 + 1)) w11 < μ9 n10 w11)
    )
  ∧ (
    (decide ((n10 : Int) < ((s7.len : Nat) : Int))) = false → ∃ c33 : Array Value, Sem.run Tryz.prog (Instr.build Ty.api_Op #[]) w11 = .ok (.agg c33) w11 ∧
    StoreOk w11 ⟨w.heap.size, 0, none⟩ (Array.toList c33) ∧ Array.size c33 = 51 ∧
    Nx (setCells w11 ⟨w.heap.size, 0, none⟩ 0 (Array.toList c33)) fun w34 => ∃ l35 : List Value, rdCells w34 ⟨w.heap.size, 0, none⟩ 0 51 = some l35 ∧
    Q (.tuple #[.agg l35.toArray, .bool false]) w34)
def A.script_parsed : AT := (.seq (.reg []) (.seq (.reg []) (.seq (.seq (.reg []) (.blk (.loop [(13, (.int .i64))] [2, 4, 11, 12] (.seq (.reg []) (.seq (.cond .leaf .leaf) (.seq (.blk (.seq (.reg []) (.seq (.reg []) (.cond (.seq (.reg []) (.seq (.reg []) (.seq (.drw 14 true ⟨[0, 0, 2, 4, 8, 16, 32, 96, 160, 288, 544, 1056, 2080, 33, 16383], [0, 0, 2, 4, 8, 16, 32, 96, 160, 288, 544, 1056, 2080, 1, 4096]⟩ [2147483648, 4294967296, 8589934592, 17179869184, 34359738368, 68719476736, 137438953472, 274877906944, 549755813888, 1099511627776, 2199023255552, 4398046511104, 8796093022208, 0, 8] [256, 128, 4294967296, 8589934592, 17179869184, 34359738368, 68719476864, 206158430208, 343597383680, 618475290624, 1168231104512, 2267742732288, 4466765987840, 2147483652, 8796093022208] (.take 0 (.take 1 (.take 2 (.take 3 (.take 4 (.take 5 (.sp 36 (.take 6 (.take 7 (.take 8 (.take 9 (.take 10 (.take 11 (.take 12 (.eff 13 (.tail [.run]))))))))) (.take 6 (.take 7 (.take 8 (.take 9 (.take 10 (.take 11 (.take 12 (.eff 13 (.tail [.run]))))))))))))))))) .leaf))) .leaf)))) (.reg []))))))) (.seq (.reg []) .leaf))))
theorem W.script_parsed_eq (s : ByteArray) (w : World) (Q : Value → World → Prop) : W.script_parsed s w Q = DF Tryz.prog tk A.script_parsed Tryz.f58 [.string s] w Q := by kernel_rfl
theorem W.script_parsed_ok (s : ByteArray) (w : World) (Q : Value → World → Prop) (h : W.script_parsed s w Q) : Calls Tryz.prog F.script_parsed #[.string s] w fun e w1 => ∃ v, e = .returned v ∧ Q v w1 :=
  calls_of_DF hmix Tryz.func58 (by kernel_rfl) (Eq.mp (W.script_parsed_eq s w Q) h)

/-- stanchion/script.same -/
def W.script_same (a : Array Value) (b : Array Value) (w : World) (Q : Value → World → Prop) : Prop :=
  Nx (w.alloc (.cells a Ty.api_Op)) fun w1 => Nx (w1.alloc (.cells b Ty.api_Op)) fun w2 =>
  Nx (w2.drew) fun w3 => ∃ W4 : Nat → Prop, ¬ W4 (Addr.add ⟨w.heap.size, 0, none⟩ 6).block ∧
  ∃ l5 : List Value, rdCells w3 (Addr.add ⟨w.heap.size, 0, none⟩ 6) 0 23 = some l5 ∧
  ¬ W4 (Addr.add ⟨w1.heap.size, 0, none⟩ 6).block ∧ ∃ l6 : List Value, rdCells w3 (Addr.add ⟨w1.heap.size, 0, none⟩ 6) 0 23 = some l6 ∧
  (
    Nx (
      w3.alloc (
        .cells #[.int .i64 0, .bool false, .int .u8 0, .int .u8 0, .int .u8 0, .int .u8 0, .int .u8 0, .int .u8 0, .int .u8 0, .int .u8 0, .int .u8 0, .int .u8 0, .int .u8 0, .int .u8 0, .int .u8 0, .int .u8 0, .int .u8 0, .int .u8 0, .int .u16 0, .int .u8 0, .int .i64 0, .int .u64 0, .slice none 0 0] Ty.api_Service)
      )
    fun w7 => Chg W4 w3 w7 ∧ Nx (
      w7.alloc (
        .cells #[.int .i64 0, .bool false, .int .u8 0, .int .u8 0, .int .u8 0, .int .u8 0, .int .u8 0, .int .u8 0, .int .u8 0, .int .u8 0, .int .u8 0, .int .u8 0, .int .u8 0, .int .u8 0, .int .u8 0, .int .u8 0, .int .u8 0, .int .u8 0, .int .u16 0, .int .u8 0, .int .i64 0, .int .u64 0, .slice none 0 0] Ty.api_Service)
      )
    fun w8 => Chg W4 w7 w8 ∧ StoreOk w8 ⟨w3.heap.size, 0, none⟩ (Array.toList l5.toArray) ∧
    Array.size l5.toArray = 23 ∧ Nx (setCells w8 ⟨w3.heap.size, 0, none⟩ 0 (Array.toList l5.toArray)) fun w9 =>
    Chg W4 w8 w9 ∧ StoreOk w9 ⟨w7.heap.size, 0, none⟩ (Array.toList l6.toArray) ∧
    Array.size l6.toArray = 23 ∧ Nx (setCells w9 ⟨w7.heap.size, 0, none⟩ 0 (Array.toList l6.toArray)) fun w10 =>
    ∃ n11 : Int, w10.cell? ⟨w3.heap.size, 0, none⟩ = some (.int .i64 n11) ∧ ∃ n12 : Int, w10.cell? ⟨w7.heap.size, 0, none⟩ = some (.int .i64 n12) ∧
    Jn (
      fun k13 : Bool → World → Prop => (
        ((n11 : Int) == n12) = true → ∃ l14 : List Value, rdCells w10 (Addr.add ⟨w3.heap.size, 0, none⟩ 1) 0 17 = some l14 ∧
        ∃ l15 : List Value, rdCells w10 (Addr.add ⟨w7.heap.size, 0, none⟩ 1) 0 17 = some l15 ∧
        ∃ b16 : Bool, AggEq Tryz.prog Ty.api_Addr l14.toArray l15.toArray b16 ∧ k13 b16 w10)
      ∧ (((n11 : Int) == n12) = false → k13 false w10))
    (
      fun (b17 : Bool) (w18 : World) => Jn (
        fun k19 : Bool → World → Prop => (
          b17 = true → ∃ n20 : Int, w18.cell? (Addr.add ⟨w3.heap.size, 0, none⟩ 18) = some (.int .u16 n20) ∧
          ∃ n21 : Int, w18.cell? (Addr.add ⟨w7.heap.size, 0, none⟩ 18) = some (.int .u16 n21) ∧
          k19 ((n20 : Int) == n21) w18)
        ∧ (b17 = false → k19 false w18))
      (
        fun (b22 : Bool) (w23 : World) => Jn (
          fun k24 : Bool → World → Prop => (
            b22 = true → ∃ n25 : Int, w23.cell? (Addr.add ⟨w3.heap.size, 0, none⟩ 19) = some (.int .u8 n25) ∧
            ∃ n26 : Int, w23.cell? (Addr.add ⟨w7.heap.size, 0, none⟩ 19) = some (.int .u8 n26) ∧
            k24 ((n25 : Int) == n26) w23)
          ∧ (b22 = false → k24 false w23))
        (
          fun (b27 : Bool) (w28 : World) => Jn (
            fun k29 : Bool → World → Prop => (
              b27 = true → ∃ n30 : Int, w28.cell? (Addr.add ⟨w3.heap.size, 0, none⟩ 20) = some (.int .i64 n30) ∧
              ∃ n31 : Int, w28.cell? (Addr.add ⟨w7.heap.size, 0, none⟩ 20) = some (.int .i64 n31) ∧
              k29 ((n30 : Int) == n31) w28)
            ∧ (b27 = false → k29 false w28))
          (
            fun (b32 : Bool) (w33 : World) => Jn (
              fun k34 : Bool → World → Prop => (
                b32 = true → ∃ n35 : Int, w33.cell? (Addr.add ⟨w3.heap.size, 0, none⟩ 21) = some (.int .u64 n35) ∧
                ∃ n36 : Int, w33.cell? (Addr.add ⟨w7.heap.size, 0, none⟩ 21) = some (.int .u64 n36) ∧
                k34 ((n35 : Int) == n36) w33)
              ∧ (b32 = false → k34 false w33))
            (
              fun (b37 : Bool) (w38 : World) => Jn (
                fun k39 : Bool → World → Prop => (
                  b37 = true → ∃ s40 : Sl, w38.cell? (Addr.add ⟨w3.heap.size, 0, none⟩ 22) = some (.slice s40.a s40.len s40.cap) ∧
                  ∃ s41 : Sl, w38.cell? (Addr.add ⟨w7.heap.size, 0, none⟩ 22) = some (.slice s41.a s41.len s41.cap) ∧
                  k39 ((((s40.len : Nat) : Int) : Int) == ((s41.len : Nat) : Int)) w38)
                ∧ (b37 = false → k39 false w38))
              (
                fun (b42 : Bool) (w43 : World) => Jn (
                  fun k44 : Bool → World → Prop => ((!b42) = true → k44 true w43) ∧ (
                    (!b42) = false → ∃ n45 : Int, w43.cell? ⟨w.heap.size, 0, none⟩ = some (.int .i64 n45) ∧
                    ∃ n46 : Int, w43.cell? ⟨w1.heap.size, 0, none⟩ = some (.int .i64 n46) ∧ k44 ((n45 : Int) != n46) w43)
                  )
                (
                  fun (b47 : Bool) (w48 : World) => Jn (
                    fun k49 : Bool → World → Prop => (b47 = true → k49 true w48) ∧ (
                      b47 = false → ∃ n50 : Int, w48.cell? (Addr.add ⟨w.heap.size, 0, none⟩ 2) = some (.int .i64 n50) ∧
                      ∃ n51 : Int, w48.cell? (Addr.add ⟨w1.heap.size, 0, none⟩ 2) = some (.int .i64 n51) ∧
                      k49 ((n50 : Int) != n51) w48)
                    )
                  (
                    fun (b52 : Bool) (w53 : World) => Jn (
                      fun k54 : Bool → World → Prop => (b52 = true → k54 true w53) ∧ (
                        b52 = false → ∃ n55 : Int, w53.cell? (Addr.add ⟨w.heap.size, 0, none⟩ 3) = some (.int .i64 n55) ∧
                        ∃ n56 : Int, w53.cell? (Addr.add ⟨w1.heap.size, 0, none⟩ 3) = some (.int .i64 n56) ∧
                        k54 ((n55 : Int) != n56) w53)
                      )
                    (
                      fun (b57 : Bool) (w58 : World) => Jn (
                        fun k59 : Bool → World → Prop => (b57 = true → k59 true w58) ∧ (
                          b57 = false → ∃ n60 : Int, w58.cell? (Addr.add ⟨w.heap.size, 0, none⟩ 4) = some (.int .u64 n60) ∧
                          ∃ n61 : Int, w58.cell? (Addr.add ⟨w1.heap.size, 0, none⟩ 4) = some (.int .u64 n61) ∧
                          k59 ((n60 : Int) != n61) w58)
                        )
                      (
                        fun (b62 : Bool) (w63 : World) => Jn (
                          fun k64 : Bool → World → Prop => (b62 = true → k64 true w63) ∧ (
                            b62 = false → ∃ b65 : Bool, w63.cell? (Addr.add ⟨w.heap.size, 0, none⟩ 5) = some (.bool b65) ∧
                            ∃ b66 : Bool, w63.cell? (Addr.add ⟨w1.heap.size, 0, none⟩ 5) = some (.bool b66) ∧
                            k64 (!(b65 == b66)) w63)
                          )
                        (
                          fun (b67 : Bool) (w68 : World) => Jn (
                            fun k69 : Bool → World → Prop => (b67 = true → k69 true w68) ∧ (
                              b67 = false → ∃ l70 : List Value, rdCells w68 (Addr.add ⟨w.heap.size, 0, none⟩ 29) 0 21 = some l70 ∧
                              ∃ l71 : List Value, rdCells w68 (Addr.add ⟨w1.heap.size, 0, none⟩ 29) 0 21 = some l71 ∧
                              ∃ b72 : Bool, AggEq Tryz.prog Ty.api_Backend l70.toArray l71.toArray b72 ∧
                              k69 (!b72) w68)
                            )
                          (
                            fun (b73 : Bool) (w74 : World) => Jn (
                              fun k75 : Bool → World → Prop => (b73 = true → k75 true w74) ∧ (
                                b73 = false → ∃ s76 : Sl, w74.cell? (Addr.add ⟨w.heap.size, 0, none⟩ 1) = some (.slice s76.a s76.len s76.cap) ∧
                                ∃ s77 : ByteArray, ∃ w78 : World, Sem.run Tryz.prog (convert Ty.Sl_uint8 Ty.string (.slice s76.a s76.len s76.cap)) w74 = .ok (.string s77) w78 ∧
                                ∃ s79 : Sl, w78.cell? (Addr.add ⟨w1.heap.size, 0, none⟩ 1) = some (.slice s79.a s79.len s79.cap) ∧
                                ∃ s80 : ByteArray, ∃ w81 : World, Sem.run Tryz.prog (convert Ty.Sl_uint8 Ty.string (.slice s79.a s79.len s79.cap)) w78 = .ok (.string s80) w81 ∧
                                k75 (!(ByteArray.toList s77 == ByteArray.toList s80)) w81)
                              )
                            (
                              fun (b82 : Bool) (w83 : World) => Jn (
                                fun k84 : Bool → World → Prop => (b82 = true → k84 true w83) ∧ (
                                  b82 = false → ∃ s85 : Sl, w83.cell? (Addr.add ⟨w.heap.size, 0, none⟩ 50) = some (.slice s85.a s85.len s85.cap) ∧
                                  ∃ s86 : Sl, w83.cell? (Addr.add ⟨w1.heap.size, 0, none⟩ 50) = some (.slice s86.a s86.len s86.cap) ∧
                                  k84 ((((s85.len : Nat) : Int) : Int) != ((s86.len : Nat) : Int)) w83)
                                )
                              (
                                fun (b87 : Bool) (w88 : World) => (b87 = true → Q (.bool false) w88) ∧ (
                                  b87 = false → ∃ s89 : Sl, w88.cell? (Addr.add ⟨w.heap.size, 0, none⟩ 50) = some (.slice s89.a s89.len s89.cap) ∧
                                  ∃ (I90 : Int → World → Prop) (μ91 : Int → World → Nat), I90 0 w88 ∧ ∀ (n92 : Int) (w93 : World), I90 n92 w93 →
                                  (
                                    (decide ((n92 : Int) < ((s89.len : Nat) : Int))) = true → Nx (w93.drew) fun w94 =>
                                    ¬ False ∧ ∃ s95 : Sl, w94.cell? (Addr.add ⟨w.heap.size, 0, none⟩ 50) = some (.slice s95.a s95.len s95.cap) ∧
                                    ∃ a96 : Addr, s95.a = some a96 ∧ ((0 : Int) ≤ n92 ∧ n92 < ((s95.len : Nat) : Int)) ∧
                                    ¬ False ∧ ∃ n97 : Int, w94.cell? (a96.add (Int.toNat n92 * 1)) = some (.int .i64 n97) ∧
                                    ¬ False ∧ ∃ s98 : Sl, w94.cell? (Addr.add ⟨w1.heap.size, 0, none⟩ 50) = some (.slice s98.a s98.len s98.cap) ∧
                                    ∃ a99 : Addr, s98.a = some a99 ∧ ((0 : Int) ≤ n92 ∧ n92 < ((s98.len : Nat) : Int)) ∧
                                    ¬ False ∧ ∃ n100 : Int, w94.cell? (a99.add (Int.toNat n92 * 1)) = some (.int .i64 n100) ∧
                                    (((n97 : Int) != n100) = true → Q (.bool false) w94) ∧ (
                                      ((n97 : Int) != n100) = false → I90 (IntKind.wrap .i64 (n92 + 1)) w94 ∧ μ91 (IntKind.wrap .i64 (n92 + 1)) w94 < μ91 n92 w93)
                                    )
                                  ∧ ((decide ((n92 : Int) < ((s89.len : Nat) : Int))) = false → Q (.bool true) w93))
                                )
                              )
                            )
                          )
                        )
                      )
                    )
                  )
                )
              )
            )
          )
        )
      )
    )
  ∧ (
    Nx (
      w3.alloc (
        .cells #[.int .i64 0, .bool false, .int .u8 0, .int .u8 0, .int .u8 0, .int .u8 0, .int .u8 0, .int .u8 0, .int .u8 0, .int .u8 0, .int .u8 0, .int .u8 0, .int .u8 0, .int .u8 0, .int .u8 0, .int .u8 0, .int .u8 0, .int .u8 0, .int .u16 0, .int .u8 0, .int .i64 0, .int .u64 0, .slice none 0 0] Ty.api_Service)
      )
    fun w101 => Chg W4 w3 w101 ∧ Nx (
      w101.alloc (
        .cells #[.int .i64 0, .bool false, .int .u8 0, .int .u8 0, .int .u8 0, .int .u8 0, .int .u8 0, .int .u8 0, .int .u8 0, .int .u8 0, .int .u8 0, .int .u8 0, .int .u8 0, .int .u8 0, .int .u8 0, .int .u8 0, .int .u8 0, .int .u8 0, .int .u16 0, .int .u8 0, .int .i64 0, .int .u64 0, .slice none 0 0] Ty.api_Service)
      )
    fun w102 => Chg W4 w101 w102 ∧ StoreOk w102 ⟨w101.heap.size, 0, none⟩ (Array.toList l5.toArray) ∧
    Array.size l5.toArray = 23 ∧ Nx (setCells w102 ⟨w101.heap.size, 0, none⟩ 0 (Array.toList l5.toArray)) fun w103 =>
    Chg W4 w102 w103 ∧ StoreOk w103 ⟨w3.heap.size, 0, none⟩ (Array.toList l6.toArray) ∧
    Array.size l6.toArray = 23 ∧ Nx (setCells w103 ⟨w3.heap.size, 0, none⟩ 0 (Array.toList l6.toArray)) fun w104 =>
    ∃ n105 : Int, w104.cell? ⟨w101.heap.size, 0, none⟩ = some (.int .i64 n105) ∧
    ∃ n106 : Int, w104.cell? ⟨w3.heap.size, 0, none⟩ = some (.int .i64 n106) ∧
    Jn (
      fun k107 : Bool → World → Prop => (
        ((n105 : Int) == n106) = true → ∃ l108 : List Value, rdCells w104 (Addr.add ⟨w101.heap.size, 0, none⟩ 1) 0 17 = some l108 ∧
        ∃ l109 : List Value, rdCells w104 (Addr.add ⟨w3.heap.size, 0, none⟩ 1) 0 17 = some l109 ∧
        ∃ b110 : Bool, AggEq Tryz.prog Ty.api_Addr l108.toArray l109.toArray b110 ∧
        k107 b110 w104)
      ∧ (((n105 : Int) == n106) = false → k107 false w104))
    (
      fun (b111 : Bool) (w112 : World) => Jn (
        fun k113 : Bool → World → Prop => (
          b111 = true → ∃ n114 : Int, w112.cell? (Addr.add ⟨w101.heap.size, 0, none⟩ 18) = some (.int .u16 n114) ∧
          ∃ n115 : Int, w112.cell? (Addr.add ⟨w3.heap.size, 0, none⟩ 18) = some (.int .u16 n115) ∧
          k113 ((n114 : Int) == n115) w112)
        ∧ (b111 = false → k113 false w112))
      (
        fun (b116 : Bool) (w117 : World) => Jn (
          fun k118 : Bool → World → Prop => (
            b116 = true → ∃ n119 : Int, w117.cell? (Addr.add ⟨w101.heap.size, 0, none⟩ 19) = some (.int .u8 n119) ∧
            ∃ n120 : Int, w117.cell? (Addr.add ⟨w3.heap.size, 0, none⟩ 19) = some (.int .u8 n120) ∧
            k118 ((n119 : Int) == n120) w117)
          ∧ (b116 = false → k118 false w117))
        (
          fun (b121 : Bool) (w122 : World) => Jn (
            fun k123 : Bool → World → Prop => (
              b121 = true → ∃ n124 : Int, w122.cell? (Addr.add ⟨w101.heap.size, 0, none⟩ 20) = some (.int .i64 n124) ∧
              ∃ n125 : Int, w122.cell? (Addr.add ⟨w3.heap.size, 0, none⟩ 20) = some (.int .i64 n125) ∧
              k123 ((n124 : Int) == n125) w122)
            ∧ (b121 = false → k123 false w122))
          (
            fun (b126 : Bool) (w127 : World) => Jn (
              fun k128 : Bool → World → Prop => (
                b126 = true → ∃ n129 : Int, w127.cell? (Addr.add ⟨w101.heap.size, 0, none⟩ 21) = some (.int .u64 n129) ∧
                ∃ n130 : Int, w127.cell? (Addr.add ⟨w3.heap.size, 0, none⟩ 21) = some (.int .u64 n130) ∧
                k128 ((n129 : Int) == n130) w127)
              ∧ (b126 = false → k128 false w127))
            (
              fun (b131 : Bool) (w132 : World) => Jn (
                fun k133 : Bool → World → Prop => (
                  b131 = true → ∃ s134 : Sl, w132.cell? (Addr.add ⟨w101.heap.size, 0, none⟩ 22) = some (.slice s134.a s134.len s134.cap) ∧
                  ∃ s135 : Sl, w132.cell? (Addr.add ⟨w3.heap.size, 0, none⟩ 22) = some (.slice s135.a s135.len s135.cap) ∧
                  k133 ((((s134.len : Nat) : Int) : Int) == ((s135.len : Nat) : Int)) w132)
                ∧ (b131 = false → k133 false w132))
              (
                fun (b136 : Bool) (w137 : World) => Jn (
                  fun k138 : Bool → World → Prop => ((!b136) = true → k138 true w137) ∧ (
                    (!b136) = false → ∃ n139 : Int, w137.cell? ⟨w.heap.size, 0, none⟩ = some (.int .i64 n139) ∧
                    ∃ n140 : Int, w137.cell? ⟨w1.heap.size, 0, none⟩ = some (.int .i64 n140) ∧
                    k138 ((n139 : Int) != n140) w137)
                  )
                (
                  fun (b141 : Bool) (w142 : World) => Jn (
                    fun k143 : Bool → World → Prop => (b141 = true → k143 true w142) ∧ (
                      b141 = false → ∃ n144 : Int, w142.cell? (Addr.add ⟨w.heap.size, 0, none⟩ 2) = some (.int .i64 n144) ∧
                      ∃ n145 : Int, w142.cell? (Addr.add ⟨w1.heap.size, 0, none⟩ 2) = some (.int .i64 n145) ∧
                      k143 ((n144 : Int) != n145) w142)
                    )
                  (
                    fun (b146 : Bool) (w147 : World) => Jn (
                      fun k148 : Bool → World → Prop => (b146 = true → k148 true w147) ∧ (
                        b146 = false → ∃ n149 : Int, w147.cell? (Addr.add ⟨w.heap.size, 0, none⟩ 3) = some (.int .i64 n149) ∧
                        ∃ n150 : Int, w147.cell? (Addr.add ⟨w1.heap.size, 0, none⟩ 3) = some (.int .i64 n150) ∧
                        k148 ((n149 : Int) != n150) w147)
                      )
                    (
                      fun (b151 : Bool) (w152 : World) => Jn (
                        fun k153 : Bool → World → Prop => (b151 = true → k153 true w152) ∧ (
                          b151 = false → ∃ n154 : Int, w152.cell? (Addr.add ⟨w.heap.size, 0, none⟩ 4) = some (.int .u64 n154) ∧
                          ∃ n155 : Int, w152.cell? (Addr.add ⟨w1.heap.size, 0, none⟩ 4) = some (.int .u64 n155) ∧
                          k153 ((n154 : Int) != n155) w152)
                        )
                      (
                        fun (b156 : Bool) (w157 : World) => Jn (
                          fun k158 : Bool → World → Prop => (b156 = true → k158 true w157) ∧ (
                            b156 = false → ∃ b159 : Bool, w157.cell? (Addr.add ⟨w.heap.size, 0, none⟩ 5) = some (.bool b159) ∧
                            ∃ b160 : Bool, w157.cell? (Addr.add ⟨w1.heap.size, 0, none⟩ 5) = some (.bool b160) ∧
                            k158 (!(b159 == b160)) w157)
                          )
                        (
                          fun (b161 : Bool) (w162 : World) => Jn (
                            fun k163 : Bool → World → Prop => (b161 = true → k163 true w162) ∧ (
                              b161 = false → ∃ l164 : List Value, rdCells w162 (Addr.add ⟨w.heap.size, 0, none⟩ 29) 0 21 = some l164 ∧
                              ∃ l165 : List Value, rdCells w162 (Addr.add ⟨w1.heap.size, 0, none⟩ 29) 0 21 = some l165 ∧
                              ∃ b166 : Bool, AggEq Tryz.prog Ty.api_Backend l164.toArray l165.toArray b166 ∧
                              k163 (!b166) w162)
                            )
                          (
                            fun (b167 : Bool) (w168 : World) => Jn (
                              fun k169 : Bool → World → Prop => (b167 = true → k169 true w168) ∧ (
                                b167 = false → ∃ s170 : Sl, w168.cell? (Addr.add ⟨w.heap.size, 0, none⟩ 1) = some (.slice s170.a s170.len s170.cap) ∧
                                ∃ s171 : ByteArray, ∃ w172 : World, Sem.run Tryz.prog (convert Ty.Sl_uint8 Ty.string (.slice s170.a s170.len s170.cap)) w168 = .ok (.string s171) w172 ∧
                                ∃ s173 : Sl, w172.cell? (Addr.add ⟨w1.heap.size, 0, none⟩ 1) = some (.slice s173.a s173.len s173.cap) ∧
                                ∃ s174 : ByteArray, ∃ w175 : World, Sem.run Tryz.prog (convert Ty.Sl_uint8 Ty.string (.slice s173.a s173.len s173.cap)) w172 = .ok (.string s174) w175 ∧
                                k169 (!(ByteArray.toList s171 == ByteArray.toList s174)) w175)
                              )
                            (
                              fun (b176 : Bool) (w177 : World) => Jn (
                                fun k178 : Bool → World → Prop => (b176 = true → k178 true w177) ∧ (
                                  b176 = false → ∃ s179 : Sl, w177.cell? (Addr.add ⟨w.heap.size, 0, none⟩ 50) = some (.slice s179.a s179.len s179.cap) ∧
                                  ∃ s180 : Sl, w177.cell? (Addr.add ⟨w1.heap.size, 0, none⟩ 50) = some (.slice s180.a s180.len s180.cap) ∧
                                  k178 ((((s179.len : Nat) : Int) : Int) != ((s180.len : Nat) : Int)) w177)
                                )
                              (
                                fun (b181 : Bool) (w182 : World) => (b181 = true → Q (.bool false) w182) ∧
                                (
                                  b181 = false → ∃ s183 : Sl, w182.cell? (Addr.add ⟨w.heap.size, 0, none⟩ 50) = some (.slice s183.a s183.len s183.cap) ∧
                                  ∃ (I184 : Int → World → Prop) (μ185 : Int → World → Nat), I184 0 w182 ∧ ∀ (n186 : Int) (w187 : World), I184 n186 w187 →
                                  (
                                    (decide ((n186 : Int) < ((s183.len : Nat) : Int))) = true → Nx (w187.drew) fun w188 =>
                                    ¬ False ∧ ∃ s189 : Sl, w188.cell? (Addr.add ⟨w.heap.size, 0, none⟩ 50) = some (.slice s189.a s189.len s189.cap) ∧
                                    ∃ a190 : Addr, s189.a = some a190 ∧ ((0 : Int) ≤ n186 ∧ n186 < ((s189.len : Nat) : Int)) ∧
                                    ¬ False ∧ ∃ n191 : Int, w188.cell? (a190.add (Int.toNat n186 * 1)) = some (.int .i64 n191) ∧
                                    ¬ False ∧ ∃ s192 : Sl, w188.cell? (Addr.add ⟨w1.heap.size, 0, none⟩ 50) = some (.slice s192.a s192.len s192.cap) ∧
                                    ∃ a193 : Addr, s192.a = some a193 ∧ ((0 : Int) ≤ n186 ∧ n186 < ((s192.len : Nat) : Int)) ∧
                                    ¬ False ∧ ∃ n194 : Int, w188.cell? (a193.add (Int.toNat n186 * 1)) = some (.int .i64 n194) ∧
                                    (((n191 : Int) != n194) = true → Q (.bool false) w188) ∧ (
                                      ((n191 : Int) != n194) = false → I184 (IntKind.wrap .i64 (n186 + 1)) w188 ∧
                                      μ185 (IntKind.wrap .i64 (n186 + 1)) w188 < μ185 n186 w187)
                                    )
                                  ∧ ((decide ((n186 : Int) < ((s183.len : Nat) : Int))) = false → Q (.bool true) w187))
                                )
                              )
                            )
                          )
                        )
                      )
                    )
                  )
                )
              )
            )
          )
        )
      )
    )
def A.script_same : AT := (.seq (.reg []) (.seq (.drw 7 true ⟨[0, 1, 0, 4, 0, 0, 51, 127], [0, 1, 0, 4, 0, 0, 18, 40]⟩ [512, 1024, 2048, 4096, 32, 64, 0, 0] [4, 512, 8, 2048, 0, 0, 1056, 4160] (.take 0 (.take 1 (.take 2 (.take 3 (.two 4 (.eff 5 (.eff 6 (.tail [.run]))) 5 (.eff 4 (.eff 6 (.tail [.run]))))))))) (.seq (.reg [.run, .run, .run, .run, .run, .run, .split 5, .run, .run, .run, .run, .run, .run, .split 5, .run, .run, .run, .run, .run, .run, .split 5, .run, .run, .run, .run, .run, .run, .split 5, .run, .run, .run, .run, .run, .run, .split 5, .run, .run, .run, .run, .run, .run, .split 7]) (.seq (.seq (.reg [.run, .run, .run, .split 5, .run, .run, .run, .run, .run, .run, .split 5, .run, .run, .run, .run, .run, .run, .split 5, .run, .run, .run, .run, .run, .run, .split 5, .run, .run, .run, .run, .run, .run, .split 5, .run, .run, .run, .run, .run, .run, .split 5, .run, .run, .run, .run, .run, .run, .split 7, .run, .run, .run, .run, .run, .run, .run, .run, .split 7]) (.cond (.seq (.reg []) .leaf) .leaf)) (.seq (.seq (.reg []) (.blk (.loop [(127, (.int .i64))] [2, 3, 126] (.seq (.reg []) (.seq (.cond .leaf .leaf) (.seq (.blk (.seq (.reg []) (.seq (.drw 10 false ⟨[0, 1, 0, 6, 8, 0, 32, 0, 192, 256, 528], [0, 1, 0, 6, 8, 0, 32, 0, 192, 256, 528]⟩ [1361129467683753853853498429727072845824, 2722258935367507707706996859454145691648, 5444517870735015415413993718908291383296, 10889035741470030830827987437816582766592, 21778071482940061661655974875633165533184, 43556142965880123323311949751266331066368, 87112285931760246646623899502532662132736, 174224571863520493293247799005065324265472, 348449143727040986586495598010130648530944, 696898287454081973172991196020261297061888, 1393796574908163946345982392040522594123776] [4, 1361129467683753853853498429727072845824, 256, 8166776806102523123120990578362437074944, 10889035741470030830827987437816582766592, 8, 43556142965880123323311949751266331066368, 256, 261336857795280739939871698507597986398208, 348449143727040986586495598010130648530944, 718676358937022034834647170895894462595072] (.take 0 (.take 1 (.take 2 (.take 3 (.take 4 (.take 5 (.take 6 (.take 7 (.take 8 (.take 9 (.tail [.run])))))))))))) (.cond (.seq (.reg []) .leaf) .leaf)))) (.reg []))))))) (.seq (.reg []) .leaf))))))
theorem W.script_same_eq (a : Array Value) (b : Array Value) (w : World) (Q : Value → World → Prop) : W.script_same a b w Q = DF Tryz.prog tk A.script_same Tryz.f59 [.agg a, .agg b] w Q := by kernel_rfl
theorem W.script_same_ok (a : Array Value) (b : Array Value) (w : World) (Q : Value → World → Prop) (h : W.script_same a b w Q) : Calls Tryz.prog F.script_same #[.agg a, .agg b] w fun e w1 => ∃ v, e = .returned v ∧ Q v w1 :=
  calls_of_DF hmix Tryz.func59 (by kernel_rfl) (Eq.mp (W.script_same_eq a b w Q) h)

/-- (*stanchion/script.line).text -/
def W.script_line_text (l : Option Addr) (s : Sl) (w : World) (Q : Value → World → Prop) : Prop :=
  ∃ a1 : Addr, l = some a1 ∧ ∃ s2 : Sl, w.cell? a1 = some (.slice s2.a s2.len s2.cap) ∧
  ∃ s3 : Sl, ∃ w4 : World, Sem.run Tryz.prog (
    Builtin.append_ #[Ty.Sl_string, Ty.Sl_string] Ty.Sl_string #[.slice s2.a s2.len s2.cap, .slice s.a s.len s.cap])
  w = .ok (.slice s3.a s3.len s3.cap) w4 ∧ ∃ a5 : Addr, l = some a5 ∧ (∃ u : Value, w4.cell? a5 = some u) ∧
  w4.frozen? a5 = false ∧ Nx (w4.setCell a5 (.slice s3.a s3.len s3.cap)) fun w6 =>
  Q (.tuple #[]) w6
def A.script_line_text : AT := (.reg [])
theorem W.script_line_text_eq (l : Option Addr) (s : Sl) (w : World) (Q : Value → World → Prop) : W.script_line_text l s w Q = DF Tryz.prog tk A.script_line_text Tryz.f76 [.pointer l, .slice s.a s.len s.cap] w Q := by kernel_rfl
theorem W.script_line_text_ok (l : Option Addr) (s : Sl) (w : World) (Q : Value → World → Prop) (h : W.script_line_text l s w Q) : Calls Tryz.prog F.script_line_text #[.pointer l, .slice s.a s.len s.cap] w fun e w1 => ∃ v, e = .returned v ∧ Q v w1 :=
  calls_of_DF hmix Tryz.func76 (by kernel_rfl) (Eq.mp (W.script_line_text_eq l s w Q) h)

/-- stanchion/script.names -/
def W.script_names  (w : World) (Q : Value → World → Prop) : Prop :=
  Calls Tryz.prog F.strings_Fields #[.string (
    ByteArray.mk #[112, 97, 99, 107, 101, 116, 32, 116, 105, 99, 107, 32, 115, 101, 114, 118, 105, 99, 101, 32, 100, 114, 111, 112, 32, 98, 97, 99, 107, 101, 110, 100, 32, 114, 101, 109, 111, 118, 101, 32, 100, 114, 97, 105, 110, 32, 119, 101, 105, 103, 104, 32, 99, 104, 101, 99, 107, 32, 115, 121, 110, 99, 32, 99, 114, 97, 115, 104, 32, 102, 97, 105, 108, 32, 115, 112, 111, 105, 108, 32, 109, 111, 117, 110, 116])
  ] w fun e2 w1 => ∃ s3 : Sl, e2 = .returned (.slice s3.a s3.len s3.cap) ∧ Q (.slice s3.a s3.len s3.cap) w1
def A.script_names : AT := (.seq (.reg []) (.seq (.reg []) .leaf))
theorem W.script_names_eq  (w : World) (Q : Value → World → Prop) : W.script_names  w Q = DF Tryz.prog tk A.script_names Tryz.f77 [] w Q := by kernel_rfl
theorem W.script_names_ok  (w : World) (Q : Value → World → Prop) (h : W.script_names  w Q) : Calls Tryz.prog F.script_names #[] w fun e w1 => ∃ v, e = .returned v ∧ Q v w1 :=
  calls_of_DF hmix Tryz.func77 (by kernel_rfl) (Eq.mp (W.script_names_eq  w Q) h)

/-- stanchion/script.hex -/
def W.script_hex (b : Sl) (w : World) (Q : Value → World → Prop) : Prop :=
  (((((b.len : Nat) : Int) : Int) == 0) = true → Q (.string (ByteArray.mk #[45])) w) ∧
  (
    ((((b.len : Nat) : Int) : Int) == 0) = false → Nx (w.alloc (.cells #[.pointer none, .slice none 0 0] Ty.strings_Builder)) fun w1 =>
    ∃ (I2 : Int → World → Prop) (μ3 : Int → World → Nat), I2 0 w1 ∧ ∀ (n4 : Int) (w5 : World), I2 n4 w5 →
    (
      (decide ((n4 : Int) < ((b.len : Nat) : Int))) = true → ∃ a6 : Addr, b.a = some a6 ∧
      ((0 : Int) ≤ n4 ∧ n4 < ((b.len : Nat) : Int)) ∧ ∃ n7 : Int, w5.cell? (a6.add (Int.toNat n4 * 1)) = some (.int .u8 n7) ∧
      (0 : Int) ≤ 4 ∧ (0 : Int) ≤ (Int.fdiv n7 (2 ^ (min (Int.toNat 4) 8))) ∧ ∃ b8 : UInt8, byteAt (ByteArray.mk #[48, 49, 50, 51, 52, 53, 54, 55, 56, 57, 97, 98, 99, 100, 101, 102]) (Int.toNat (Int.fdiv n7 (2 ^ (min (Int.toNat 4) 8)))) = some b8 ∧
      Calls Tryz.prog F.strings_Builder_WriteByte #[.pointer (some ⟨w.heap.size, 0, none⟩), .int .u8 ((b8.toNat : Nat) : Int)] w5 fun e10 w9 =>
      ∃ v11 : Value, e10 = .returned (v11) ∧ (0 : Int) ≤ (bAnd .u8 n7 15) ∧ ∃ b12 : UInt8, byteAt (ByteArray.mk #[48, 49, 50, 51, 52, 53, 54, 55, 56, 57, 97, 98, 99, 100, 101, 102]) (Int.toNat (bAnd .u8 n7 15)) = some b12 ∧
      Calls Tryz.prog F.strings_Builder_WriteByte #[.pointer (some ⟨w.heap.size, 0, none⟩), .int .u8 ((b12.toNat : Nat) : Int)] w9 fun e14 w13 =>
      ∃ v15 : Value, e14 = .returned (v15) ∧ I2 (IntKind.wrap .i64 (n4 + 1)) w13 ∧
      μ3 (IntKind.wrap .i64 (n4 + 1)) w13 < μ3 n4 w5)
    ∧ (
      (decide ((n4 : Int) < ((b.len : Nat) : Int))) = false → Calls Tryz.prog F.strings_Builder_String #[.pointer (some ⟨w.heap.size, 0, none⟩)] w5 fun e17 w16 =>
      ∃ s18 : ByteArray, e17 = .returned (.string s18) ∧ Q (.string s18) w16)
    )
def A.script_hex : AT := (.seq (.reg []) (.seq (.seq (.reg []) (.cond (.seq (.reg []) .leaf) .leaf)) (.seq (.reg []) (.seq (.seq (.reg []) (.blk (.loop [(11, (.int .i64))] [3, 9, 10] (.seq (.reg []) (.seq (.cond .leaf .leaf) (.seq (.blk (.seq (.reg []) (.seq (.reg []) (.reg [])))) (.reg []))))))) (.seq (.reg []) .leaf)))))
theorem W.script_hex_eq (b : Sl) (w : World) (Q : Value → World → Prop) : W.script_hex b w Q = DF Tryz.prog tk A.script_hex Tryz.f78 [.slice b.a b.len b.cap] w Q := by kernel_rfl
theorem W.script_hex_ok (b : Sl) (w : World) (Q : Value → World → Prop) (h : W.script_hex b w Q) : Calls Tryz.prog F.script_hex #[.slice b.a b.len b.cap] w fun e w1 => ∃ v, e = .returned v ∧ Q v w1 :=
  calls_of_DF hmix Tryz.func78 (by kernel_rfl) (Eq.mp (W.script_hex_eq b w Q) h)

/-- (*stanchion/script.line).long -/
def W.script_line_long (l : Option Addr) (n : Int) (w : World) (Q : Value → World → Prop) : Prop :=
  Calls Tryz.prog F.strconv_FormatUint #[.int .u64 n, .int .i64 10] w fun e2 w1 =>
  ∃ s3 : ByteArray, e2 = .returned (.string s3) ∧ Nx (w1.alloc (.cells #[.string s3] Ty.string)) fun w4 =>
  Calls Tryz.prog F.script_line_text #[.pointer l, .slice (some ⟨w1.heap.size, 0, none⟩) 1 1] w4 fun e6 w5 =>
  e6 = .returned (.tuple #[]) ∧ Q (.tuple #[]) w5
def A.script_line_long : AT := (.reg [])
theorem W.script_line_long_eq (l : Option Addr) (n : Int) (w : World) (Q : Value → World → Prop) : W.script_line_long l n w Q = DF Tryz.prog tk A.script_line_long Tryz.f79 [.pointer l, .int .u64 n] w Q := by kernel_rfl
theorem W.script_line_long_ok (l : Option Addr) (n : Int) (w : World) (Q : Value → World → Prop) (h : W.script_line_long l n w Q) : Calls Tryz.prog F.script_line_long #[.pointer l, .int .u64 n] w fun e w1 => ∃ v, e = .returned v ∧ Q v w1 :=
  calls_of_DF hmix Tryz.func79 (by kernel_rfl) (Eq.mp (W.script_line_long_eq l n w Q) h)

/-- (*stanchion/script.line).ints -/
def W.script_line_ints (l : Option Addr) (n : Sl) (w : World) (Q : Value → World → Prop) : Prop :=
  ∃ (I1 : Int → World → Prop) (μ2 : Int → World → Nat), I1 0 w ∧ ∀ (n3 : Int) (w4 : World), I1 n3 w4 →
  (
    (decide ((n3 : Int) < ((n.len : Nat) : Int))) = true → ∃ a5 : Addr, n.a = some a5 ∧
    ((0 : Int) ≤ n3 ∧ n3 < ((n.len : Nat) : Int)) ∧ ∃ n6 : Int, w4.cell? (a5.add (Int.toNat n3 * 1)) = some (.int .i64 n6) ∧
    Calls Tryz.prog F.strconv_Itoa #[.int .i64 n6] w4 fun e8 w7 => ∃ s9 : ByteArray, e8 = .returned (.string s9) ∧
    Nx (w7.alloc (.cells #[.string s9] Ty.string)) fun w10 => Calls Tryz.prog F.script_line_text #[.pointer l, .slice (some ⟨w7.heap.size, 0, none⟩) 1 1] w10 fun e12 w11 =>
    e12 = .returned (.tuple #[]) ∧ I1 (IntKind.wrap .i64 (n3 + 1)) w11 ∧ μ2 (IntKind.wrap .i64 (n3 + 1)) w11 < μ2 n3 w4)
  ∧ ((decide ((n3 : Int) < ((n.len : Nat) : Int))) = false → Q (.tuple #[]) w4)
def A.script_line_ints : AT := (.seq (.reg []) (.blk (.loop [(8, (.int .i64))] [0, 6, 7] (.seq (.reg []) (.seq (.cond .leaf .leaf) (.seq (.blk (.seq (.reg []) (.reg []))) (.reg [])))))))
theorem W.script_line_ints_eq (l : Option Addr) (n : Sl) (w : World) (Q : Value → World → Prop) : W.script_line_ints l n w Q = DF Tryz.prog tk A.script_line_ints Tryz.f80 [.pointer l, .slice n.a n.len n.cap] w Q := by kernel_rfl
theorem W.script_line_ints_ok (l : Option Addr) (n : Sl) (w : World) (Q : Value → World → Prop) (h : W.script_line_ints l n w Q) : Calls Tryz.prog F.script_line_ints #[.pointer l, .slice n.a n.len n.cap] w fun e w1 => ∃ v, e = .returned v ∧ Q v w1 :=
  calls_of_DF hmix Tryz.func80 (by kernel_rfl) (Eq.mp (W.script_line_ints_eq l n w Q) h)

/-- stanchion/addr.Show -/
def W.addr_Show (a : Array Value) (w : World) (Q : Value → World → Prop) : Prop :=
  Nx (w.alloc (.cells a Ty.api_Addr)) fun w1 => ∃ l2 : List Value, rdCells w1 ⟨w.heap.size, 0, none⟩ 0 17 = some l2 ∧
  Calls Tryz.prog F.addr_show #[.agg l2.toArray] w1 fun e4 w3 => ∃ s5 : ByteArray, e4 = .returned (.string s5) ∧
  Q (.string s5) w3
def A.addr_Show : AT := (.seq (.reg []) (.seq (.reg []) .leaf))
theorem W.addr_Show_eq (a : Array Value) (w : World) (Q : Value → World → Prop) : W.addr_Show a w Q = DF Tryz.prog tk A.addr_Show Tryz.f81 [.agg a] w Q := by kernel_rfl
theorem W.addr_Show_ok (a : Array Value) (w : World) (Q : Value → World → Prop) (h : W.addr_Show a w Q) : Calls Tryz.prog F.addr_Show #[.agg a] w fun e w1 => ∃ v, e = .returned v ∧ Q v w1 :=
  calls_of_DF hmix Tryz.func81 (by kernel_rfl) (Eq.mp (W.addr_Show_eq a w Q) h)

/-- stanchion/script.on -/
def W.script_on (is : Bool) (w : World) (Q : Value → World → Prop) : Prop :=
  (is = true → Q (.string (ByteArray.mk #[111, 110])) w) ∧ (is = false → Q (.string (ByteArray.mk #[111, 102, 102])) w)
def A.script_on : AT := (.seq (.reg []) (.seq (.seq (.reg []) (.cond (.seq (.reg []) .leaf) .leaf)) (.seq (.reg []) .leaf)))
theorem W.script_on_eq (is : Bool) (w : World) (Q : Value → World → Prop) : W.script_on is w Q = DF Tryz.prog tk A.script_on Tryz.f82 [.bool is] w Q := by kernel_rfl
theorem W.script_on_ok (is : Bool) (w : World) (Q : Value → World → Prop) (h : W.script_on is w Q) : Calls Tryz.prog F.script_on #[.bool is] w fun e w1 => ∃ v, e = .returned v ∧ Q v w1 :=
  calls_of_DF hmix Tryz.func82 (by kernel_rfl) (Eq.mp (W.script_on_eq is w Q) h)

/-- (*stanchion/script.reader).step -/
def W.script_reader_step (r : Option Addr) (kind : Int) (w : World) (Q : Value → World → Prop) : Prop :=
  Nx (
    w.alloc (
      .cells #[.int .i64 0, .slice none 0 0, .int .i64 0, .int .i64 0, .int .u64 0, .bool false, .int .i64 0, .bool false, .int .u8 0, .int .u8 0, .int .u8 0, .int .u8 0, .int .u8 0, .int .u8 0, .int .u8 0, .int .u8 0, .int .u8 0, .int .u8 0, .int .u8 0, .int .u8 0, .int .u8 0, .int .u8 0, .int .u8 0, .int .u8 0, .int .u16 0, .int .u8 0, .int .i64 0, .int .u64 0, .slice none 0 0, .int .i64 0, .bool false, .int .u8 0, .int .u8 0, .int .u8 0, .int .u8 0, .int .u8 0, .int .u8 0, .int .u8 0, .int .u8 0, .int .u8 0, .int .u8 0, .int .u8 0, .int .u8 0, .int .u8 0, .int .u8 0, .int .u8 0, .int .u8 0, .int .u16 0, .int .i64 0, .bool false, .slice none 0 0] Ty.api_Op)
    )
  fun w1 => (∃ u : Value, w1.cell? ⟨w.heap.size, 0, none⟩ = some u) ∧ w1.frozen? ⟨w.heap.size, 0, none⟩ = false ∧
  Nx (w1.setCell ⟨w.heap.size, 0, none⟩ (.int .i64 kind)) fun w2 => Jn (
    fun k3 : World → Prop => (
      ((kind : Int) == 1) = true → Calls Tryz.prog F.script_reader_word #[.pointer r] w2 fun e5 w4 =>
      ∃ s6 : ByteArray, e5 = .returned (.string s6) ∧ Calls Tryz.prog F.script_unhex #[.string s6] w4 fun e8 w7 =>
      ∃ s9 : Sl, ∃ b10 : Bool, e8 = .returned (.tuple #[.slice s9.a s9.len s9.cap, .bool b10]) ∧
      ∃ a11 : Addr, r = some a11 ∧ ∃ b12 : Bool, w7.cell? (a11.add 1) = some (.bool b12) ∧
      (∃ u : Value, w7.cell? (Addr.add ⟨w.heap.size, 0, none⟩ 1) = some u) ∧ w7.frozen? (Addr.add ⟨w.heap.size, 0, none⟩ 1) = false ∧
      Nx (w7.setCell (Addr.add ⟨w.heap.size, 0, none⟩ 1) (.slice s9.a s9.len s9.cap)) fun w13 =>
      ∃ a14 : Addr, r = some a14 ∧ (∃ u : Value, w13.cell? (a14.add 1) = some u) ∧
      w13.frozen? (a14.add 1) = false ∧ Nx (w13.setCell (a14.add 1) (.bool (b12 && b10))) fun w15 =>
      k3 w15)
    ∧ (
      ((kind : Int) == 1) = false → (
        ((kind : Int) == 2) = true → Calls Tryz.prog F.script_reader_long #[.pointer r] w2 fun e17 w16 =>
        ∃ n18 : Int, e17 = .returned (.int .u64 n18) ∧ (∃ u : Value, w16.cell? (Addr.add ⟨w.heap.size, 0, none⟩ 4) = some u) ∧
        w16.frozen? (Addr.add ⟨w.heap.size, 0, none⟩ 4) = false ∧ Nx (w16.setCell (Addr.add ⟨w.heap.size, 0, none⟩ 4) (.int .u64 n18)) fun w19 =>
        k3 w19)
      ∧ (
        ((kind : Int) == 2) = false → (
          ((kind : Int) == 3) = true → Calls Tryz.prog F.script_reader_int #[.pointer r] w2 fun e21 w20 =>
          ∃ n22 : Int, e21 = .returned (.int .i64 n22) ∧ Calls Tryz.prog F.script_reader_addr #[.pointer r] w20 fun e24 w23 =>
          ∃ c25 : Array Value, e24 = .returned (.agg c25) ∧ Calls Tryz.prog F.script_reader_small #[.pointer r, .int .i64 16] w23 fun e27 w26 =>
          ∃ n28 : Int, e27 = .returned (.int .u64 n28) ∧ Calls Tryz.prog F.script_reader_small #[.pointer r, .int .i64 8] w26 fun e30 w29 =>
          ∃ n31 : Int, e30 = .returned (.int .u64 n31) ∧ Calls Tryz.prog F.script_reader_int #[.pointer r] w29 fun e33 w32 =>
          ∃ n34 : Int, e33 = .returned (.int .i64 n34) ∧ Calls Tryz.prog F.script_reader_long #[.pointer r] w32 fun e36 w35 =>
          ∃ n37 : Int, e36 = .returned (.int .u64 n37) ∧ ∃ c38 : Array Value, Sem.run Tryz.prog (
            Instr.build Ty.api_Service #[(0, .int .i64 n22), (1, .agg c25), (2, .int .u16 (IntKind.wrap .u16 n28)), (3, .int .u8 (IntKind.wrap .u8 n31)), (4, .int .i64 n34), (5, .int .u64 n37)])
          w35 = .ok (.agg c38) w35 ∧ StoreOk w35 (Addr.add ⟨w.heap.size, 0, none⟩ 6) (Array.toList c38) ∧
          Array.size c38 = 23 ∧ Nx (setCells w35 (Addr.add ⟨w.heap.size, 0, none⟩ 6) 0 (Array.toList c38)) fun w39 =>
          k3 w39)
        ∧ (
          ((kind : Int) == 3) = false → (
            ((kind : Int) == 4) = true → Calls Tryz.prog F.script_reader_int #[.pointer r] w2 fun e41 w40 =>
            ∃ n42 : Int, e41 = .returned (.int .i64 n42) ∧ (∃ u : Value, w40.cell? (Addr.add ⟨w.heap.size, 0, none⟩ 2) = some u) ∧
            w40.frozen? (Addr.add ⟨w.heap.size, 0, none⟩ 2) = false ∧ Nx (w40.setCell (Addr.add ⟨w.heap.size, 0, none⟩ 2) (.int .i64 n42)) fun w43 =>
            k3 w43)
          ∧ (
            ((kind : Int) == 4) = false → (
              ((kind : Int) == 5) = true → Calls Tryz.prog F.script_reader_int #[.pointer r] w2 fun e45 w44 =>
              ∃ n46 : Int, e45 = .returned (.int .i64 n46) ∧ (∃ u : Value, w44.cell? (Addr.add ⟨w.heap.size, 0, none⟩ 2) = some u) ∧
              w44.frozen? (Addr.add ⟨w.heap.size, 0, none⟩ 2) = false ∧ Nx (w44.setCell (Addr.add ⟨w.heap.size, 0, none⟩ 2) (.int .i64 n46)) fun w47 =>
              Calls Tryz.prog F.script_reader_int #[.pointer r] w47 fun e49 w48 => ∃ n50 : Int, e49 = .returned (.int .i64 n50) ∧
              Calls Tryz.prog F.script_reader_addr #[.pointer r] w48 fun e52 w51 => ∃ c53 : Array Value, e52 = .returned (.agg c53) ∧
              Calls Tryz.prog F.script_reader_small #[.pointer r, .int .i64 16] w51 fun e55 w54 =>
              ∃ n56 : Int, e55 = .returned (.int .u64 n56) ∧ Calls Tryz.prog F.script_reader_int #[.pointer r] w54 fun e58 w57 =>
              ∃ n59 : Int, e58 = .returned (.int .i64 n59) ∧ ∃ c60 : Array Value, Sem.run Tryz.prog (
                Instr.build Ty.api_Backend #[(0, .int .i64 n50), (1, .agg c53), (2, .int .u16 (IntKind.wrap .u16 n56)), (3, .int .i64 n59)])
              w57 = .ok (.agg c60) w57 ∧ StoreOk w57 (Addr.add ⟨w.heap.size, 0, none⟩ 29) (Array.toList c60) ∧
              Array.size c60 = 21 ∧ Nx (setCells w57 (Addr.add ⟨w.heap.size, 0, none⟩ 29) 0 (Array.toList c60)) fun w61 =>
              k3 w61)
            ∧ (
              ((kind : Int) == 5) = false → Jn (
                fun k62 : Bool → World → Prop => (((kind : Int) == 6) = true → k62 ((kind : Int) == 6) w2) ∧
                (((kind : Int) == 6) = false → k62 ((kind : Int) == 12) w2))
              (
                fun (b63 : Bool) (w64 : World) => (
                  b63 = true → Calls Tryz.prog F.script_reader_int #[.pointer r] w64 fun e66 w65 =>
                  ∃ n67 : Int, e66 = .returned (.int .i64 n67) ∧ Calls Tryz.prog F.script_reader_int #[.pointer r] w65 fun e69 w68 =>
                  ∃ n70 : Int, e69 = .returned (.int .i64 n70) ∧ (∃ u : Value, w68.cell? (Addr.add ⟨w.heap.size, 0, none⟩ 2) = some u) ∧
                  w68.frozen? (Addr.add ⟨w.heap.size, 0, none⟩ 2) = false ∧ Nx (w68.setCell (Addr.add ⟨w.heap.size, 0, none⟩ 2) (.int .i64 n67)) fun w71 =>
                  (∃ u : Value, w71.cell? (Addr.add ⟨w.heap.size, 0, none⟩ 3) = some u) ∧ w71.frozen? (Addr.add ⟨w.heap.size, 0, none⟩ 3) = false ∧
                  Nx (w71.setCell (Addr.add ⟨w.heap.size, 0, none⟩ 3) (.int .i64 n70)) fun w72 =>
                  k3 w72)
                ∧ (
                  b63 = false → Jn (
                    fun k73 : Bool → World → Prop => (((kind : Int) == 7) = true → k73 ((kind : Int) == 7) w64) ∧
                    (((kind : Int) == 7) = false → k73 ((kind : Int) == 9) w64))
                  (
                    fun (b74 : Bool) (w75 : World) => (
                      b74 = true → Calls Tryz.prog F.script_reader_int #[.pointer r] w75 fun e77 w76 =>
                      ∃ n78 : Int, e77 = .returned (.int .i64 n78) ∧ Calls Tryz.prog F.script_reader_int #[.pointer r] w76 fun e80 w79 =>
                      ∃ n81 : Int, e80 = .returned (.int .i64 n81) ∧ Calls Tryz.prog F.script_reader_on #[.pointer r] w79 fun e83 w82 =>
                      ∃ b84 : Bool, e83 = .returned (.bool b84) ∧ (∃ u : Value, w82.cell? (Addr.add ⟨w.heap.size, 0, none⟩ 2) = some u) ∧
                      w82.frozen? (Addr.add ⟨w.heap.size, 0, none⟩ 2) = false ∧ Nx (w82.setCell (Addr.add ⟨w.heap.size, 0, none⟩ 2) (.int .i64 n78)) fun w85 =>
                      (∃ u : Value, w85.cell? (Addr.add ⟨w.heap.size, 0, none⟩ 3) = some u) ∧ w85.frozen? (Addr.add ⟨w.heap.size, 0, none⟩ 3) = false ∧
                      Nx (w85.setCell (Addr.add ⟨w.heap.size, 0, none⟩ 3) (.int .i64 n81)) fun w86 =>
                      (∃ u : Value, w86.cell? (Addr.add ⟨w.heap.size, 0, none⟩ 5) = some u) ∧ w86.frozen? (Addr.add ⟨w.heap.size, 0, none⟩ 5) = false ∧
                      Nx (w86.setCell (Addr.add ⟨w.heap.size, 0, none⟩ 5) (.bool b84)) fun w87 =>
                      k3 w87)
                    ∧ (
                      b74 = false → Jn (
                        fun k88 : Bool → World → Prop => (((kind : Int) == 8) = true → k88 ((kind : Int) == 8) w75) ∧
                        (((kind : Int) == 8) = false → k88 ((kind : Int) == 13) w75))
                      (
                        fun (b89 : Bool) (w90 : World) => (
                          b89 = true → Calls Tryz.prog F.script_reader_int #[.pointer r] w90 fun e92 w91 =>
                          ∃ n93 : Int, e92 = .returned (.int .i64 n93) ∧ Calls Tryz.prog F.script_reader_int #[.pointer r] w91 fun e95 w94 =>
                          ∃ n96 : Int, e95 = .returned (.int .i64 n96) ∧ Calls Tryz.prog F.script_reader_long #[.pointer r] w94 fun e98 w97 =>
                          ∃ n99 : Int, e98 = .returned (.int .u64 n99) ∧ (∃ u : Value, w97.cell? (Addr.add ⟨w.heap.size, 0, none⟩ 2) = some u) ∧
                          w97.frozen? (Addr.add ⟨w.heap.size, 0, none⟩ 2) = false ∧ Nx (w97.setCell (Addr.add ⟨w.heap.size, 0, none⟩ 2) (.int .i64 n93)) fun w100 =>
                          (∃ u : Value, w100.cell? (Addr.add ⟨w.heap.size, 0, none⟩ 3) = some u) ∧ w100.frozen? (Addr.add ⟨w.heap.size, 0, none⟩ 3) = false ∧
                          Nx (w100.setCell (Addr.add ⟨w.heap.size, 0, none⟩ 3) (.int .i64 n96)) fun w101 =>
                          (∃ u : Value, w101.cell? (Addr.add ⟨w.heap.size, 0, none⟩ 4) = some u) ∧ w101.frozen? (Addr.add ⟨w.heap.size, 0, none⟩ 4) = false ∧
                          Nx (w101.setCell (Addr.add ⟨w.heap.size, 0, none⟩ 4) (.int .u64 n99)) fun w102 =>
                          k3 w102)
                        ∧ (
                          b89 = false → (
                            ((kind : Int) == 11) = true → ∃ (I103 : World → Prop) (μ104 : World → Nat), I103 w90 ∧
                            ∀  (w105 : World), I103 w105 → ∃ a106 : Addr, r = some a106 ∧ ∃ b107 : Bool, w105.cell? (a106.add 1) = some (.bool b107) ∧
                            Jn (
                              fun k108 : Bool → World → Prop => (
                                b107 = true → ∃ a109 : Addr, r = some a109 ∧ ∃ s110 : Sl, w105.cell? a109 = some (.slice s110.a s110.len s110.cap) ∧
                                k108 (decide ((((s110.len : Nat) : Int) : Int) > 0)) w105)
                              ∧ (b107 = false → k108 false w105))
                            (
                              fun (b111 : Bool) (w112 : World) => (
                                b111 = true → Nx (w112.drew) fun w113 => ∃ W114 : Nat → Prop, ¬ W114 (Addr.add ⟨w.heap.size, 0, none⟩ 50).block ∧
                                ∃ s115 : Sl, w113.cell? (Addr.add ⟨w.heap.size, 0, none⟩ 50) = some (.slice s115.a s115.len s115.cap) ∧
                                Calls Tryz.prog F.script_reader_int #[.pointer r] w113 fun e117 w116 => ∃ n118 : Int, e117 = .returned (.int .i64 n118) ∧
                                Chg W114 w113 w116 ∧ Nx (w116.alloc (.cells #[.int .i64 n118] Ty.int)) fun w119 =>
                                Chg W114 w116 w119 ∧ ∃ s120 : Sl, ∃ w121 : World, Sem.run Tryz.prog (
                                  Builtin.append_ #[Ty.Sl_int, Ty.Sl_int] Ty.Sl_int #[.slice s115.a s115.len s115.cap, .slice (some ⟨w116.heap.size, 0, none⟩) 1 1])
                                w119 = .ok (.slice s120.a s120.len s120.cap) w121 ∧ (∃ u : Value, w121.cell? (Addr.add ⟨w.heap.size, 0, none⟩ 50) = some u) ∧
                                w121.frozen? (Addr.add ⟨w.heap.size, 0, none⟩ 50) = false ∧ Nx (w121.setCell (Addr.add ⟨w.heap.size, 0, none⟩ 50) (.slice s120.a s120.len s120.cap)) fun w122 =>
                                I103 w122 ∧ μ104 w122 < μ104 w105)
                              ∧ (b111 = false → k3 w112))
                            )
                          ∧ (((kind : Int) == 11) = false → k3 w90))
                        )
                      )
                    )
                  )
                )
              )
            )
          )
        )
      )
    )
  (
    fun  (w123 : World) => ∃ l124 : List Value, rdCells w123 ⟨w.heap.size, 0, none⟩ 0 51 = some l124 ∧
    StoreOk w123 ⟨w.heap.size, 0, none⟩ (Array.toList l124.toArray) ∧ Array.size l124.toArray = 51 ∧
    Nx (setCells w123 ⟨w.heap.size, 0, none⟩ 0 (Array.toList l124.toArray)) fun w125 =>
    ∃ l126 : List Value, rdCells w125 ⟨w.heap.size, 0, none⟩ 0 51 = some l126 ∧
    Q (.agg l126.toArray) w125)
def A.script_reader_step : AT := (.seq (.reg []) (.seq (.reg []) (.seq (.jk [] [4] (.seq (.reg []) (.blk (.seq (.reg []) (.cond (.seq (.reg []) (.reg [.run, .run, .run, .run, .run, .run, .run, .pure 1])) (.seq (.reg []) (.cond (.reg []) (.seq (.reg []) (.cond (.reg []) (.seq (.reg []) (.cond (.reg []) (.seq (.reg []) (.cond (.seq (.reg []) (.reg [])) (.seq (.jk [(74, .bool)] [0, 4, 9] (.seq (.reg []) (.cond .leaf (.reg [])))) (.cond (.reg []) (.seq (.jk [(83, .bool)] [0, 4, 9] (.seq (.reg []) (.cond .leaf (.reg [])))) (.cond (.reg []) (.seq (.jk [(95, .bool)] [0, 4, 9] (.seq (.reg []) (.cond .leaf (.reg [])))) (.cond (.reg []) (.seq (.reg []) (.cond (.blk (.loop [] [0, 4] (.seq (.seq (.reg [.run, .run, .run, .run, .run, .split 6]) (.cond .leaf .leaf)) (.blk (.drw 5 true ⟨[0, 1, 0, 4, 8, 26, 63, 127], [0, 1, 0, 4, 8, 18, 0, 96]⟩ [2658455991569831745807614120560689152, 5316911983139663491615228241121378304, 10633823966279326983230456482242756608, 21267647932558653966460912964485513216, 42535295865117307932921825928971026432, 85070591730234615865843651857942052864, 170141183460469231731687303715884105728, 0] [16, 2658455991569831745807614120560689152, 1, 10633823966279326983230456482242756608, 21267647932558653966460912964485513216, 47852207848256971424537054170092404736, 16, 255211775190703847597530955573826158592] (.take 0 (.take 1 (.take 2 (.eff 3 (.eff 4 (.tail [.run, .run, .run]))))))))))) .leaf))))))))))))))))))))) (.seq (.reg []) .leaf))))
theorem W.script_reader_step_eq (r : Option Addr) (kind : Int) (w : World) (Q : Value → World → Prop) : W.script_reader_step r kind w Q = DF Tryz.prog tk A.script_reader_step Tryz.f84 [.pointer r, .int .i64 kind] w Q := by kernel_rfl
theorem W.script_reader_step_ok (r : Option Addr) (kind : Int) (w : World) (Q : Value → World → Prop) (h : W.script_reader_step r kind w Q) : Calls Tryz.prog F.script_reader_step #[.pointer r, .int .i64 kind] w fun e w1 => ∃ v, e = .returned v ∧ Q v w1 :=
  calls_of_DF hmix Tryz.func84 (by kernel_rfl) (Eq.mp (W.script_reader_step_eq r kind w Q) h)

end Go.Proofs.YtgljoledlhmhnaaGreatDoor


namespace Go.Proofs.YtgljoledlhmhnaaGreatDoor
open Go Gx
set_option maxRecDepth 100000
/-- stanchion/addr.show -/
def W.addr_show (a : Array Value) (w : World) (Q : Value → World → Prop) : Prop :=
  Nx (w.alloc (.cells a Ty.api_Addr)) fun w1 => ∃ l2 : List Value, rdCells w1 ⟨w.heap.size, 0, none⟩ 0 17 = some l2 ∧
  Calls Tryz.prog F.addr_good #[.agg l2.toArray] w1 fun e4 w3 => ∃ b5 : Bool, e4 = .returned (.bool b5) ∧
  ((!b5) = true → Q (.string (ByteArray.mk #[])) w3) ∧ (
    (!b5) = false → ∃ b6 : Bool, w3.cell? ⟨w.heap.size, 0, none⟩ = some (.bool b6) ∧
    (
      (!b6) = true → ∃ l7 : List Value, rdCells w3 ⟨w.heap.size, 0, none⟩ 0 17 = some l7 ∧
      Calls Tryz.prog F.addr_raw #[.agg l7.toArray] w3 fun e9 w8 => ∃ s10 : Sl, e9 = .returned (.slice s10.a s10.len s10.cap) ∧
      ∃ (I11 : Sl → Int → World → Prop) (μ12 : Sl → Int → World → Nat), I11 ⟨none, 0, 0⟩ 0 w8 ∧
      ∀ (s13 : Sl) (n14 : Int) (w15 : World), I11 s13 n14 w15 → (
        (decide ((n14 : Int) < ((s10.len : Nat) : Int))) = true → ∃ a16 : Addr, s10.a = some a16 ∧
        ((0 : Int) ≤ n14 ∧ n14 < ((s10.len : Nat) : Int)) ∧ ∃ n17 : Int, w15.cell? (a16.add (Int.toNat n14 * 1)) = some (.int .u8 n17) ∧
        Calls Tryz.prog F.strconv_Itoa #[.int .i64 (IntKind.wrap .i64 n17)] w15 fun e19 w18 =>
        ∃ s20 : ByteArray, e19 = .returned (.string s20) ∧ Nx (w18.alloc (.cells #[.string s20] Ty.string)) fun w21 =>
        ∃ s22 : Sl, ∃ w23 : World, Sem.run Tryz.prog (
          Builtin.append_ #[Ty.Sl_string, Ty.Sl_string] Ty.Sl_string #[.slice s13.a s13.len s13.cap, .slice (some ⟨w18.heap.size, 0, none⟩) 1 1])
        w21 = .ok (.slice s22.a s22.len s22.cap) w23 ∧ I11 s22 (IntKind.wrap .i64 (n14 + 1)) w23 ∧
        μ12 s22 (IntKind.wrap .i64 (n14 + 1)) w23 < μ12 s13 n14 w15)
      ∧ (
        (decide ((n14 : Int) < ((s10.len : Nat) : Int))) = false → Calls Tryz.prog F.strings_Join #[.slice s13.a s13.len s13.cap, .string (ByteArray.mk #[46])] w15 fun e25 w24 =>
        ∃ s26 : ByteArray, e25 = .returned (.string s26) ∧ Q (.string s26) w24)
      )
    ∧ (
      (!b6) = false → ∃ (I27 : Sl → Int → World → Prop) (μ28 : Sl → Int → World → Nat), I27 ⟨none, 0, 0⟩ 0 w3 ∧
      ∀ (s29 : Sl) (n30 : Int) (w31 : World), I27 s29 n30 w31 → (
        (decide ((n30 : Int) < 8)) = true → Calls Tryz.prog F.num_Get #[.slice (cutA (some (Addr.add ⟨w.heap.size, 0, none⟩ 1)) 1 0 16) (16 - 0) (16 - 0), .int .i64 (IntKind.wrap .i64 (2 * n30)), .int .i64 2] w31 fun e33 w32 =>
        ∃ n34 : Int, ∃ b35 : Bool, e33 = .returned (.tuple #[.int .u64 n34, .bool b35]) ∧
        Calls Tryz.prog F.strconv_FormatUint #[.int .u64 n34, .int .i64 16] w32 fun e37 w36 =>
        ∃ s38 : ByteArray, e37 = .returned (.string s38) ∧ Nx (w36.alloc (.cells #[.string s38] Ty.string)) fun w39 =>
        ∃ s40 : Sl, ∃ w41 : World, Sem.run Tryz.prog (
          Builtin.append_ #[Ty.Sl_string, Ty.Sl_string] Ty.Sl_string #[.slice s29.a s29.len s29.cap, .slice (some ⟨w36.heap.size, 0, none⟩) 1 1])
        w39 = .ok (.slice s40.a s40.len s40.cap) w41 ∧ I27 s40 (IntKind.wrap .i64 (n30 + 1)) w41 ∧
        μ28 s40 (IntKind.wrap .i64 (n30 + 1)) w41 < μ28 s29 n30 w31)
      ∧ (
        (decide ((n30 : Int) < 8)) = false → Calls Tryz.prog F.strings_Join #[.slice s29.a s29.len s29.cap, .string (ByteArray.mk #[58])] w31 fun e43 w42 =>
        ∃ s44 : ByteArray, e43 = .returned (.string s44) ∧ Q (.string s44) w42)
      )
    )
def A.addr_show : AT := (.seq (.reg []) (.seq (.seq (.reg []) (.cond (.seq (.reg []) .leaf) .leaf)) (.seq (.reg []) (.seq (.seq (.reg []) (.cond (.seq (.seq (.reg []) (.blk (.loop [(3, .slice), (18, (.int .i64))] [16, 17] (.seq (.reg []) (.seq (.cond .leaf .leaf) (.seq (.blk (.seq (.reg []) (.reg []))) (.reg []))))))) (.seq (.reg []) .leaf)) .leaf)) (.seq (.seq (.reg []) (.blk (.loop [(3, .slice), (31, (.int .i64))] [1] (.seq (.reg []) (.seq (.cond .leaf .leaf) (.seq (.blk (.seq (.reg []) (.seq (.reg []) (.reg [])))) (.reg []))))))) (.seq (.reg []) .leaf))))))
theorem W.addr_show_eq (a : Array Value) (w : World) (Q : Value → World → Prop) : W.addr_show a w Q = DF Tryz.prog tk A.addr_show Tryz.f106 [.agg a] w Q := by kernel_rfl
theorem W.addr_show_ok (a : Array Value) (w : World) (Q : Value → World → Prop) (h : W.addr_show a w Q) : Calls Tryz.prog F.addr_show #[.agg a] w fun e w1 => ∃ v, e = .returned v ∧ Q v w1 :=
  calls_of_DF hmix Tryz.func106 (by kernel_rfl) (Eq.mp (W.addr_show_eq a w Q) h)

/-- stanchion/script.unhex -/
def W.script_unhex (s : ByteArray) (w : World) (Q : Value → World → Prop) : Prop :=
  (
    (ByteArray.toList s == ByteArray.toList (ByteArray.mk #[45])) = true → Q (.tuple #[.slice none 0 0, .bool true]) w)
  ∧ (
    (ByteArray.toList s == ByteArray.toList (ByteArray.mk #[45])) = false → ∃ (v1 : Value) (w2 : World), Sem.run Tryz.prog (Instr.range Ty.string (.string s)) w = .ok v1 w2 ∧
    ∃ (I3 : Sl → Int → World → Prop) (μ4 : Sl → Int → World → Nat), I3 ⟨none, 0, 0⟩ 0 w2 ∧
    ∀ (s5 : Sl) (n6 : Int) (w7 : World), I3 s5 n6 w7 → (
      ∃ (n9 : Int) (n10 : Int) (w8 : World), Sem.run Tryz.prog (Instr.next (v1) true 0) w7 = .ok (.tuple #[.bool true, .int .i64 n9, .int .i32 n10]) w8 ∧
      (
        true = true → ∃ s11 : ByteArray, ∃ w12 : World, Sem.run Tryz.prog (convert Ty.int32 Ty.string (.int .i32 n10)) w8 = .ok (.string s11) w12 ∧
        Calls Tryz.prog F.strings_Index #[.string (ByteArray.mk #[48, 49, 50, 51, 52, 53, 54, 55, 56, 57, 97, 98, 99, 100, 101, 102]), .string s11] w12 fun e14 w13 =>
        ∃ n15 : Int, e14 = .returned (.int .i64 n15) ∧ ((decide ((n15 : Int) < 0)) = true → Q (.tuple #[.slice none 0 0, .bool false]) w13) ∧
        (
          (decide ((n15 : Int) < 0)) = false → Jn (
            fun k16 : Sl → World → Prop => (2 : Int) ≠ 0 ∧ (
              (((Int.tmod n9 2) : Int) == 1) = true → (0 : Int) ≤ 4 ∧ Nx (
                w13.alloc (
                  .cells #[.int .u8 (IntKind.wrap .u8 (bOr .i64 (IntKind.wrap .i64 (n6 * 2 ^ (min (Int.toNat 4) 64))) n15))] Ty.uint8)
                )
              fun w17 => ∃ s18 : Sl, ∃ w19 : World, Sem.run Tryz.prog (
                Builtin.append_ #[Ty.Sl_uint8, Ty.Sl_uint8] Ty.Sl_uint8 #[.slice s5.a s5.len s5.cap, .slice (some ⟨w13.heap.size, 0, none⟩) 1 1])
              w17 = .ok (.slice s18.a s18.len s18.cap) w19 ∧ k16 s18 w19)
            ∧ ((((Int.tmod n9 2) : Int) == 1) = false → k16 s5 w13))
          (fun (s20 : Sl) (w21 : World) => I3 s20 n15 w21 ∧ μ4 s20 n15 w21 < μ4 s5 n6 w7))
        )
      ∧ (
        true = false → (2 : Int) ≠ 0 ∧ Q (
          .tuple #[.slice s5.a s5.len s5.cap, .bool (((Int.tmod ((ByteArray.size s : Nat) : Int) 2) : Int) == 0)])
        w8)
      )
    ∨ (
      ∃ w22 : World, Sem.run Tryz.prog (Instr.next (v1) true 0) w7 = .ok (.tuple #[.bool false]) w22 ∧
      (false = true → False) ∧ (
        false = false → (2 : Int) ≠ 0 ∧ Q (
          .tuple #[.slice s5.a s5.len s5.cap, .bool (((Int.tmod ((ByteArray.size s : Nat) : Int) 2) : Int) == 0)])
        w22)
      )
    )
def A.script_unhex : AT := (.seq (.reg []) (.seq (.seq (.reg []) (.cond (.seq (.reg []) .leaf) .leaf)) (.seq (.reg []) (.seq (.reg []) (.seq (.seq (.reg []) (.blk (.loop [(4, .slice), (5, (.int .i64))] [0, 12] (.seq (.reg []) (.seq (.cond .leaf .leaf) (.blk (.seq (.reg []) (.seq (.reg []) (.seq (.seq (.reg []) (.cond (.seq (.reg []) .leaf) .leaf)) (.seq (.jk [(4, .slice)] [0, 8, 12] (.seq (.reg []) (.cond (.reg []) .leaf))) (.reg []))))))))))) (.seq (.reg []) .leaf))))))
theorem W.script_unhex_eq (s : ByteArray) (w : World) (Q : Value → World → Prop) : W.script_unhex s w Q = DF Tryz.prog tk A.script_unhex Tryz.f108 [.string s] w Q := by kernel_rfl
theorem W.script_unhex_ok (s : ByteArray) (w : World) (Q : Value → World → Prop) (h : W.script_unhex s w Q) : Calls Tryz.prog F.script_unhex #[.string s] w fun e w1 => ∃ v, e = .returned v ∧ Q v w1 :=
  calls_of_DF hmix Tryz.func108 (by kernel_rfl) (Eq.mp (W.script_unhex_eq s w Q) h)

/-- (*stanchion/script.reader).word -/
def W.script_reader_word (r : Option Addr) (w : World) (Q : Value → World → Prop) : Prop :=
  ∃ a1 : Addr, r = some a1 ∧ ∃ b2 : Bool, w.cell? (a1.add 1) = some (.bool b2) ∧
  Jn (
    fun k3 : Bool → World → Prop => ((!b2) = true → k3 true w) ∧ (
      (!b2) = false → ∃ a4 : Addr, r = some a4 ∧ ∃ s5 : Sl, w.cell? a4 = some (.slice s5.a s5.len s5.cap) ∧
      k3 ((((s5.len : Nat) : Int) : Int) == 0) w)
    )
  (
    fun (b6 : Bool) (w7 : World) => (
      b6 = true → ∃ a8 : Addr, r = some a8 ∧ (∃ u : Value, w7.cell? (a8.add 1) = some u) ∧
      w7.frozen? (a8.add 1) = false ∧ Nx (w7.setCell (a8.add 1) (.bool false)) fun w9 =>
      Q (.string (ByteArray.mk #[])) w9)
    ∧ (
      b6 = false → ∃ a10 : Addr, r = some a10 ∧ ∃ s11 : Sl, w7.cell? a10 = some (.slice s11.a s11.len s11.cap) ∧
      ∃ a12 : Addr, s11.a = some a12 ∧ ((0 : Int) ≤ 0 ∧ 0 < ((s11.len : Nat) : Int)) ∧
      ∃ s13 : ByteArray, w7.cell? (a12.add (Int.toNat 0 * 1)) = some (.string s13) ∧
      ∃ a14 : Addr, r = some a14 ∧ ∃ s15 : Sl, w7.cell? a14 = some (.slice s15.a s15.len s15.cap) ∧
      ((0 : Int) ≤ 1 ∧ 1 ≤ ((s15.len : Nat) : Int)) ∧ ∃ a16 : Addr, r = some a16 ∧
      (∃ u : Value, w7.cell? a16 = some u) ∧ w7.frozen? a16 = false ∧ Nx (
        w7.setCell a16 (.slice (cutA s15.a 1 (Int.toNat 1) s15.cap) (s15.len - (Int.toNat 1)) (s15.cap - (Int.toNat 1))))
      fun w17 => Q (.string s13) w17)
    )
def A.script_reader_word : AT := (.seq (.reg []) (.seq (.seq (.reg [.run, .run, .run, .run, .run, .run, .split 6]) (.cond (.seq (.reg []) (.seq (.reg []) .leaf)) .leaf)) (.seq (.reg []) (.seq (.reg []) (.seq (.reg []) .leaf)))))
theorem W.script_reader_word_eq (r : Option Addr) (w : World) (Q : Value → World → Prop) : W.script_reader_word r w Q = DF Tryz.prog tk A.script_reader_word Tryz.f109 [.pointer r] w Q := by kernel_rfl
theorem W.script_reader_word_ok (r : Option Addr) (w : World) (Q : Value → World → Prop) (h : W.script_reader_word r w Q) : Calls Tryz.prog F.script_reader_word #[.pointer r] w fun e w1 => ∃ v, e = .returned v ∧ Q v w1 :=
  calls_of_DF hmix Tryz.func109 (by kernel_rfl) (Eq.mp (W.script_reader_word_eq r w Q) h)

/-- (*stanchion/script.reader).long -/
def W.script_reader_long (r : Option Addr) (w : World) (Q : Value → World → Prop) : Prop :=
  Calls Tryz.prog F.script_reader_word #[.pointer r] w fun e2 w1 => ∃ s3 : ByteArray, e2 = .returned (.string s3) ∧
  Calls Tryz.prog F.strconv_ParseUint #[.string s3, .int .i64 10, .int .i64 64] w1 fun e5 w4 =>
  ∃ n6 : Int, ∃ v7 : Value, e5 = .returned (.tuple #[.int .u64 n6, v7]) ∧ ∃ a8 : Addr, r = some a8 ∧
  ∃ b9 : Bool, w4.cell? (a8.add 1) = some (.bool b9) ∧ Jn (
    fun k10 : Bool → World → Prop => (b9 = true → ∃ b11 : Bool, ifaceNil v7 = some b11 ∧ k10 b11 w4) ∧
    (b9 = false → k10 false w4))
  (
    fun (b12 : Bool) (w13 : World) => ∃ a14 : Addr, r = some a14 ∧ (∃ u : Value, w13.cell? (a14.add 1) = some u) ∧
    w13.frozen? (a14.add 1) = false ∧ Nx (w13.setCell (a14.add 1) (.bool b12)) fun w15 =>
    Q (.int .u64 n6) w15)
def A.script_reader_long : AT := (.seq (.reg []) (.seq (.reg []) (.seq (.reg [.run, .run, .run, .run, .run, .run, .split 2]) (.seq (.reg []) .leaf))))
theorem W.script_reader_long_eq (r : Option Addr) (w : World) (Q : Value → World → Prop) : W.script_reader_long r w Q = DF Tryz.prog tk A.script_reader_long Tryz.f110 [.pointer r] w Q := by kernel_rfl
theorem W.script_reader_long_ok (r : Option Addr) (w : World) (Q : Value → World → Prop) (h : W.script_reader_long r w Q) : Calls Tryz.prog F.script_reader_long #[.pointer r] w fun e w1 => ∃ v, e = .returned v ∧ Q v w1 :=
  calls_of_DF hmix Tryz.func110 (by kernel_rfl) (Eq.mp (W.script_reader_long_eq r w Q) h)

/-- (*stanchion/script.reader).int -/
def W.script_reader_int (r : Option Addr) (w : World) (Q : Value → World → Prop) : Prop :=
  Calls Tryz.prog F.script_reader_word #[.pointer r] w fun e2 w1 => ∃ s3 : ByteArray, e2 = .returned (.string s3) ∧
  Calls Tryz.prog F.strconv_Atoi #[.string s3] w1 fun e5 w4 => ∃ n6 : Int, ∃ v7 : Value, e5 = .returned (.tuple #[.int .i64 n6, v7]) ∧
  ∃ a8 : Addr, r = some a8 ∧ ∃ b9 : Bool, w4.cell? (a8.add 1) = some (.bool b9) ∧
  Jn (
    fun k10 : Bool → World → Prop => (b9 = true → ∃ b11 : Bool, ifaceNil v7 = some b11 ∧ k10 b11 w4) ∧
    (b9 = false → k10 false w4))
  (
    fun (b12 : Bool) (w13 : World) => ∃ a14 : Addr, r = some a14 ∧ (∃ u : Value, w13.cell? (a14.add 1) = some u) ∧
    w13.frozen? (a14.add 1) = false ∧ Nx (w13.setCell (a14.add 1) (.bool b12)) fun w15 =>
    Q (.int .i64 n6) w15)
def A.script_reader_int : AT := (.seq (.reg []) (.seq (.reg []) (.seq (.reg [.run, .run, .run, .run, .run, .run, .split 2]) (.seq (.reg []) .leaf))))
theorem W.script_reader_int_eq (r : Option Addr) (w : World) (Q : Value → World → Prop) : W.script_reader_int r w Q = DF Tryz.prog tk A.script_reader_int Tryz.f111 [.pointer r] w Q := by kernel_rfl
theorem W.script_reader_int_ok (r : Option Addr) (w : World) (Q : Value → World → Prop) (h : W.script_reader_int r w Q) : Calls Tryz.prog F.script_reader_int #[.pointer r] w fun e w1 => ∃ v, e = .returned v ∧ Q v w1 :=
  calls_of_DF hmix Tryz.func111 (by kernel_rfl) (Eq.mp (W.script_reader_int_eq r w Q) h)

/-- (*stanchion/script.reader).addr -/
def W.script_reader_addr (r : Option Addr) (w : World) (Q : Value → World → Prop) : Prop :=
  Nx (
    w.alloc (
      .cells #[.bool false, .int .u8 0, .int .u8 0, .int .u8 0, .int .u8 0, .int .u8 0, .int .u8 0, .int .u8 0, .int .u8 0, .int .u8 0, .int .u8 0, .int .u8 0, .int .u8 0, .int .u8 0, .int .u8 0, .int .u8 0, .int .u8 0] Ty.api_Addr)
    )
  fun w1 => Calls Tryz.prog F.script_reader_word #[.pointer r] w1 fun e3 w2 =>
  ∃ s4 : ByteArray, e3 = .returned (.string s4) ∧ Calls Tryz.prog F.addr_Parse #[.string s4] w2 fun e6 w5 =>
  ∃ c7 : Array Value, ∃ b8 : Bool, e6 = .returned (.tuple #[.agg c7, .bool b8]) ∧
  Nx (
    w5.alloc (
      .cells #[.bool false, .int .u8 0, .int .u8 0, .int .u8 0, .int .u8 0, .int .u8 0, .int .u8 0, .int .u8 0, .int .u8 0, .int .u8 0, .int .u8 0, .int .u8 0, .int .u8 0, .int .u8 0, .int .u8 0, .int .u8 0, .int .u8 0] Ty.api_Addr)
    )
  fun w9 => StoreOk w9 ⟨w5.heap.size, 0, none⟩ (Array.toList c7) ∧ Array.size c7 = 17 ∧
  Nx (setCells w9 ⟨w5.heap.size, 0, none⟩ 0 (Array.toList c7)) fun w10 => ∃ a11 : Addr, r = some a11 ∧
  ∃ b12 : Bool, w10.cell? (a11.add 1) = some (.bool b12) ∧ ∃ a13 : Addr, r = some a13 ∧
  (∃ u : Value, w10.cell? (a13.add 1) = some u) ∧ w10.frozen? (a13.add 1) = false ∧
  Nx (w10.setCell (a13.add 1) (.bool (b12 && b8))) fun w14 => ∃ l15 : List Value, rdCells w14 ⟨w5.heap.size, 0, none⟩ 0 17 = some l15 ∧
  StoreOk w14 ⟨w.heap.size, 0, none⟩ (Array.toList l15.toArray) ∧ Array.size l15.toArray = 17 ∧
  Nx (setCells w14 ⟨w.heap.size, 0, none⟩ 0 (Array.toList l15.toArray)) fun w16 =>
  ∃ l17 : List Value, rdCells w16 ⟨w.heap.size, 0, none⟩ 0 17 = some l17 ∧ Q (.agg l17.toArray) w16
def A.script_reader_addr : AT := (.seq (.reg []) (.seq (.reg []) (.seq (.reg [.run, .run, .run, .run, .run, .run, .pure 1]) (.seq (.reg []) .leaf))))
theorem W.script_reader_addr_eq (r : Option Addr) (w : World) (Q : Value → World → Prop) : W.script_reader_addr r w Q = DF Tryz.prog tk A.script_reader_addr Tryz.f112 [.pointer r] w Q := by kernel_rfl
theorem W.script_reader_addr_ok (r : Option Addr) (w : World) (Q : Value → World → Prop) (h : W.script_reader_addr r w Q) : Calls Tryz.prog F.script_reader_addr #[.pointer r] w fun e w1 => ∃ v, e = .returned v ∧ Q v w1 :=
  calls_of_DF hmix Tryz.func112 (by kernel_rfl) (Eq.mp (W.script_reader_addr_eq r w Q) h)

/-- (*stanchion/script.reader).small -/
def W.script_reader_small (r : Option Addr) (bits : Int) (w : World) (Q : Value → World → Prop) : Prop :=
  Calls Tryz.prog F.script_reader_long #[.pointer r] w fun e2 w1 => ∃ n3 : Int, e2 = .returned (.int .u64 n3) ∧
  ∃ a4 : Addr, r = some a4 ∧ ∃ b5 : Bool, w1.cell? (a4.add 1) = some (.bool b5) ∧
  Jn (
    fun k6 : Bool → World → Prop => (
      b5 = true → (0 : Int) ≤ bits ∧ k6 (decide ((n3 : Int) < (IntKind.wrap .u64 (1 * 2 ^ (min (Int.toNat bits) 64))))) w1)
    ∧ (b5 = false → k6 false w1))
  (
    fun (b7 : Bool) (w8 : World) => ∃ a9 : Addr, r = some a9 ∧ (∃ u : Value, w8.cell? (a9.add 1) = some u) ∧
    w8.frozen? (a9.add 1) = false ∧ Nx (w8.setCell (a9.add 1) (.bool b7)) fun w10 =>
    Q (.int .u64 n3) w10)
def A.script_reader_small : AT := (.seq (.reg []) (.seq (.reg []) (.seq (.reg [.run, .run, .run, .run, .run, .run, .split 4]) (.seq (.reg []) .leaf))))
theorem W.script_reader_small_eq (r : Option Addr) (bits : Int) (w : World) (Q : Value → World → Prop) : W.script_reader_small r bits w Q = DF Tryz.prog tk A.script_reader_small Tryz.f113 [.pointer r, .int .i64 bits] w Q := by kernel_rfl
theorem W.script_reader_small_ok (r : Option Addr) (bits : Int) (w : World) (Q : Value → World → Prop) (h : W.script_reader_small r bits w Q) : Calls Tryz.prog F.script_reader_small #[.pointer r, .int .i64 bits] w fun e w1 => ∃ v, e = .returned v ∧ Q v w1 :=
  calls_of_DF hmix Tryz.func113 (by kernel_rfl) (Eq.mp (W.script_reader_small_eq r bits w Q) h)

/-- (*stanchion/script.reader).on -/
def W.script_reader_on (r : Option Addr) (w : World) (Q : Value → World → Prop) : Prop :=
  Calls Tryz.prog F.script_reader_word #[.pointer r] w fun e2 w1 => ∃ s3 : ByteArray, e2 = .returned (.string s3) ∧
  Q (.bool (ByteArray.toList s3 == ByteArray.toList (ByteArray.mk #[111, 110]))) w1
def A.script_reader_on : AT := (.seq (.reg []) (.seq (.reg []) .leaf))
theorem W.script_reader_on_eq (r : Option Addr) (w : World) (Q : Value → World → Prop) : W.script_reader_on r w Q = DF Tryz.prog tk A.script_reader_on Tryz.f114 [.pointer r] w Q := by kernel_rfl
theorem W.script_reader_on_ok (r : Option Addr) (w : World) (Q : Value → World → Prop) (h : W.script_reader_on r w Q) : Calls Tryz.prog F.script_reader_on #[.pointer r] w fun e w1 => ∃ v, e = .returned v ∧ Q v w1 :=
  calls_of_DF hmix Tryz.func114 (by kernel_rfl) (Eq.mp (W.script_reader_on_eq r w Q) h)

/-- stanchion/addr.good -/
def W.addr_good (a : Array Value) (w : World) (Q : Value → World → Prop) : Prop :=
  Nx (w.alloc (.cells a Ty.api_Addr)) fun w1 => ∃ b2 : Bool, w1.cell? ⟨w.heap.size, 0, none⟩ = some (.bool b2) ∧
  Jn (
    fun k3 : Bool → World → Prop => (b2 = true → k3 true w1) ∧ (
      b2 = false → ((0 : Int) ≤ 12 ∧ 12 ≤ ((16 : Nat) : Int)) ∧ 12 ≤ ((Int.toNat 12) - 0) ∧
      ∃ a4 : Addr, (cutA (some (Addr.add ⟨w.heap.size, 0, none⟩ 1)) 1 0 16) = some a4 ∧
      ∃ l5 : List Value, rdCells w1 a4 0 12 = some l5 ∧ ∃ c6 : Array Value, Sem.run Tryz.prog (Instr.build Ty.n12_uint8 #[]) w1 = .ok (.agg c6) w1 ∧
      ∃ b7 : Bool, AggEq Tryz.prog Ty.n12_uint8 l5.toArray c6 b7 ∧ k3 b7 w1)
    )
  (fun (b8 : Bool) (w9 : World) => Q (.bool b8) w9)
def A.addr_good : AT := (.seq (.reg []) (.seq (.reg [.run, .run, .run, .split 6]) .leaf))
theorem W.addr_good_eq (a : Array Value) (w : World) (Q : Value → World → Prop) : W.addr_good a w Q = DF Tryz.prog tk A.addr_good Tryz.f138 [.agg a] w Q := by kernel_rfl
theorem W.addr_good_ok (a : Array Value) (w : World) (Q : Value → World → Prop) (h : W.addr_good a w Q) : Calls Tryz.prog F.addr_good #[.agg a] w fun e w1 => ∃ v, e = .returned v ∧ Q v w1 :=
  calls_of_DF hmix Tryz.func138 (by kernel_rfl) (Eq.mp (W.addr_good_eq a w Q) h)

/-- stanchion/addr.raw -/
def W.addr_raw (a : Array Value) (w : World) (Q : Value → World → Prop) : Prop :=
  Nx (w.alloc (.cells a Ty.api_Addr)) fun w1 => ∃ b2 : Bool, w1.cell? ⟨w.heap.size, 0, none⟩ = some (.bool b2) ∧
  (
    b2 = true → Q (.slice (cutA (some (Addr.add ⟨w.heap.size, 0, none⟩ 1)) 1 0 16) (16 - 0) (16 - 0)) w1)
  ∧ (
    b2 = false → ((0 : Int) ≤ 12 ∧ 12 ≤ ((16 : Nat) : Int)) ∧ Q (
      .slice (cutA (some (Addr.add ⟨w.heap.size, 0, none⟩ 1)) 1 (Int.toNat 12) 16) (16 - (Int.toNat 12)) (16 - (Int.toNat 12)))
    w1)
def A.addr_raw : AT := (.seq (.reg []) (.seq (.seq (.reg []) (.cond (.seq (.reg []) .leaf) .leaf)) (.seq (.reg []) .leaf)))
theorem W.addr_raw_eq (a : Array Value) (w : World) (Q : Value → World → Prop) : W.addr_raw a w Q = DF Tryz.prog tk A.addr_raw Tryz.f139 [.agg a] w Q := by kernel_rfl
theorem W.addr_raw_ok (a : Array Value) (w : World) (Q : Value → World → Prop) (h : W.addr_raw a w Q) : Calls Tryz.prog F.addr_raw #[.agg a] w fun e w1 => ∃ v, e = .returned v ∧ Q v w1 :=
  calls_of_DF hmix Tryz.func139 (by kernel_rfl) (Eq.mp (W.addr_raw_eq a w Q) h)

/-- stanchion/num.Get -/
def W.num_Get (b : Sl) (v_at : Int) (size : Int) (w : World) (Q : Value → World → Prop) : Prop :=
  Calls Tryz.prog F.num_cut #[.slice b.a b.len b.cap, .int .i64 v_at, .int .i64 size] w fun e2 w1 =>
  ∃ s3 : Sl, ∃ b4 : Bool, e2 = .returned (.tuple #[.slice s3.a s3.len s3.cap, .bool b4]) ∧
  Jn (
    fun k5 : Bool → World → Prop => ((!b4) = true → k5 true w1) ∧ (
      (!b4) = false → Calls Tryz.prog F.num_good #[.int .i64 size] w1 fun e7 w6 =>
      ∃ b8 : Bool, e7 = .returned (.bool b8) ∧ k5 (!b8) w6)
    )
  (
    fun (b9 : Bool) (w10 : World) => (b9 = true → Q (.tuple #[.int .u64 0, .bool false]) w10) ∧
    (
      b9 = false → ∃ (I11 : Int → Int → World → Prop) (μ12 : Int → Int → World → Nat), I11 0 0 w10 ∧
      ∀ (n13 : Int) (n14 : Int) (w15 : World), I11 n13 n14 w15 → (
        (decide ((n14 : Int) < ((s3.len : Nat) : Int))) = true → ∃ a16 : Addr, s3.a = some a16 ∧
        ((0 : Int) ≤ n14 ∧ n14 < ((s3.len : Nat) : Int)) ∧ ∃ n17 : Int, w15.cell? (a16.add (Int.toNat n14 * 1)) = some (.int .u8 n17) ∧
        (0 : Int) ≤ 8 ∧ I11 (bOr .u64 (IntKind.wrap .u64 (n13 * 2 ^ (min (Int.toNat 8) 64))) (IntKind.wrap .u64 n17)) (IntKind.wrap .i64 (n14 + 1)) w15 ∧
        μ12 (bOr .u64 (IntKind.wrap .u64 (n13 * 2 ^ (min (Int.toNat 8) 64))) (IntKind.wrap .u64 n17)) (IntKind.wrap .i64 (n14 + 1)) w15 < μ12 n13 n14 w15)
      ∧ (
        (decide ((n14 : Int) < ((s3.len : Nat) : Int))) = false → Q (.tuple #[.int .u64 n13, .bool true]) w15)
      )
    )
def A.num_Get : AT := (.seq (.reg []) (.seq (.reg []) (.seq (.seq (.reg [.run, .run, .run, .split 3]) (.cond (.seq (.reg []) .leaf) .leaf)) (.seq (.reg []) (.seq (.seq (.reg []) (.blk (.loop [(10, (.int .u64)), (29, (.int .i64))] [27, 28] (.seq (.reg []) (.seq (.cond .leaf .leaf) (.seq (.blk (.seq (.reg []) (.reg []))) (.reg []))))))) (.seq (.reg []) .leaf))))))
theorem W.num_Get_eq (b : Sl) (v_at : Int) (size : Int) (w : World) (Q : Value → World → Prop) : W.num_Get b v_at size w Q = DF Tryz.prog tk A.num_Get Tryz.f140 [.slice b.a b.len b.cap, .int .i64 v_at, .int .i64 size] w Q := by kernel_rfl
theorem W.num_Get_ok (b : Sl) (v_at : Int) (size : Int) (w : World) (Q : Value → World → Prop) (h : W.num_Get b v_at size w Q) : Calls Tryz.prog F.num_Get #[.slice b.a b.len b.cap, .int .i64 v_at, .int .i64 size] w fun e w1 => ∃ v, e = .returned v ∧ Q v w1 :=
  calls_of_DF hmix Tryz.func140 (by kernel_rfl) (Eq.mp (W.num_Get_eq b v_at size w Q) h)

/-- stanchion/addr.Parse -/
def W.addr_Parse (s : ByteArray) (w : World) (Q : Value → World → Prop) : Prop :=
  Nx (
    w.alloc (
      .cells #[.bool false, .int .u8 0, .int .u8 0, .int .u8 0, .int .u8 0, .int .u8 0, .int .u8 0, .int .u8 0, .int .u8 0, .int .u8 0, .int .u8 0, .int .u8 0, .int .u8 0, .int .u8 0, .int .u8 0, .int .u8 0, .int .u8 0] Ty.api_Addr)
    )
  fun w1 => Calls Tryz.prog F.addr_parse #[.string s] w1 fun e3 w2 => ∃ c4 : Array Value, ∃ b5 : Bool, e3 = .returned (.tuple #[.agg c4, .bool b5]) ∧
  StoreOk w2 ⟨w.heap.size, 0, none⟩ (Array.toList c4) ∧ Array.size c4 = 17 ∧
  Nx (setCells w2 ⟨w.heap.size, 0, none⟩ 0 (Array.toList c4)) fun w6 => ∃ l7 : List Value, rdCells w6 ⟨w.heap.size, 0, none⟩ 0 17 = some l7 ∧
  Q (.tuple #[.agg l7.toArray, .bool b5]) w6
def A.addr_Parse : AT := (.seq (.reg []) (.seq (.reg []) .leaf))
theorem W.addr_Parse_eq (s : ByteArray) (w : World) (Q : Value → World → Prop) : W.addr_Parse s w Q = DF Tryz.prog tk A.addr_Parse Tryz.f144 [.string s] w Q := by kernel_rfl
theorem W.addr_Parse_ok (s : ByteArray) (w : World) (Q : Value → World → Prop) (h : W.addr_Parse s w Q) : Calls Tryz.prog F.addr_Parse #[.string s] w fun e w1 => ∃ v, e = .returned v ∧ Q v w1 :=
  calls_of_DF hmix Tryz.func144 (by kernel_rfl) (Eq.mp (W.addr_Parse_eq s w Q) h)

/-- stanchion/num.cut -/
def W.num_cut (b : Sl) (v_at : Int) (size : Int) (w : World) (Q : Value → World → Prop) : Prop :=
  (
    (
      (
        ((decide ((v_at : Int) < 0)) || (decide ((size : Int) < 0))) || (decide ((v_at : Int) > ((b.len : Nat) : Int))))
      || (decide ((size : Int) > (IntKind.wrap .i64 (((b.len : Nat) : Int) - v_at)))))
    = true → Q (.tuple #[.slice none 0 0, .bool false]) w)
  ∧ (
    (
      (
        ((decide ((v_at : Int) < 0)) || (decide ((size : Int) < 0))) || (decide ((v_at : Int) > ((b.len : Nat) : Int))))
      || (decide ((size : Int) > (IntKind.wrap .i64 (((b.len : Nat) : Int) - v_at)))))
    = false → (
      (0 : Int) ≤ (IntKind.wrap .i64 (v_at + size)) ∧ (IntKind.wrap .i64 (v_at + size)) ≤ ((b.cap : Nat) : Int))
    ∧ ((0 : Int) ≤ v_at ∧ v_at ≤ (((Int.toNat (IntKind.wrap .i64 (v_at + size))) : Nat) : Int)) ∧
    Q (
      .tuple #[.slice (cutA b.a 1 (Int.toNat v_at) b.cap) ((Int.toNat (IntKind.wrap .i64 (v_at + size))) - (Int.toNat v_at)) (b.cap - (Int.toNat v_at)), .bool true])
    w)
def A.num_cut : AT := (.seq (.reg []) (.seq (.seq (.reg [.run, .run, .run, .pure 2, .run, .run, .run, .pure 4, .run, .run, .run, .run, .run, .pure 6]) (.cond (.seq (.reg []) .leaf) .leaf)) (.seq (.reg []) .leaf)))
theorem W.num_cut_eq (b : Sl) (v_at : Int) (size : Int) (w : World) (Q : Value → World → Prop) : W.num_cut b v_at size w Q = DF Tryz.prog tk A.num_cut Tryz.f161 [.slice b.a b.len b.cap, .int .i64 v_at, .int .i64 size] w Q := by kernel_rfl
theorem W.num_cut_ok (b : Sl) (v_at : Int) (size : Int) (w : World) (Q : Value → World → Prop) (h : W.num_cut b v_at size w Q) : Calls Tryz.prog F.num_cut #[.slice b.a b.len b.cap, .int .i64 v_at, .int .i64 size] w fun e w1 => ∃ v, e = .returned v ∧ Q v w1 :=
  calls_of_DF hmix Tryz.func161 (by kernel_rfl) (Eq.mp (W.num_cut_eq b v_at size w Q) h)

/-- stanchion/num.good -/
def W.num_good (size : Int) (w : World) (Q : Value → World → Prop) : Prop :=
  Q (.bool ((decide ((size : Int) ≥ 1)) && (decide ((size : Int) ≤ 8)))) w
def A.num_good : AT := (.seq (.reg []) (.seq (.reg [.run, .run, .run, .pure 2]) .leaf))
theorem W.num_good_eq (size : Int) (w : World) (Q : Value → World → Prop) : W.num_good size w Q = DF Tryz.prog tk A.num_good Tryz.f162 [.int .i64 size] w Q := by kernel_rfl
theorem W.num_good_ok (size : Int) (w : World) (Q : Value → World → Prop) (h : W.num_good size w Q) : Calls Tryz.prog F.num_good #[.int .i64 size] w fun e w1 => ∃ v, e = .returned v ∧ Q v w1 :=
  calls_of_DF hmix Tryz.func162 (by kernel_rfl) (Eq.mp (W.num_good_eq size w Q) h)

/-- stanchion/addr.parse -/
def W.addr_parse (s : ByteArray) (w : World) (Q : Value → World → Prop) : Prop :=
  Nx (
    w.alloc (
      .cells #[.bool false, .int .u8 0, .int .u8 0, .int .u8 0, .int .u8 0, .int .u8 0, .int .u8 0, .int .u8 0, .int .u8 0, .int .u8 0, .int .u8 0, .int .u8 0, .int .u8 0, .int .u8 0, .int .u8 0, .int .u8 0, .int .u8 0] Ty.api_Addr)
    )
  fun w1 => Jn (
    fun k2 : ByteArray → Int → Int → World → Prop => Calls Tryz.prog F.strings_Contains #[.string s, .string (ByteArray.mk #[58])] w1 fun e4 w3 =>
    ∃ b5 : Bool, e4 = .returned (.bool b5) ∧ (b5 = true → k2 (ByteArray.mk #[58]) 16 2 w3) ∧
    (b5 = false → k2 (ByteArray.mk #[46]) 10 1 w3))
  (
    fun (s6 : ByteArray) (n7 : Int) (n8 : Int) (w9 : World) => Calls Tryz.prog F.addr_numbers #[.string s, .string s6, .int .i64 n7, .int .i64 n8] w9 fun e11 w10 =>
    ∃ s12 : Sl, e11 = .returned (.slice s12.a s12.len s12.cap) ∧ Calls Tryz.prog F.addr_of #[.slice s12.a s12.len s12.cap] w10 fun e14 w13 =>
    ∃ c15 : Array Value, ∃ b16 : Bool, e14 = .returned (.tuple #[.agg c15, .bool b16]) ∧
    Nx (
      w13.alloc (
        .cells #[.bool false, .int .u8 0, .int .u8 0, .int .u8 0, .int .u8 0, .int .u8 0, .int .u8 0, .int .u8 0, .int .u8 0, .int .u8 0, .int .u8 0, .int .u8 0, .int .u8 0, .int .u8 0, .int .u8 0, .int .u8 0, .int .u8 0] Ty.api_Addr)
      )
    fun w17 => StoreOk w17 ⟨w13.heap.size, 0, none⟩ (Array.toList c15) ∧ Array.size c15 = 17 ∧
    Nx (setCells w17 ⟨w13.heap.size, 0, none⟩ 0 (Array.toList c15)) fun w18 =>
    Jn (
      fun k19 : Bool → World → Prop => ((!b16) = true → k19 true w18) ∧ (
        (!b16) = false → ∃ l20 : List Value, rdCells w18 ⟨w13.heap.size, 0, none⟩ 0 17 = some l20 ∧
        Calls Tryz.prog F.addr_show #[.agg l20.toArray] w18 fun e22 w21 => ∃ s23 : ByteArray, e22 = .returned (.string s23) ∧
        k19 (!(ByteArray.toList s23 == ByteArray.toList s)) w21)
      )
    (
      fun (b24 : Bool) (w25 : World) => (
        b24 = true → ∃ c26 : Array Value, Sem.run Tryz.prog (Instr.build Ty.api_Addr #[]) w25 = .ok (.agg c26) w25 ∧
        StoreOk w25 ⟨w.heap.size, 0, none⟩ (Array.toList c26) ∧ Array.size c26 = 17 ∧
        Nx (setCells w25 ⟨w.heap.size, 0, none⟩ 0 (Array.toList c26)) fun w27 => ∃ l28 : List Value, rdCells w27 ⟨w.heap.size, 0, none⟩ 0 17 = some l28 ∧
        Q (.tuple #[.agg l28.toArray, .bool false]) w27)
      ∧ (
        b24 = false → ∃ l29 : List Value, rdCells w25 ⟨w13.heap.size, 0, none⟩ 0 17 = some l29 ∧
        StoreOk w25 ⟨w.heap.size, 0, none⟩ (Array.toList l29.toArray) ∧ Array.size l29.toArray = 17 ∧
        Nx (setCells w25 ⟨w.heap.size, 0, none⟩ 0 (Array.toList l29.toArray)) fun w30 =>
        ∃ l31 : List Value, rdCells w30 ⟨w.heap.size, 0, none⟩ 0 17 = some l31 ∧ Q (.tuple #[.agg l31.toArray, .bool true]) w30)
      )
    )
def A.addr_parse : AT := (.seq (.reg []) (.seq (.reg []) (.seq (.jk [(4, .str), (5, (.int .i64)), (6, (.int .i64))] [0, 2] (.seq (.reg []) (.cond (.reg []) .leaf))) (.seq (.reg []) (.seq (.seq (.reg [.run, .run, .run, .split 4]) (.cond (.seq (.reg []) .leaf) .leaf)) (.seq (.reg []) .leaf))))))
theorem W.addr_parse_eq (s : ByteArray) (w : World) (Q : Value → World → Prop) : W.addr_parse s w Q = DF Tryz.prog tk A.addr_parse Tryz.f167 [.string s] w Q := by kernel_rfl
theorem W.addr_parse_ok (s : ByteArray) (w : World) (Q : Value → World → Prop) (h : W.addr_parse s w Q) : Calls Tryz.prog F.addr_parse #[.string s] w fun e w1 => ∃ v, e = .returned v ∧ Q v w1 :=
  calls_of_DF hmix Tryz.func167 (by kernel_rfl) (Eq.mp (W.addr_parse_eq s w Q) h)

/-- stanchion/addr.of -/
def W.addr_of (b : Sl) (w : World) (Q : Value → World → Prop) : Prop :=
  Nx (
    w.alloc (
      .cells #[.bool false, .int .u8 0, .int .u8 0, .int .u8 0, .int .u8 0, .int .u8 0, .int .u8 0, .int .u8 0, .int .u8 0, .int .u8 0, .int .u8 0, .int .u8 0, .int .u8 0, .int .u8 0, .int .u8 0, .int .u8 0, .int .u8 0] Ty.api_Addr)
    )
  fun w1 => (
    ((((b.len : Nat) : Int) : Int) == 4) = true → Calls Tryz.prog F.addr_last #[.slice b.a b.len b.cap] w1 fun e3 w2 =>
    ∃ c4 : Array Value, e3 = .returned (.agg c4) ∧ StoreOk w2 ⟨w.heap.size, 0, none⟩ (Array.toList c4) ∧
    Array.size c4 = 17 ∧ Nx (setCells w2 ⟨w.heap.size, 0, none⟩ 0 (Array.toList c4)) fun w5 =>
    ∃ l6 : List Value, rdCells w5 ⟨w.heap.size, 0, none⟩ 0 17 = some l6 ∧ Q (.tuple #[.agg l6.toArray, .bool true]) w5)
  ∧ (
    ((((b.len : Nat) : Int) : Int) == 4) = false → (
      ((((b.len : Nat) : Int) : Int) == 16) = true → 16 ≤ b.len ∧ ∃ a7 : Addr, b.a = some a7 ∧
      ∃ l8 : List Value, rdCells w1 a7 0 16 = some l8 ∧ ∃ c9 : Array Value, Sem.run Tryz.prog (Instr.build Ty.api_Addr #[(0, .bool true), (1, .agg l8.toArray)]) w1 = .ok (.agg c9) w1 ∧
      StoreOk w1 ⟨w.heap.size, 0, none⟩ (Array.toList c9) ∧ Array.size c9 = 17 ∧
      Nx (setCells w1 ⟨w.heap.size, 0, none⟩ 0 (Array.toList c9)) fun w10 => ∃ l11 : List Value, rdCells w10 ⟨w.heap.size, 0, none⟩ 0 17 = some l11 ∧
      Q (.tuple #[.agg l11.toArray, .bool true]) w10)
    ∧ (
      ((((b.len : Nat) : Int) : Int) == 16) = false → ∃ c12 : Array Value, Sem.run Tryz.prog (Instr.build Ty.api_Addr #[]) w1 = .ok (.agg c12) w1 ∧
      StoreOk w1 ⟨w.heap.size, 0, none⟩ (Array.toList c12) ∧ Array.size c12 = 17 ∧
      Nx (setCells w1 ⟨w.heap.size, 0, none⟩ 0 (Array.toList c12)) fun w13 => ∃ l14 : List Value, rdCells w13 ⟨w.heap.size, 0, none⟩ 0 17 = some l14 ∧
      Q (.tuple #[.agg l14.toArray, .bool false]) w13)
    )
def A.addr_of : AT := (.seq (.reg []) (.seq (.seq (.reg []) (.blk (.seq (.reg []) (.cond (.seq (.reg []) .leaf) (.seq (.reg []) (.cond (.seq (.reg []) .leaf) .leaf)))))) (.seq (.reg []) .leaf)))
theorem W.addr_of_eq (b : Sl) (w : World) (Q : Value → World → Prop) : W.addr_of b w Q = DF Tryz.prog tk A.addr_of Tryz.f196 [.slice b.a b.len b.cap] w Q := by kernel_rfl
theorem W.addr_of_ok (b : Sl) (w : World) (Q : Value → World → Prop) (h : W.addr_of b w Q) : Calls Tryz.prog F.addr_of #[.slice b.a b.len b.cap] w fun e w1 => ∃ v, e = .returned v ∧ Q v w1 :=
  calls_of_DF hmix Tryz.func196 (by kernel_rfl) (Eq.mp (W.addr_of_eq b w Q) h)

/-- stanchion/addr.numbers -/
def W.addr_numbers (s : ByteArray) (sign : ByteArray) (base : Int) (size : Int) (w : World) (Q : Value → World → Prop) : Prop :=
  Calls Tryz.prog F.strings_Split #[.string s, .string sign] w fun e2 w1 => ∃ s3 : Sl, e2 = .returned (.slice s3.a s3.len s3.cap) ∧
  ∃ (I4 : Sl → Int → World → Prop) (μ5 : Sl → Int → World → Nat), I4 ⟨none, 0, 0⟩ 0 w1 ∧
  ∀ (s6 : Sl) (n7 : Int) (w8 : World), I4 s6 n7 w8 → (
    (decide ((n7 : Int) < ((s3.len : Nat) : Int))) = true → ∃ a9 : Addr, s3.a = some a9 ∧
    ((0 : Int) ≤ n7 ∧ n7 < ((s3.len : Nat) : Int)) ∧ ∃ s10 : ByteArray, w8.cell? (a9.add (Int.toNat n7 * 1)) = some (.string s10) ∧
    Calls Tryz.prog F.strconv_ParseUint #[.string s10, .int .i64 base, .int .i64 (IntKind.wrap .i64 (8 * size))] w8 fun e12 w11 =>
    ∃ n13 : Int, ∃ v14 : Value, e12 = .returned (.tuple #[.int .u64 n13, v14]) ∧
    ∃ b15 : Bool, ifaceNil v14 = some b15 ∧ ((!b15) = true → Q (.slice none 0 0) w11) ∧
    (
      (!b15) = false → Calls Tryz.prog F.num_Put #[.slice s6.a s6.len s6.cap, .int .u64 n13, .int .i64 size] w11 fun e17 w16 =>
      ∃ s18 : Sl, e17 = .returned (.slice s18.a s18.len s18.cap) ∧ I4 s18 (IntKind.wrap .i64 (n7 + 1)) w16 ∧
      μ5 s18 (IntKind.wrap .i64 (n7 + 1)) w16 < μ5 s6 n7 w8)
    )
  ∧ ((decide ((n7 : Int) < ((s3.len : Nat) : Int))) = false → Q (.slice s6.a s6.len s6.cap) w8)
def A.addr_numbers : AT := (.seq (.reg []) (.seq (.reg []) (.seq (.seq (.reg []) (.blk (.loop [(9, .slice), (18, (.int .i64))] [2, 3, 16, 17] (.seq (.reg []) (.seq (.cond .leaf .leaf) (.seq (.blk (.seq (.reg []) (.seq (.reg []) (.seq (.seq (.reg []) (.cond (.seq (.reg []) .leaf) .leaf)) (.reg []))))) (.reg []))))))) (.seq (.reg []) .leaf))))
theorem W.addr_numbers_eq (s : ByteArray) (sign : ByteArray) (base : Int) (size : Int) (w : World) (Q : Value → World → Prop) : W.addr_numbers s sign base size w Q = DF Tryz.prog tk A.addr_numbers Tryz.f197 [.string s, .string sign, .int .i64 base, .int .i64 size] w Q := by kernel_rfl
theorem W.addr_numbers_ok (s : ByteArray) (sign : ByteArray) (base : Int) (size : Int) (w : World) (Q : Value → World → Prop) (h : W.addr_numbers s sign base size w Q) : Calls Tryz.prog F.addr_numbers #[.string s, .string sign, .int .i64 base, .int .i64 size] w fun e w1 => ∃ v, e = .returned v ∧ Q v w1 :=
  calls_of_DF hmix Tryz.func197 (by kernel_rfl) (Eq.mp (W.addr_numbers_eq s sign base size w Q) h)

/-- stanchion/addr.last -/
def W.addr_last (b : Sl) (w : World) (Q : Value → World → Prop) : Prop :=
  Nx (
    w.alloc (
      .cells #[.bool false, .int .u8 0, .int .u8 0, .int .u8 0, .int .u8 0, .int .u8 0, .int .u8 0, .int .u8 0, .int .u8 0, .int .u8 0, .int .u8 0, .int .u8 0, .int .u8 0, .int .u8 0, .int .u8 0, .int .u8 0, .int .u8 0] Ty.api_Addr)
    )
  fun w1 => ((0 : Int) ≤ 12 ∧ 12 ≤ ((16 : Nat) : Int)) ∧ ∃ n2 : Int, ∃ w3 : World, Sem.run Tryz.prog (
    Builtin.copy_ #[Ty.Sl_uint8, Ty.Sl_uint8] Ty.int #[.slice (cutA (some (Addr.add ⟨w.heap.size, 0, none⟩ 1)) 1 (Int.toNat 12) 16) (16 - (Int.toNat 12)) (16 - (Int.toNat 12)), .slice b.a b.len b.cap])
  w1 = .ok (.int .i64 n2) w3 ∧ ∃ l4 : List Value, rdCells w3 ⟨w.heap.size, 0, none⟩ 0 17 = some l4 ∧
  StoreOk w3 ⟨w.heap.size, 0, none⟩ (Array.toList l4.toArray) ∧ Array.size l4.toArray = 17 ∧
  Nx (setCells w3 ⟨w.heap.size, 0, none⟩ 0 (Array.toList l4.toArray)) fun w5 =>
  ∃ l6 : List Value, rdCells w5 ⟨w.heap.size, 0, none⟩ 0 17 = some l6 ∧ Q (.agg l6.toArray) w5
def A.addr_last : AT := (.seq (.reg []) (.seq (.reg []) (.seq (.reg []) .leaf)))
theorem W.addr_last_eq (b : Sl) (w : World) (Q : Value → World → Prop) : W.addr_last b w Q = DF Tryz.prog tk A.addr_last Tryz.f208 [.slice b.a b.len b.cap] w Q := by kernel_rfl
theorem W.addr_last_ok (b : Sl) (w : World) (Q : Value → World → Prop) (h : W.addr_last b w Q) : Calls Tryz.prog F.addr_last #[.slice b.a b.len b.cap] w fun e w1 => ∃ v, e = .returned v ∧ Q v w1 :=
  calls_of_DF hmix Tryz.func208 (by kernel_rfl) (Eq.mp (W.addr_last_eq b w Q) h)

/-- stanchion/num.Put -/
def W.num_Put (b : Sl) (n : Int) (size : Int) (w : World) (Q : Value → World → Prop) : Prop :=
  Calls Tryz.prog F.slices_Clone_Sl_byte_byte #[.slice b.a b.len b.cap] w fun e2 w1 =>
  ∃ s3 : Sl, e2 = .returned (.slice s3.a s3.len s3.cap) ∧ Calls Tryz.prog F.num_good #[.int .i64 size] w1 fun e5 w4 =>
  ∃ b6 : Bool, e5 = .returned (.bool b6) ∧ ((!b6) = true → Q (.slice s3.a s3.len s3.cap) w4) ∧
  (
    (!b6) = false → ∃ (I7 : Sl → Int → World → Prop) (μ8 : Sl → Int → World → Nat), I7 s3 (IntKind.wrap .i64 (size - 1)) w4 ∧
    ∀ (s9 : Sl) (n10 : Int) (w11 : World), I7 s9 n10 w11 → (
      (decide ((n10 : Int) ≥ 0)) = true → (0 : Int) ≤ (IntKind.wrap .i64 (8 * n10)) ∧
      Nx (
        w11.alloc (
          .cells #[.int .u8 (IntKind.wrap .u8 (Int.fdiv n (2 ^ (min (Int.toNat (IntKind.wrap .i64 (8 * n10))) 64))))] Ty.uint8)
        )
      fun w12 => ∃ s13 : Sl, ∃ w14 : World, Sem.run Tryz.prog (
        Builtin.append_ #[Ty.Sl_uint8, Ty.Sl_uint8] Ty.Sl_uint8 #[.slice s9.a s9.len s9.cap, .slice (some ⟨w11.heap.size, 0, none⟩) 1 1])
      w12 = .ok (.slice s13.a s13.len s13.cap) w14 ∧ I7 s13 (IntKind.wrap .i64 (n10 - 1)) w14 ∧
      μ8 s13 (IntKind.wrap .i64 (n10 - 1)) w14 < μ8 s9 n10 w11)
    ∧ ((decide ((n10 : Int) ≥ 0)) = false → Q (.slice s9.a s9.len s9.cap) w11))
def A.num_Put : AT := (.seq (.reg []) (.seq (.reg []) (.seq (.seq (.reg []) (.cond (.seq (.reg []) .leaf) .leaf)) (.seq (.seq (.reg []) (.blk (.loop [(7, .slice), (8, (.int .i64))] [1] (.seq (.seq (.reg []) (.cond .leaf .leaf)) (.seq (.blk (.reg [])) (.reg [])))))) (.seq (.reg []) .leaf)))))
theorem W.num_Put_eq (b : Sl) (n : Int) (size : Int) (w : World) (Q : Value → World → Prop) : W.num_Put b n size w Q = DF Tryz.prog tk A.num_Put Tryz.f209 [.slice b.a b.len b.cap, .int .u64 n, .int .i64 size] w Q := by kernel_rfl
theorem W.num_Put_ok (b : Sl) (n : Int) (size : Int) (w : World) (Q : Value → World → Prop) (h : W.num_Put b n size w Q) : Calls Tryz.prog F.num_Put #[.slice b.a b.len b.cap, .int .u64 n, .int .i64 size] w fun e w1 => ∃ v, e = .returned v ∧ Q v w1 :=
  calls_of_DF hmix Tryz.func209 (by kernel_rfl) (Eq.mp (W.num_Put_eq b n size w Q) h)

end Go.Proofs.YtgljoledlhmhnaaGreatDoor


namespace Go.Proofs.YtgljoledlhmhnaaGreatDoor
open Go Gx
set_option maxRecDepth 100000
/-- stanchion/stanchionlaw29.ScriptLong -/
def W.law29_ScriptLong (n : Int) (w : World) (Q : Value → World → Prop) : Prop :=
  (20 : Int) ≠ 0 ∧ ∃ s1 : Sl, ∃ w2 : World, Sem.run Tryz.prog (Instr.buildSlice Ty.Sl_api_Op 0 #[]) w = .ok (.slice s1.a s1.len s1.cap) w2 ∧
  ∃ (I3 : Sl → ByteArray → Int → World → Prop) (μ4 : Sl → ByteArray → Int → World → Nat), I3 s1 (ByteArray.mk #[]) 0 w2 ∧
  ∀ (s5 : Sl) (s6 : ByteArray) (n7 : Int) (w8 : World), I3 s5 s6 n7 w8 → (
    (decide ((n7 : Int) < (IntKind.wrap .i64 (990 + (IntKind.wrap .i64 (Int.tmod n 20)))))) = true →
    ∃ c9 : Array Value, Sem.run Tryz.prog (Instr.build Ty.api_Op #[(0, .int .i64 10)]) w8 = .ok (.agg c9) w8 ∧
    ∃ s10 : Sl, ∃ w11 : World, Sem.run Tryz.prog (Instr.buildSlice Ty.Sl_api_Op 1 #[(0, .agg c9)]) w8 = .ok (.slice s10.a s10.len s10.cap) w11 ∧
    ∃ s12 : Sl, ∃ w13 : World, Sem.run Tryz.prog (
      Builtin.append_ #[Ty.Sl_api_Op, Ty.Sl_api_Op] Ty.Sl_api_Op #[.slice s5.a s5.len s5.cap, .slice s10.a s10.len s10.cap])
    w11 = .ok (.slice s12.a s12.len s12.cap) w13 ∧ ((ByteArray.size s6 + ByteArray.size (ByteArray.mk #[115, 121, 110, 99, 10]) : Nat) : Int) ≤ 9223372036854775807 ∧
    I3 s12 (s6 ++ (ByteArray.mk #[115, 121, 110, 99, 10])) (IntKind.wrap .i64 (n7 + 1)) w13 ∧
    μ4 s12 (s6 ++ (ByteArray.mk #[115, 121, 110, 99, 10])) (IntKind.wrap .i64 (n7 + 1)) w13 < μ4 s5 s6 n7 w8)
  ∧ (
    (decide ((n7 : Int) < (IntKind.wrap .i64 (990 + (IntKind.wrap .i64 (Int.tmod n 20)))))) = false →
    Calls Tryz.prog F.script_Print #[.slice s5.a s5.len s5.cap] w8 fun e15 w14 =>
    ∃ s16 : ByteArray, ∃ n17 : Int, e15 = .returned (.tuple #[.string s16, .int .i64 n17]) ∧
    Calls Tryz.prog F.script_Read #[.string s6] w14 fun e19 w18 => ∃ s20 : Sl, ∃ n21 : Int, ∃ n22 : Int, e19 = .returned (.tuple #[.slice s20.a s20.len s20.cap, .int .i64 n21, .int .i64 n22]) ∧
    (
      (decide (((IntKind.wrap .i64 (990 + (IntKind.wrap .i64 (Int.tmod n 20)))) : Int) > 1000)) = true →
      Jn (
        fun k23 : Bool → World → Prop => (
          (
            (
              ((ByteArray.toList s16 == ByteArray.toList (ByteArray.mk #[])) && ((n17 : Int) == 10)) && ((((s20.len : Nat) : Int) : Int) == 0))
            && ((n22 : Int) == 10))
          = true → Calls Tryz.prog F.law29_lives #[] w18 fun e25 w24 => ∃ b26 : Bool, e25 = .returned (.bool b26) ∧
          k23 b26 w24)
        ∧ (
          (
            (
              ((ByteArray.toList s16 == ByteArray.toList (ByteArray.mk #[])) && ((n17 : Int) == 10)) && ((((s20.len : Nat) : Int) : Int) == 0))
            && ((n22 : Int) == 10))
          = false → k23 false w18)
        )
      (fun (b27 : Bool) (w28 : World) => Q (.bool b27) w28))
    ∧ (
      (decide (((IntKind.wrap .i64 (990 + (IntKind.wrap .i64 (Int.tmod n 20)))) : Int) > 1000)) = false →
      Jn (
        fun k29 : Bool → World → Prop => (
          (
            (
              ((ByteArray.toList s16 == ByteArray.toList s6) && ((n17 : Int) == 0)) && ((((s20.len : Nat) : Int) : Int) == (IntKind.wrap .i64 (990 + (IntKind.wrap .i64 (Int.tmod n 20))))))
            && ((n22 : Int) == 0))
          = true → Calls Tryz.prog F.law29_lives #[] w18 fun e31 w30 => ∃ b32 : Bool, e31 = .returned (.bool b32) ∧
          k29 b32 w30)
        ∧ (
          (
            (
              ((ByteArray.toList s16 == ByteArray.toList s6) && ((n17 : Int) == 0)) && ((((s20.len : Nat) : Int) : Int) == (IntKind.wrap .i64 (990 + (IntKind.wrap .i64 (Int.tmod n 20))))))
            && ((n22 : Int) == 0))
          = false → k29 false w18)
        )
      (fun (b33 : Bool) (w34 : World) => Q (.bool b33) w34))
    )
def A.law29_ScriptLong : AT := (.seq (.reg []) (.seq (.reg []) (.seq (.reg []) (.seq (.seq (.reg []) (.blk (.loop [(4, .slice), (5, .str), (6, (.int .i64))] [3] (.seq (.seq (.reg []) (.cond .leaf .leaf)) (.seq (.blk (.reg [])) (.reg [])))))) (.seq (.reg []) (.seq (.reg []) (.seq (.seq (.reg []) (.cond (.seq (.reg [.run, .run, .run, .pure 2, .run, .run, .run, .pure 3, .run, .run, .run, .run, .pure 2, .run, .run, .run, .split 1]) .leaf) .leaf)) (.seq (.reg [.run, .run, .run, .run, .pure 2, .run, .run, .run, .pure 4, .run, .run, .run, .run, .run, .pure 2, .run, .run, .run, .split 1]) .leaf))))))))
theorem W.law29_ScriptLong_eq (n : Int) (w : World) (Q : Value → World → Prop) : W.law29_ScriptLong n w Q = DF Tryz.prog tk A.law29_ScriptLong Tryz.f7 [.int .u8 n] w Q := by kernel_rfl
theorem W.law29_ScriptLong_ok (n : Int) (w : World) (Q : Value → World → Prop) (h : W.law29_ScriptLong n w Q) : Calls Tryz.prog F.law29_ScriptLong #[.int .u8 n] w fun e w1 => ∃ v, e = .returned v ∧ Q v w1 :=
  calls_of_DF hmix Tryz.func7 (by kernel_rfl) (Eq.mp (W.law29_ScriptLong_eq n w Q) h)

/-- stanchion/stanchionlaw29.lives -/
def W.law29_lives  (w : World) (Q : Value → World → Prop) : Prop :=
  Calls Tryz.prog F.script_Parse #[.string (ByteArray.mk #[100, 114, 97, 105, 110, 32, 49, 32, 50, 32, 111, 110])] w fun e2 w1 =>
  ∃ c3 : Array Value, ∃ b4 : Bool, e2 = .returned (.tuple #[.agg c3, .bool b4]) ∧
  Nx (
    w1.alloc (
      .cells #[.int .i64 0, .slice none 0 0, .int .i64 0, .int .i64 0, .int .u64 0, .bool false, .int .i64 0, .bool false, .int .u8 0, .int .u8 0, .int .u8 0, .int .u8 0, .int .u8 0, .int .u8 0, .int .u8 0, .int .u8 0, .int .u8 0, .int .u8 0, .int .u8 0, .int .u8 0, .int .u8 0, .int .u8 0, .int .u8 0, .int .u8 0, .int .u16 0, .int .u8 0, .int .i64 0, .int .u64 0, .slice none 0 0, .int .i64 0, .bool false, .int .u8 0, .int .u8 0, .int .u8 0, .int .u8 0, .int .u8 0, .int .u8 0, .int .u8 0, .int .u8 0, .int .u8 0, .int .u8 0, .int .u8 0, .int .u8 0, .int .u8 0, .int .u8 0, .int .u8 0, .int .u8 0, .int .u16 0, .int .i64 0, .bool false, .slice none 0 0] Ty.api_Op)
    )
  fun w5 => StoreOk w5 ⟨w1.heap.size, 0, none⟩ (Array.toList c3) ∧ Array.size c3 = 51 ∧
  Nx (setCells w5 ⟨w1.heap.size, 0, none⟩ 0 (Array.toList c3)) fun w6 => Jn (
    fun k7 : Bool → World → Prop => (
      b4 = true → ∃ n8 : Int, w6.cell? ⟨w1.heap.size, 0, none⟩ = some (.int .i64 n8) ∧
      k7 ((n8 : Int) == 7) w6)
    ∧ (b4 = false → k7 false w6))
  (
    fun (b9 : Bool) (w10 : World) => Jn (
      fun k11 : Bool → World → Prop => (
        b9 = true → ∃ b12 : Bool, w10.cell? (Addr.add ⟨w1.heap.size, 0, none⟩ 5) = some (.bool b12) ∧
        k11 b12 w10)
      ∧ (b9 = false → k11 false w10))
    (
      fun (b13 : Bool) (w14 : World) => Jn (
        fun k15 : Bool → World → Prop => (
          b13 = true → ∃ l16 : List Value, rdCells w14 ⟨w1.heap.size, 0, none⟩ 0 51 = some l16 ∧
          Calls Tryz.prog F.script_Show #[.agg l16.toArray] w14 fun e18 w17 => ∃ s19 : ByteArray, e18 = .returned (.string s19) ∧
          k15 (
            ByteArray.toList s19 == ByteArray.toList (ByteArray.mk #[100, 114, 97, 105, 110, 32, 49, 32, 50, 32, 111, 110]))
          w17)
        ∧ (b13 = false → k15 false w14))
      (fun (b20 : Bool) (w21 : World) => Q (.bool b20) w21))
    )
def A.law29_lives : AT := (.seq (.reg []) (.seq (.reg []) (.seq (.reg [.run, .run, .split 3, .run, .run, .run, .run, .split 2, .run, .run, .run, .split 3]) .leaf)))
theorem W.law29_lives_eq  (w : World) (Q : Value → World → Prop) : W.law29_lives  w Q = DF Tryz.prog tk A.law29_lives Tryz.f14 [] w Q := by kernel_rfl
theorem W.law29_lives_ok  (w : World) (Q : Value → World → Prop) (h : W.law29_lives  w Q) : Calls Tryz.prog F.law29_lives #[] w fun e w1 => ∃ v, e = .returned v ∧ Q v w1 :=
  calls_of_DF hmix Tryz.func14 (by kernel_rfl) (Eq.mp (W.law29_lives_eq  w Q) h)

end Go.Proofs.YtgljoledlhmhnaaGreatDoor

