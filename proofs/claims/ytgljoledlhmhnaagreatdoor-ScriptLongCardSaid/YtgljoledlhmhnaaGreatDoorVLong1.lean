/- Printed by gen.py: functions of the program, each as what must be shown of it. -/
import Derived.Test.YtgljoledlhmhnaaGreatDoorGb
namespace Go.Proofs.YtgljoledlhmhnaaGreatDoor
open Go Gx
set_option maxRecDepth 100000
/-- strings.Count -/
def W.strings_Count (s : ByteArray) (substr : ByteArray) (w : World) (Q : Value → World → Prop) : Prop :=
  (
    ((((ByteArray.size substr : Nat) : Int) : Int) == 0) = true → Calls Tryz.prog F.unicode_utf8_RuneCountInString #[.string s] w fun e2 w1 =>
    ∃ n3 : Int, e2 = .returned (.int .i64 n3) ∧ Q (.int .i64 (IntKind.wrap .i64 (n3 + 1))) w1)
  ∧ (
    ((((ByteArray.size substr : Nat) : Int) : Int) == 0) = false → (
      ((((ByteArray.size substr : Nat) : Int) : Int) == 1) = true → (0 : Int) ≤ 0 ∧
      ∃ b4 : UInt8, byteAt substr (Int.toNat 0) = some b4 ∧ ∃ n5 : Int, ∃ w6 : World, Sem.run Tryz.prog (callFunc F.internal_bytealg_CountString #[.string s, .int .u8 ((b4.toNat : Nat) : Int)]) w = .ok (.value (.int .i64 n5)) w6 ∧
      Q (.int .i64 n5) w6)
    ∧ (
      ((((ByteArray.size substr : Nat) : Int) : Int) == 1) = false → ∃ (I7 : ByteArray → Int → World → Prop) (μ8 : ByteArray → Int → World → Nat), I7 s 0 w ∧
      ∀ (s9 : ByteArray) (n10 : Int) (w11 : World), I7 s9 n10 w11 → Calls Tryz.prog F.strings_Index #[.string s9, .string substr] w11 fun e13 w12 =>
      ∃ n14 : Int, e13 = .returned (.int .i64 n14) ∧ (((n14 : Int) == (-1)) = true → Q (.int .i64 n10) w12) ∧
      (
        ((n14 : Int) == (-1)) = false → (
          (0 : Int) ≤ (IntKind.wrap .i64 (n14 + ((ByteArray.size substr : Nat) : Int))) ∧
          (IntKind.wrap .i64 (n14 + ((ByteArray.size substr : Nat) : Int))) ≤ (((ByteArray.size s9) : Nat) : Int))
        ∧ I7 (
          ByteArray.extract s9 (Int.toNat (IntKind.wrap .i64 (n14 + ((ByteArray.size substr : Nat) : Int)))) (ByteArray.size s9))
        (IntKind.wrap .i64 (n10 + 1)) w12 ∧ μ8 (
          ByteArray.extract s9 (Int.toNat (IntKind.wrap .i64 (n14 + ((ByteArray.size substr : Nat) : Int)))) (ByteArray.size s9))
        (IntKind.wrap .i64 (n10 + 1)) w12 < μ8 s9 n10 w11)
      )
    )
def A.strings_Count : AT := (.seq (.reg []) (.seq (.seq (.reg []) (.cond (.seq (.reg []) .leaf) .leaf)) (.seq (.seq (.reg []) (.cond (.seq (.reg []) .leaf) .leaf)) (.seq (.reg []) (.blk (.loop [(0, .str), (5, (.int .i64))] [1] (.blk (.seq (.reg []) (.seq (.seq (.reg []) (.cond (.seq (.reg []) .leaf) .leaf)) (.seq (.reg []) (.reg [])))))))))))
theorem W.strings_Count_eq (s : ByteArray) (substr : ByteArray) (w : World) (Q : Value → World → Prop) : W.strings_Count s substr w Q = DF Tryz.prog tk A.strings_Count Tryz.f38 [.string s, .string substr] w Q := by kernel_rfl
theorem W.strings_Count_ok (s : ByteArray) (substr : ByteArray) (w : World) (Q : Value → World → Prop) (h : W.strings_Count s substr w Q) : Calls Tryz.prog F.strings_Count #[.string s, .string substr] w fun e w1 => ∃ v, e = .returned v ∧ Q v w1 :=
  calls_of_DF hmix Tryz.func38 (by kernel_rfl) (Eq.mp (W.strings_Count_eq s substr w Q) h)

/-- strings.Cut -/
def W.strings_Cut (s : ByteArray) (sep : ByteArray) (w : World) (Q : Value → World → Prop) : Prop :=
  Calls Tryz.prog F.internal_stringslite_Cut #[.string s, .string sep] w fun e2 w1 =>
  ∃ s3 : ByteArray, ∃ s4 : ByteArray, ∃ b5 : Bool, e2 = .returned (.tuple #[.string s3, .string s4, .bool b5]) ∧
  Q (.tuple #[.string s3, .string s4, .bool b5]) w1
def A.strings_Cut : AT := (.seq (.reg []) (.seq (.reg []) .leaf))
theorem W.strings_Cut_eq (s : ByteArray) (sep : ByteArray) (w : World) (Q : Value → World → Prop) : W.strings_Cut s sep w Q = DF Tryz.prog tk A.strings_Cut Tryz.f39 [.string s, .string sep] w Q := by kernel_rfl
theorem W.strings_Cut_ok (s : ByteArray) (sep : ByteArray) (w : World) (Q : Value → World → Prop) (h : W.strings_Cut s sep w Q) : Calls Tryz.prog F.strings_Cut #[.string s, .string sep] w fun e w1 => ∃ v, e = .returned v ∧ Q v w1 :=
  calls_of_DF hmix Tryz.func39 (by kernel_rfl) (Eq.mp (W.strings_Cut_eq s sep w Q) h)

/-- (*strings.Builder).WriteString -/
def W.strings_Builder_WriteString (b : Option Addr) (s : ByteArray) (w : World) (Q : Value → World → Prop) : Prop :=
  Calls Tryz.prog F.strings_Builder_copyCheck #[.pointer b] w fun e2 w1 => e2 = .returned (.tuple #[]) ∧
  ∃ a3 : Addr, b = some a3 ∧ ∃ s4 : Sl, w1.cell? (a3.add 1) = some (.slice s4.a s4.len s4.cap) ∧
  ∃ s5 : Sl, ∃ w6 : World, Sem.run Tryz.prog (Builtin.append_ #[Ty.Sl_uint8, Ty.string] Ty.Sl_uint8 #[.slice s4.a s4.len s4.cap, .string s]) w1 = .ok (.slice s5.a s5.len s5.cap) w6 ∧
  ∃ a7 : Addr, b = some a7 ∧ (∃ u : Value, w6.cell? (a7.add 1) = some u) ∧ w6.frozen? (a7.add 1) = false ∧
  Nx (w6.setCell (a7.add 1) (.slice s5.a s5.len s5.cap)) fun w8 => Q (.tuple #[.int .i64 ((ByteArray.size s : Nat) : Int), .nilIface]) w8
def A.strings_Builder_WriteString : AT := (.seq (.reg []) (.seq (.reg []) (.seq (.reg []) (.seq (.reg []) .leaf))))
theorem W.strings_Builder_WriteString_eq (b : Option Addr) (s : ByteArray) (w : World) (Q : Value → World → Prop) : W.strings_Builder_WriteString b s w Q = DF Tryz.prog tk A.strings_Builder_WriteString Tryz.f40 [.pointer b, .string s] w Q := by kernel_rfl
theorem W.strings_Builder_WriteString_ok (b : Option Addr) (s : ByteArray) (w : World) (Q : Value → World → Prop) (h : W.strings_Builder_WriteString b s w Q) : Calls Tryz.prog F.strings_Builder_WriteString #[.pointer b, .string s] w fun e w1 => ∃ v, e = .returned v ∧ Q v w1 :=
  calls_of_DF hmix Tryz.func40 (by kernel_rfl) (Eq.mp (W.strings_Builder_WriteString_eq b s w Q) h)

/-- (*strings.Builder).String -/
def W.strings_Builder_String (b : Option Addr) (w : World) (Q : Value → World → Prop) : Prop :=
  Nx (w.drew) fun w1 => ∃ W2 : Nat → Prop, ∃ a3 : Addr, b = some a3 ∧ ¬ W2 (a3.add 1).block ∧
  ∃ s4 : Sl, w1.cell? (a3.add 1) = some (.slice s4.a s4.len s4.cap) ∧ ∃ a5 : Addr, b = some a5 ∧
  ¬ W2 (a5.add 1).block ∧ ∃ s6 : Sl, w1.cell? (a5.add 1) = some (.slice s6.a s6.len s6.cap) ∧
  ∃ p7 : Option Addr, ∃ w8 : World, Sem.run Tryz.prog (Builtin.unsafeSliceData_ #[Ty.Sl_uint8] Ty.P_uint8 #[.slice s4.a s4.len s4.cap]) w1 = .ok (.pointer p7) w8 ∧
  Chg W2 w1 w8 ∧ ∃ s9 : ByteArray, ∃ w10 : World, Sem.run Tryz.prog (
    Builtin.unsafeString_ #[Ty.P_uint8, Ty.int] Ty.string #[.pointer p7, .int .i64 ((s6.len : Nat) : Int)])
  w8 = .ok (.string s9) w10 ∧ Q (.string s9) w10
def A.strings_Builder_String : AT := (.seq (.reg []) (.seq (.drw 10 true ⟨[0, 1, 2, 4, 8, 0, 32, 64, 128, 256, 528, 2047], [0, 1, 2, 4, 8, 0, 32, 64, 128, 256, 528, 1024]⟩ [8, 16, 32, 64, 128, 256, 512, 1024, 2048, 4096, 8192, 4] [1, 8, 16, 32, 64, 1, 256, 512, 1024, 2048, 4224, 8192] (.take 0 (.take 1 (.take 2 (.take 3 (.take 5 (.take 6 (.take 7 (.take 8 (.take 9 (.eff 4 (.tail [.run, .run])))))))))))) .leaf))
theorem W.strings_Builder_String_eq (b : Option Addr) (w : World) (Q : Value → World → Prop) : W.strings_Builder_String b w Q = DF Tryz.prog tk A.strings_Builder_String Tryz.f41 [.pointer b] w Q := by kernel_rfl
theorem W.strings_Builder_String_ok (b : Option Addr) (w : World) (Q : Value → World → Prop) (h : W.strings_Builder_String b w Q) : Calls Tryz.prog F.strings_Builder_String #[.pointer b] w fun e w1 => ∃ v, e = .returned v ∧ Q v w1 :=
  calls_of_DF hmix Tryz.func41 (by kernel_rfl) (Eq.mp (W.strings_Builder_String_eq b w Q) h)

/-- strings.Join -/
def W.strings_Join (elems : Sl) (sep : ByteArray) (w : World) (Q : Value → World → Prop) : Prop :=
  (((((elems.len : Nat) : Int) : Int) == 0) = true → Q (.string (ByteArray.mk #[])) w) ∧
  (
    ((((elems.len : Nat) : Int) : Int) == 0) = false → (
      ((((elems.len : Nat) : Int) : Int) == 1) = true → ∃ a1 : Addr, elems.a = some a1 ∧
      ((0 : Int) ≤ 0 ∧ 0 < ((elems.len : Nat) : Int)) ∧ ∃ s2 : ByteArray, w.cell? (a1.add (Int.toNat 0 * 1)) = some (.string s2) ∧
      Q (.string s2) w)
    ∧ (
      ((((elems.len : Nat) : Int) : Int) == 1) = false → Jn (
        fun k3 : Int → World → Prop => (
          (decide ((((ByteArray.size sep : Nat) : Int) : Int) > 0)) = true → Jn (
            fun k4 : World → Prop => ((IntKind.wrap .i64 (((elems.len : Nat) : Int) - 1)) : Int) ≠ 0 ∧
            (
              (
                decide (
                  (((ByteArray.size sep : Nat) : Int) : Int) ≥ (
                    IntKind.wrap .i64 (Int.tdiv 9223372036854775807 (IntKind.wrap .i64 (((elems.len : Nat) : Int) - 1))))
                  )
                )
              = true → False)
            ∧ (
              (
                decide (
                  (((ByteArray.size sep : Nat) : Int) : Int) ≥ (
                    IntKind.wrap .i64 (Int.tdiv 9223372036854775807 (IntKind.wrap .i64 (((elems.len : Nat) : Int) - 1))))
                  )
                )
              = false → k4 w)
            )
          (
            fun  (w5 : World) => k3 (
              IntKind.wrap .i64 (
                0 + (
                  IntKind.wrap .i64 (((ByteArray.size sep : Nat) : Int) * (IntKind.wrap .i64 (((elems.len : Nat) : Int) - 1))))
                )
              )
            w5)
          )
        ∧ ((decide ((((ByteArray.size sep : Nat) : Int) : Int) > 0)) = false → k3 0 w))
      (
        fun (n6 : Int) (w7 : World) => ∃ (I8 : Int → Int → World → Prop) (μ9 : Int → Int → World → Nat), I8 n6 0 w7 ∧
        ∀ (n10 : Int) (n11 : Int) (w12 : World), I8 n10 n11 w12 → (
          (decide ((n11 : Int) < ((elems.len : Nat) : Int))) = true → ∃ a13 : Addr, elems.a = some a13 ∧
          ((0 : Int) ≤ n11 ∧ n11 < ((elems.len : Nat) : Int)) ∧ ∃ s14 : ByteArray, w12.cell? (a13.add (Int.toNat n11 * 1)) = some (.string s14) ∧
          Jn (
            fun k15 : World → Prop => (
              (
                decide ((((ByteArray.size s14 : Nat) : Int) : Int) > (IntKind.wrap .i64 (9223372036854775807 - n10))))
              = true → False)
            ∧ (
              (
                decide ((((ByteArray.size s14 : Nat) : Int) : Int) > (IntKind.wrap .i64 (9223372036854775807 - n10))))
              = false → k15 w12)
            )
          (
            fun  (w16 : World) => I8 (IntKind.wrap .i64 (n10 + ((ByteArray.size s14 : Nat) : Int))) (IntKind.wrap .i64 (n11 + 1)) w16 ∧
            μ9 (IntKind.wrap .i64 (n10 + ((ByteArray.size s14 : Nat) : Int))) (IntKind.wrap .i64 (n11 + 1)) w16 < μ9 n10 n11 w12)
          )
        ∧ (
          (decide ((n11 : Int) < ((elems.len : Nat) : Int))) = false → Nx (w12.alloc (.cells #[.pointer none, .slice none 0 0] Ty.strings_Builder)) fun w17 =>
          Calls Tryz.prog F.strings_Builder_Grow #[.pointer (some ⟨w12.heap.size, 0, none⟩), .int .i64 n10] w17 fun e19 w18 =>
          e19 = .returned (.tuple #[]) ∧ ∃ a20 : Addr, elems.a = some a20 ∧ ((0 : Int) ≤ 0 ∧ 0 < ((elems.len : Nat) : Int)) ∧
          ∃ s21 : ByteArray, w18.cell? (a20.add (Int.toNat 0 * 1)) = some (.string s21) ∧
          Calls Tryz.prog F.strings_Builder_WriteString #[.pointer (some ⟨w12.heap.size, 0, none⟩), .string s21] w18 fun e23 w22 =>
          ∃ n24 : Int, ∃ v25 : Value, e23 = .returned (.tuple #[.int .i64 n24, v25]) ∧
          ((0 : Int) ≤ 1 ∧ 1 ≤ ((elems.len : Nat) : Int)) ∧ ∃ (I26 : Int → World → Prop) (μ27 : Int → World → Nat), I26 0 w22 ∧
          ∀ (n28 : Int) (w29 : World), I26 n28 w29 → (
            (decide ((n28 : Int) < (((elems.len - (Int.toNat 1)) : Nat) : Int))) = true →
            ∃ a30 : Addr, (cutA elems.a 1 (Int.toNat 1) elems.cap) = some a30 ∧ ((0 : Int) ≤ n28 ∧ n28 < (((elems.len - (Int.toNat 1)) : Nat) : Int)) ∧
            ∃ s31 : ByteArray, w29.cell? (a30.add (Int.toNat n28 * 1)) = some (.string s31) ∧
            Calls Tryz.prog F.strings_Builder_WriteString #[.pointer (some ⟨w12.heap.size, 0, none⟩), .string sep] w29 fun e33 w32 =>
            ∃ n34 : Int, ∃ v35 : Value, e33 = .returned (.tuple #[.int .i64 n34, v35]) ∧
            Calls Tryz.prog F.strings_Builder_WriteString #[.pointer (some ⟨w12.heap.size, 0, none⟩), .string s31] w32 fun e37 w36 =>
            ∃ n38 : Int, ∃ v39 : Value, e37 = .returned (.tuple #[.int .i64 n38, v39]) ∧
            I26 (IntKind.wrap .i64 (n28 + 1)) w36 ∧ μ27 (IntKind.wrap .i64 (n28 + 1)) w36 < μ27 n28 w29)
          ∧ (
            (decide ((n28 : Int) < (((elems.len - (Int.toNat 1)) : Nat) : Int))) = false →
            Calls Tryz.prog F.strings_Builder_String #[.pointer (some ⟨w12.heap.size, 0, none⟩)] w29 fun e41 w40 =>
            ∃ s42 : ByteArray, e41 = .returned (.string s42) ∧ Q (.string s42) w40)
          )
        )
      )
    )
def A.strings_Join : AT := (.seq (.reg []) (.seq (.seq (.reg []) (.blk (.seq (.reg []) (.cond (.seq (.reg []) .leaf) (.seq (.reg []) (.cond (.seq (.reg []) .leaf) .leaf)))))) (.seq (.reg []) (.seq (.jk [(5, (.int .i64))] [0, 1] (.seq (.reg []) (.cond (.seq (.jk [] [0, 1, 5] (.seq (.reg []) (.cond (.reg []) .leaf))) (.reg [])) .leaf))) (.seq (.seq (.reg []) (.blk (.loop [(5, (.int .i64)), (41, (.int .i64))] [0, 1, 39, 40] (.seq (.reg []) (.seq (.cond .leaf .leaf) (.seq (.blk (.seq (.reg []) (.seq (.jk [] [0, 1, 5, 7, 39, 40, 41] (.seq (.reg []) (.cond (.reg []) .leaf))) (.reg [])))) (.reg []))))))) (.seq (.reg []) (.seq (.reg []) (.seq (.reg []) (.seq (.seq (.reg []) (.blk (.loop [(65, (.int .i64))] [1, 8, 63, 64] (.seq (.reg []) (.seq (.cond .leaf .leaf) (.seq (.blk (.seq (.reg []) (.seq (.reg []) (.reg [])))) (.reg []))))))) (.seq (.reg []) .leaf))))))))))
theorem W.strings_Join_eq (elems : Sl) (sep : ByteArray) (w : World) (Q : Value → World → Prop) : W.strings_Join elems sep w Q = DF Tryz.prog tk A.strings_Join Tryz.f56 [.slice elems.a elems.len elems.cap, .string sep] w Q := by kernel_rfl
theorem W.strings_Join_ok (elems : Sl) (sep : ByteArray) (w : World) (Q : Value → World → Prop) (h : W.strings_Join elems sep w Q) : Calls Tryz.prog F.strings_Join #[.slice elems.a elems.len elems.cap, .string sep] w fun e w1 => ∃ v, e = .returned v ∧ Q v w1 :=
  calls_of_DF hmix Tryz.func56 (by kernel_rfl) (Eq.mp (W.strings_Join_eq elems sep w Q) h)

/-- strings.Index -/
def W.strings_Index (s : ByteArray) (substr : ByteArray) (w : World) (Q : Value → World → Prop) : Prop :=
  Calls Tryz.prog F.internal_stringslite_Index #[.string s, .string substr] w fun e2 w1 =>
  ∃ n3 : Int, e2 = .returned (.int .i64 n3) ∧ Q (.int .i64 n3) w1
def A.strings_Index : AT := (.seq (.reg []) (.seq (.reg []) .leaf))
theorem W.strings_Index_eq (s : ByteArray) (substr : ByteArray) (w : World) (Q : Value → World → Prop) : W.strings_Index s substr w Q = DF Tryz.prog tk A.strings_Index Tryz.f63 [.string s, .string substr] w Q := by kernel_rfl
theorem W.strings_Index_ok (s : ByteArray) (substr : ByteArray) (w : World) (Q : Value → World → Prop) (h : W.strings_Index s substr w Q) : Calls Tryz.prog F.strings_Index #[.string s, .string substr] w fun e w1 => ∃ v, e = .returned v ∧ Q v w1 :=
  calls_of_DF hmix Tryz.func63 (by kernel_rfl) (Eq.mp (W.strings_Index_eq s substr w Q) h)

/-- internal/stringslite.Cut -/
def W.internal_stringslite_Cut (s : ByteArray) (sep : ByteArray) (w : World) (Q : Value → World → Prop) : Prop :=
  Calls Tryz.prog F.internal_stringslite_Index #[.string s, .string sep] w fun e2 w1 =>
  ∃ n3 : Int, e2 = .returned (.int .i64 n3) ∧ (
    (decide ((n3 : Int) ≥ 0)) = true → Nx (w1.drew) fun w4 => ((0 : Int) ≤ n3 ∧ n3 ≤ (((ByteArray.size s) : Nat) : Int)) ∧
    (
      (0 : Int) ≤ (IntKind.wrap .i64 (n3 + ((ByteArray.size sep : Nat) : Int))) ∧
      (IntKind.wrap .i64 (n3 + ((ByteArray.size sep : Nat) : Int))) ≤ (((ByteArray.size s) : Nat) : Int))
    ∧ Q (
      .tuple #[.string (ByteArray.extract s 0 (Int.toNat n3)), .string (
        ByteArray.extract s (Int.toNat (IntKind.wrap .i64 (n3 + ((ByteArray.size sep : Nat) : Int)))) (ByteArray.size s))
      , .bool true])
    w4)
  ∧ (
    (decide ((n3 : Int) ≥ 0)) = false → Q (.tuple #[.string s, .string (ByteArray.mk #[]), .bool false]) w1)
def A.internal_stringslite_Cut : AT := (.seq (.reg []) (.seq (.seq (.reg []) (.seq (.reg []) (.cond (.seq (.drw 10 false ⟨[0, 0, 3, 0, 0, 0, 32, 80, 136, 7, 1023, 2047], [0, 0, 3, 0, 0, 0, 32, 80, 136, 4, 256, 0]⟩ [8192, 16384, 32768, 65536, 131072, 262144, 524288, 1048576, 2097152, 16, 32, 64] [1, 128, 24576, 1, 128, 2, 262144, 655360, 1114112, 32768, 2097152, 0] (.take 0 (.take 1 (.take 2 (.take 3 (.take 4 (.take 5 (.take 6 (.take 7 (.take 8 (.take 9 (.tail [.run, .run])))))))))))) .leaf) .leaf))) (.seq (.reg []) .leaf)))
theorem W.internal_stringslite_Cut_eq (s : ByteArray) (sep : ByteArray) (w : World) (Q : Value → World → Prop) : W.internal_stringslite_Cut s sep w Q = DF Tryz.prog tk A.internal_stringslite_Cut Tryz.f64 [.string s, .string sep] w Q := by kernel_rfl
theorem W.internal_stringslite_Cut_ok (s : ByteArray) (sep : ByteArray) (w : World) (Q : Value → World → Prop) (h : W.internal_stringslite_Cut s sep w Q) : Calls Tryz.prog F.internal_stringslite_Cut #[.string s, .string sep] w fun e w1 => ∃ v, e = .returned v ∧ Q v w1 :=
  calls_of_DF hmix Tryz.func64 (by kernel_rfl) (Eq.mp (W.internal_stringslite_Cut_eq s sep w Q) h)

/-- (*strings.Builder).copyCheck -/
def W.strings_Builder_copyCheck (b : Option Addr) (w : World) (Q : Value → World → Prop) : Prop :=
  ∃ a1 : Addr, b = some a1 ∧ ∃ p2 : Option Addr, w.cell? a1 = some (.pointer p2) ∧
  (
    (Option.isNone p2) = true → ∃ p3 : Option Addr, ∃ w4 : World, Sem.run Tryz.prog (convert Ty.P_strings_Builder Ty.unsafe_Pointer (.pointer b)) w = .ok (.pointer p3) w4 ∧
    ∃ p5 : Option Addr, ∃ w6 : World, Sem.run Tryz.prog (callFunc F.internal_abi_NoEscape #[.pointer p3]) w4 = .ok (.value (.pointer p5)) w6 ∧
    ∃ p7 : Option Addr, ∃ w8 : World, Sem.run Tryz.prog (convert Ty.unsafe_Pointer Ty.P_strings_Builder (.pointer p5)) w6 = .ok (.pointer p7) w8 ∧
    ∃ a9 : Addr, b = some a9 ∧ (∃ u : Value, w8.cell? a9 = some u) ∧ w8.frozen? a9 = false ∧
    Nx (w8.setCell a9 (.pointer p7)) fun w10 => Q (.tuple #[]) w10)
  ∧ (
    (Option.isNone p2) = false → ∃ a11 : Addr, b = some a11 ∧ ∃ p12 : Option Addr, w.cell? a11 = some (.pointer p12) ∧
    ∃ b13 : Bool, OpqEq Tryz.prog .neq Ty.P_strings_Builder (.tmp 17) (.tmp 18) (.pointer p12) (.pointer b) b13 ∧
    (b13 = true → False) ∧ (b13 = false → Q (.tuple #[]) w))
def A.strings_Builder_copyCheck : AT := (.seq (.reg []) (.cond (.reg []) (.seq (.reg []) (.cond .leaf .leaf))))
theorem W.strings_Builder_copyCheck_eq (b : Option Addr) (w : World) (Q : Value → World → Prop) : W.strings_Builder_copyCheck b w Q = DF Tryz.prog tk A.strings_Builder_copyCheck Tryz.f65 [.pointer b] w Q := by kernel_rfl
theorem W.strings_Builder_copyCheck_ok (b : Option Addr) (w : World) (Q : Value → World → Prop) (h : W.strings_Builder_copyCheck b w Q) : Calls Tryz.prog F.strings_Builder_copyCheck #[.pointer b] w fun e w1 => ∃ v, e = .returned v ∧ Q v w1 :=
  calls_of_DF hmix Tryz.func65 (by kernel_rfl) (Eq.mp (W.strings_Builder_copyCheck_eq b w Q) h)

/-- (*strings.Builder).Grow -/
def W.strings_Builder_Grow (b : Option Addr) (n : Int) (w : World) (Q : Value → World → Prop) : Prop :=
  Calls Tryz.prog F.strings_Builder_copyCheck #[.pointer b] w fun e2 w1 => e2 = .returned (.tuple #[]) ∧
  Jn (
    fun k3 : World → Prop => ((decide ((n : Int) < 0)) = true → False) ∧ ((decide ((n : Int) < 0)) = false → k3 w1))
  (
    fun  (w4 : World) => Nx (w4.drew) fun w5 => ∃ a6 : Addr, b = some a6 ∧ ¬ False ∧
    ∃ s7 : Sl, w5.cell? (a6.add 1) = some (.slice s7.a s7.len s7.cap) ∧ ∃ a8 : Addr, b = some a8 ∧
    ¬ False ∧ ∃ s9 : Sl, w5.cell? (a8.add 1) = some (.slice s9.a s9.len s9.cap) ∧
    (
      (decide (((IntKind.wrap .i64 (((s7.cap : Nat) : Int) - ((s9.len : Nat) : Int))) : Int) < n)) = true →
      Calls Tryz.prog F.strings_Builder_grow #[.pointer b, .int .i64 n] w5 fun e11 w10 =>
      e11 = .returned (.tuple #[]) ∧ Q (.tuple #[]) w10)
    ∧ (
      (decide (((IntKind.wrap .i64 (((s7.cap : Nat) : Int) - ((s9.len : Nat) : Int))) : Int) < n)) = false →
      Q (.tuple #[]) w5)
    )
def A.strings_Builder_Grow : AT := (.seq (.reg []) (.seq (.jk [] [0, 1] (.seq (.reg []) (.cond (.reg []) .leaf))) (.seq (.drw 12 false ⟨[0, 1, 2, 4, 8, 0, 32, 64, 128, 256, 528, 0, 3072], [0, 1, 2, 4, 8, 0, 32, 64, 128, 256, 528, 0, 3072]⟩ [512, 1024, 2048, 4096, 8192, 16384, 32768, 65536, 131072, 262144, 524288, 1048576, 2097152] [1, 512, 1024, 2048, 4096, 1, 16384, 32768, 65536, 131072, 270336, 2, 1572864] (.take 0 (.take 1 (.take 2 (.take 3 (.take 4 (.take 5 (.take 6 (.take 7 (.take 8 (.take 9 (.take 10 (.take 11 (.tail [.run])))))))))))))) (.cond (.reg []) .leaf))))
theorem W.strings_Builder_Grow_eq (b : Option Addr) (n : Int) (w : World) (Q : Value → World → Prop) : W.strings_Builder_Grow b n w Q = DF Tryz.prog tk A.strings_Builder_Grow Tryz.f75 [.pointer b, .int .i64 n] w Q := by kernel_rfl
theorem W.strings_Builder_Grow_ok (b : Option Addr) (n : Int) (w : World) (Q : Value → World → Prop) (h : W.strings_Builder_Grow b n w Q) : Calls Tryz.prog F.strings_Builder_Grow #[.pointer b, .int .i64 n] w fun e w1 => ∃ v, e = .returned v ∧ Q v w1 :=
  calls_of_DF hmix Tryz.func75 (by kernel_rfl) (Eq.mp (W.strings_Builder_Grow_eq b n w Q) h)

/-- strings.Split -/
def W.strings_Split (s : ByteArray) (sep : ByteArray) (w : World) (Q : Value → World → Prop) : Prop :=
  Calls Tryz.prog F.strings_genSplit #[.string s, .string sep, .int .i64 0, .int .i64 (-1)] w fun e2 w1 =>
  ∃ s3 : Sl, e2 = .returned (.slice s3.a s3.len s3.cap) ∧ Q (.slice s3.a s3.len s3.cap) w1
def A.strings_Split : AT := (.seq (.reg []) (.seq (.reg []) .leaf))
theorem W.strings_Split_eq (s : ByteArray) (sep : ByteArray) (w : World) (Q : Value → World → Prop) : W.strings_Split s sep w Q = DF Tryz.prog tk A.strings_Split Tryz.f83 [.string s, .string sep] w Q := by kernel_rfl
theorem W.strings_Split_ok (s : ByteArray) (sep : ByteArray) (w : World) (Q : Value → World → Prop) (h : W.strings_Split s sep w Q) : Calls Tryz.prog F.strings_Split #[.string s, .string sep] w fun e w1 => ∃ v, e = .returned v ∧ Q v w1 :=
  calls_of_DF hmix Tryz.func83 (by kernel_rfl) (Eq.mp (W.strings_Split_eq s sep w Q) h)

/-- internal/stringslite.Index -/
def W.internal_stringslite_Index (s : ByteArray) (substr : ByteArray) (w : World) (Q : Value → World → Prop) : Prop :=
  (
    (
      ((((ByteArray.size substr : Nat) : Int) : Int) == 0) || (ByteArray.toList substr == ByteArray.toList s))
    = true → Q (.int .i64 0) w)
  ∧ (
    (
      ((((ByteArray.size substr : Nat) : Int) : Int) == 0) || (ByteArray.toList substr == ByteArray.toList s))
    = false → (
      ((((ByteArray.size substr : Nat) : Int) : Int) == 1) = true → (0 : Int) ≤ 0 ∧
      ∃ b1 : UInt8, byteAt substr (Int.toNat 0) = some b1 ∧ Calls Tryz.prog F.internal_stringslite_IndexByte #[.string s, .int .u8 ((b1.toNat : Nat) : Int)] w fun e3 w2 =>
      ∃ n4 : Int, e3 = .returned (.int .i64 n4) ∧ Q (.int .i64 n4) w2)
    ∧ (
      ((((ByteArray.size substr : Nat) : Int) : Int) == 1) = false → (
        (decide ((((ByteArray.size substr : Nat) : Int) : Int) ≥ ((ByteArray.size s : Nat) : Int))) = true →
        Q (.int .i64 (-1)) w)
      ∧ (
        (decide ((((ByteArray.size substr : Nat) : Int) : Int) ≥ ((ByteArray.size s : Nat) : Int))) = false →
        ∃ n5 : Int, w.cell? ⟨0, 0, none⟩ = some (.int .i64 n5) ∧ (
          (
            (decide ((((ByteArray.size substr : Nat) : Int) : Int) ≤ n5)) && (decide ((((ByteArray.size s : Nat) : Int) : Int) ≤ 64)))
          = true → ∃ n6 : Int, ∃ w7 : World, Sem.run Tryz.prog (callFunc F.internal_bytealg_IndexString #[.string s, .string substr]) w = .ok (.value (.int .i64 n6)) w7 ∧
          Q (.int .i64 n6) w7)
        ∧ (
          (
            (decide ((((ByteArray.size substr : Nat) : Int) : Int) ≤ n5)) && (decide ((((ByteArray.size s : Nat) : Int) : Int) ≤ 64)))
          = false → (0 : Int) ≤ 0 ∧ ∃ b8 : UInt8, byteAt substr (Int.toNat 0) = some b8 ∧
          (0 : Int) ≤ 1 ∧ ∃ b9 : UInt8, byteAt substr (Int.toNat 1) = some b9 ∧ ∃ (I10 : Int → Int → World → Prop) (μ11 : Int → Int → World → Nat), I10 0 0 w ∧
          ∀ (n12 : Int) (n13 : Int) (w14 : World), I10 n12 n13 w14 → (
            (
              decide (
                (n12 : Int) < (
                  IntKind.wrap .i64 ((IntKind.wrap .i64 (((ByteArray.size s : Nat) : Int) - ((ByteArray.size substr : Nat) : Int))) + 1))
                )
              )
            = true → Jn (
              fun k15 : Int → World → Prop => (0 : Int) ≤ n12 ∧ ∃ b16 : UInt8, byteAt s (Int.toNat n12) = some b16 ∧
              (
                ((((b16.toNat : Nat) : Int) : Int) != ((b8.toNat : Nat) : Int)) = true → (
                  (0 : Int) ≤ (
                    IntKind.wrap .i64 ((IntKind.wrap .i64 (((ByteArray.size s : Nat) : Int) - ((ByteArray.size substr : Nat) : Int))) + 1))
                  ∧ (
                    IntKind.wrap .i64 ((IntKind.wrap .i64 (((ByteArray.size s : Nat) : Int) - ((ByteArray.size substr : Nat) : Int))) + 1))
                  ≤ (((ByteArray.size s) : Nat) : Int))
                ∧ (
                  (0 : Int) ≤ (IntKind.wrap .i64 (n12 + 1)) ∧ (IntKind.wrap .i64 (n12 + 1)) ≤ (
                    (
                      (
                        Int.toNat (
                          IntKind.wrap .i64 ((IntKind.wrap .i64 (((ByteArray.size s : Nat) : Int) - ((ByteArray.size substr : Nat) : Int))) + 1))
                        )
                      : Nat)
                    : Int)
                  )
                ∧ Calls Tryz.prog F.internal_stringslite_IndexByte #[.string (
                  ByteArray.extract s (Int.toNat (IntKind.wrap .i64 (n12 + 1))) (
                    Int.toNat (
                      IntKind.wrap .i64 ((IntKind.wrap .i64 (((ByteArray.size s : Nat) : Int) - ((ByteArray.size substr : Nat) : Int))) + 1))
                    )
                  )
                , .int .u8 ((b8.toNat : Nat) : Int)] w14 fun e18 w17 => ∃ n19 : Int, e18 = .returned (.int .i64 n19) ∧
                ((decide ((n19 : Int) < 0)) = true → Q (.int .i64 (-1)) w17) ∧ (
                  (decide ((n19 : Int) < 0)) = false → k15 (IntKind.wrap .i64 (n12 + (IntKind.wrap .i64 (n19 + 1)))) w17)
                )
              ∧ (((((b16.toNat : Nat) : Int) : Int) != ((b8.toNat : Nat) : Int)) = false → k15 n12 w14))
            (
              fun (n20 : Int) (w21 : World) => (0 : Int) ≤ (IntKind.wrap .i64 (n20 + 1)) ∧
              ∃ b22 : UInt8, byteAt s (Int.toNat (IntKind.wrap .i64 (n20 + 1))) = some b22 ∧
              Jn (
                fun k23 : Bool → World → Prop => (
                  ((((b22.toNat : Nat) : Int) : Int) == ((b9.toNat : Nat) : Int)) = true → (
                    (0 : Int) ≤ (IntKind.wrap .i64 (n20 + ((ByteArray.size substr : Nat) : Int))) ∧
                    (IntKind.wrap .i64 (n20 + ((ByteArray.size substr : Nat) : Int))) ≤ (((ByteArray.size s) : Nat) : Int))
                  ∧ (
                    (0 : Int) ≤ n20 ∧ n20 ≤ (((Int.toNat (IntKind.wrap .i64 (n20 + ((ByteArray.size substr : Nat) : Int)))) : Nat) : Int))
                  ∧ k23 (
                    ByteArray.toList (
                      ByteArray.extract s (Int.toNat n20) (Int.toNat (IntKind.wrap .i64 (n20 + ((ByteArray.size substr : Nat) : Int)))))
                    == ByteArray.toList substr)
                  w21)
                ∧ (((((b22.toNat : Nat) : Int) : Int) == ((b9.toNat : Nat) : Int)) = false → k23 false w21))
              (
                fun (b24 : Bool) (w25 : World) => (b24 = true → Q (.int .i64 n20) w25) ∧ (
                  b24 = false → ∃ n26 : Int, w25.cell? ⟨0, 0, none⟩ = some (.int .i64 n26) ∧
                  Jn (
                    fun k27 : Bool → World → Prop => (
                      (decide ((((ByteArray.size substr : Nat) : Int) : Int) ≤ n26)) = true → Calls Tryz.prog F.internal_bytealg_Cutover #[.int .i64 (IntKind.wrap .i64 (n20 + 1))] w25 fun e29 w28 =>
                      ∃ n30 : Int, e29 = .returned (.int .i64 n30) ∧ k27 (decide (((IntKind.wrap .i64 (n13 + 1)) : Int) > n30)) w28)
                    ∧ ((decide ((((ByteArray.size substr : Nat) : Int) : Int) ≤ n26)) = false → k27 false w25))
                  (
                    fun (b31 : Bool) (w32 : World) => (
                      b31 = true → (
                        (0 : Int) ≤ (IntKind.wrap .i64 (n20 + 1)) ∧ (IntKind.wrap .i64 (n20 + 1)) ≤ (((ByteArray.size s) : Nat) : Int))
                      ∧ ∃ n33 : Int, ∃ w34 : World, Sem.run Tryz.prog (
                        callFunc F.internal_bytealg_IndexString #[.string (ByteArray.extract s (Int.toNat (IntKind.wrap .i64 (n20 + 1))) (ByteArray.size s)), .string substr])
                      w32 = .ok (.value (.int .i64 n33)) w34 ∧ (
                        (decide ((n33 : Int) ≥ 0)) = true → Q (.int .i64 (IntKind.wrap .i64 (n33 + (IntKind.wrap .i64 (n20 + 1))))) w34)
                      ∧ ((decide ((n33 : Int) ≥ 0)) = false → Q (.int .i64 (-1)) w34))
                    ∧ (
                      b31 = false → ∃ n35 : Int, w32.cell? ⟨0, 0, none⟩ = some (.int .i64 n35) ∧
                      Jn (
                        fun k36 : Bool → World → Prop => (
                          (decide ((((ByteArray.size substr : Nat) : Int) : Int) > n35)) = true → (0 : Int) ≤ 4 ∧
                          k36 (
                            decide (
                              ((IntKind.wrap .i64 (n13 + 1)) : Int) ≥ (IntKind.wrap .i64 (4 + (Int.fdiv (IntKind.wrap .i64 (n20 + 1)) (2 ^ (min (Int.toNat 4) 64))))))
                            )
                          w32)
                        ∧ ((decide ((((ByteArray.size substr : Nat) : Int) : Int) > n35)) = false → k36 false w32))
                      (
                        fun (b37 : Bool) (w38 : World) => (
                          (
                            b37 && (
                              decide (
                                ((IntKind.wrap .i64 (n20 + 1)) : Int) < (
                                  IntKind.wrap .i64 ((IntKind.wrap .i64 (((ByteArray.size s : Nat) : Int) - ((ByteArray.size substr : Nat) : Int))) + 1))
                                )
                              )
                            )
                          = true → (
                            (0 : Int) ≤ (IntKind.wrap .i64 (n20 + 1)) ∧ (IntKind.wrap .i64 (n20 + 1)) ≤ (((ByteArray.size s) : Nat) : Int))
                          ∧ Calls Tryz.prog F.internal_bytealg_IndexRabinKarp_string #[.string (ByteArray.extract s (Int.toNat (IntKind.wrap .i64 (n20 + 1))) (ByteArray.size s)), .string substr] w38 fun e40 w39 =>
                          ∃ n41 : Int, e40 = .returned (.int .i64 n41) ∧ ((decide ((n41 : Int) < 0)) = true → Q (.int .i64 (-1)) w39) ∧
                          (
                            (decide ((n41 : Int) < 0)) = false → Q (.int .i64 (IntKind.wrap .i64 ((IntKind.wrap .i64 (n20 + 1)) + n41))) w39)
                          )
                        ∧ (
                          (
                            b37 && (
                              decide (
                                ((IntKind.wrap .i64 (n20 + 1)) : Int) < (
                                  IntKind.wrap .i64 ((IntKind.wrap .i64 (((ByteArray.size s : Nat) : Int) - ((ByteArray.size substr : Nat) : Int))) + 1))
                                )
                              )
                            )
                          = false → I10 (IntKind.wrap .i64 (n20 + 1)) (IntKind.wrap .i64 (n13 + 1)) w38 ∧
                          μ11 (IntKind.wrap .i64 (n20 + 1)) (IntKind.wrap .i64 (n13 + 1)) w38 < μ11 n12 n13 w14)
                        )
                      )
                    )
                  )
                )
              )
            )
          ∧ (
            (
              decide (
                (n12 : Int) < (
                  IntKind.wrap .i64 ((IntKind.wrap .i64 (((ByteArray.size s : Nat) : Int) - ((ByteArray.size substr : Nat) : Int))) + 1))
                )
              )
            = false → Q (.int .i64 (-1)) w14)
          )
        )
      )
    )
def A.internal_stringslite_Index : AT := (.seq (.reg []) (.seq (.reg []) (.seq (.blk (.seq (.reg [.run, .run, .run, .pure 3]) (.cond (.seq (.reg []) .leaf) (.seq (.reg []) (.cond (.seq (.reg []) .leaf) (.seq (.reg []) (.cond (.seq (.reg []) .leaf) (.seq (.reg [.run, .run, .run, .run, .pure 3]) (.cond (.seq (.reg []) .leaf) .leaf))))))))) (.seq (.reg []) (.seq (.reg []) (.seq (.reg []) (.seq (.reg []) (.seq (.reg []) (.seq (.blk (.loop [(8, (.int .i64)), (10, (.int .i64))] [0, 1, 5, 6, 7, 9] (.seq (.seq (.reg []) (.cond .leaf .leaf)) (.blk (.seq (.jk [(8, (.int .i64))] [0, 1, 5, 6, 7, 9, 10] (.seq (.reg []) (.cond (.seq (.reg []) (.seq (.seq (.reg []) (.cond (.seq (.reg []) .leaf) .leaf)) (.reg []))) .leaf))) (.seq (.seq (.reg [.run, .run, .run, .run, .run, .run, .run, .split 8]) (.cond (.seq (.reg []) .leaf) .leaf)) (.seq (.reg []) (.seq (.reg []) (.seq (.reg [.run, .run, .run, .run, .split 4]) (.cond (.seq (.reg []) (.seq (.seq (.reg []) (.cond (.seq (.reg []) .leaf) .leaf)) (.seq (.reg []) .leaf))) (.seq (.reg [.run, .run, .run, .run, .split 5, .run, .run, .run, .run, .run, .run, .pure 3]) (.cond (.seq (.reg []) (.seq (.seq (.reg []) (.cond (.seq (.reg []) .leaf) .leaf)) (.seq (.reg []) .leaf))) .leaf)))))))))))) (.seq (.reg []) .leaf))))))))))
theorem W.internal_stringslite_Index_eq (s : ByteArray) (substr : ByteArray) (w : World) (Q : Value → World → Prop) : W.internal_stringslite_Index s substr w Q = DF Tryz.prog tk A.internal_stringslite_Index Tryz.f85 [.string s, .string substr] w Q := by kernel_rfl
theorem W.internal_stringslite_Index_ok (s : ByteArray) (substr : ByteArray) (w : World) (Q : Value → World → Prop) (h : W.internal_stringslite_Index s substr w Q) : Calls Tryz.prog F.internal_stringslite_Index #[.string s, .string substr] w fun e w1 => ∃ v, e = .returned v ∧ Q v w1 :=
  calls_of_DF hmix Tryz.func85 (by kernel_rfl) (Eq.mp (W.internal_stringslite_Index_eq s substr w Q) h)

/-- (*strings.Builder).grow -/
def W.strings_Builder_grow (b : Option Addr) (n : Int) (w : World) (Q : Value → World → Prop) : Prop :=
  Nx (w.drew) fun w1 => ∃ W2 : Nat → Prop, ∃ a3 : Addr, b = some a3 ∧ ¬ W2 (a3.add 1).block ∧
  ∃ s4 : Sl, w1.cell? (a3.add 1) = some (.slice s4.a s4.len s4.cap) ∧ ∃ a5 : Addr, b = some a5 ∧
  ¬ W2 (a5.add 1).block ∧ ∃ s6 : Sl, w1.cell? (a5.add 1) = some (.slice s6.a s6.len s6.cap) ∧
  ∃ s7 : Sl, ∃ w8 : World, Sem.run Tryz.prog (
    callFunc F.internal_bytealg_MakeNoZero #[.int .i64 (IntKind.wrap .i64 ((IntKind.wrap .i64 (2 * ((s4.cap : Nat) : Int))) + n))])
  w1 = .ok (.value (.slice s7.a s7.len s7.cap)) w8 ∧ Chg W2 w1 w8 ∧ ((0 : Int) ≤ ((s6.len : Nat) : Int) ∧ ((s6.len : Nat) : Int) ≤ ((s7.cap : Nat) : Int)) ∧
  ∃ a9 : Addr, b = some a9 ∧ ∃ s10 : Sl, w8.cell? (a9.add 1) = some (.slice s10.a s10.len s10.cap) ∧
  ∃ n11 : Int, ∃ w12 : World, Sem.run Tryz.prog (
    Builtin.copy_ #[Ty.Sl_uint8, Ty.Sl_uint8] Ty.int #[.slice (cutA s7.a 1 0 s7.cap) ((Int.toNat ((s6.len : Nat) : Int)) - 0) (s7.cap - 0), .slice s10.a s10.len s10.cap])
  w8 = .ok (.int .i64 n11) w12 ∧ ∃ a13 : Addr, b = some a13 ∧ (∃ u : Value, w12.cell? (a13.add 1) = some u) ∧
  w12.frozen? (a13.add 1) = false ∧ Nx (
    w12.setCell (a13.add 1) (.slice (cutA s7.a 1 0 s7.cap) ((Int.toNat ((s6.len : Nat) : Int)) - 0) (s7.cap - 0)))
  fun w14 => Q (.tuple #[]) w14
def A.strings_Builder_grow : AT := (.seq (.drw 14 true ⟨[0, 1, 2, 4, 8, 16, 0, 96, 128, 0, 512, 1024, 2048, 4096, 8448, 32767], [0, 1, 2, 4, 8, 16, 0, 96, 128, 0, 512, 1024, 2048, 4096, 8448, 16384]⟩ [32, 64, 128, 256, 512, 1024, 2048, 4096, 8192, 16384, 32768, 65536, 131072, 262144, 524288, 16] [1, 32, 64, 128, 256, 512, 2, 3072, 4096, 1, 16384, 32768, 65536, 131072, 270336, 524288] (.take 0 (.take 1 (.take 2 (.take 3 (.take 4 (.take 5 (.take 6 (.take 7 (.take 9 (.take 10 (.take 11 (.take 12 (.take 13 (.eff 8 (.tail [.run, .run])))))))))))))))) (.seq (.reg []) (.reg [])))
theorem W.strings_Builder_grow_eq (b : Option Addr) (n : Int) (w : World) (Q : Value → World → Prop) : W.strings_Builder_grow b n w Q = DF Tryz.prog tk A.strings_Builder_grow Tryz.f101 [.pointer b, .int .i64 n] w Q := by kernel_rfl
theorem W.strings_Builder_grow_ok (b : Option Addr) (n : Int) (w : World) (Q : Value → World → Prop) (h : W.strings_Builder_grow b n w Q) : Calls Tryz.prog F.strings_Builder_grow #[.pointer b, .int .i64 n] w fun e w1 => ∃ v, e = .returned v ∧ Q v w1 :=
  calls_of_DF hmix Tryz.func101 (by kernel_rfl) (Eq.mp (W.strings_Builder_grow_eq b n w Q) h)

/-- strings.Fields -/
def W.strings_Fields (s : ByteArray) (w : World) (Q : Value → World → Prop) : Prop :=
  ∃ (I1 : Int → Int → Int → Int → World → Prop) (μ2 : Int → Int → Int → Int → World → Nat), I1 0 1 0 0 w ∧
  ∀ (n3 : Int) (n4 : Int) (n5 : Int) (n6 : Int) (w7 : World), I1 n3 n4 n5 n6 w7 →
  (
    (decide ((n6 : Int) < ((ByteArray.size s : Nat) : Int))) = true → (0 : Int) ≤ n6 ∧
    ∃ b8 : UInt8, byteAt s (Int.toNat n6) = some b8 ∧ ((0 : Int) ≤ ((b8.toNat : Nat) : Int) ∧ ((b8.toNat : Nat) : Int) < ((256 : Nat) : Int)) ∧
    ∃ n9 : Int, w7.cell? (Addr.add ⟨1, 0, none⟩ (Int.toNat ((b8.toNat : Nat) : Int) * 1)) = some (.int .u8 n9) ∧
    I1 (IntKind.wrap .i64 (n3 + (bAnd .i64 n4 (bXor .i64 (-1) (IntKind.wrap .i64 n9))))) (IntKind.wrap .i64 n9) (bOr .u8 n5 ((b8.toNat : Nat) : Int)) (IntKind.wrap .i64 (n6 + 1)) w7 ∧
    μ2 (IntKind.wrap .i64 (n3 + (bAnd .i64 n4 (bXor .i64 (-1) (IntKind.wrap .i64 n9))))) (IntKind.wrap .i64 n9) (bOr .u8 n5 ((b8.toNat : Nat) : Int)) (IntKind.wrap .i64 (n6 + 1)) w7 < μ2 n3 n4 n5 n6 w7)
  ∧ (
    (decide ((n6 : Int) < ((ByteArray.size s : Nat) : Int))) = false → (
      (decide ((n5 : Int) ≥ 128)) = true → Calls Tryz.prog F.strings_FieldsFunc #[.string s, .func (.func F.unicode_IsSpace) #[] #[]] w7 fun e11 w10 =>
      ∃ s12 : Sl, e11 = .returned (.slice s12.a s12.len s12.cap) ∧ Q (.slice s12.a s12.len s12.cap) w10)
    ∧ (
      (decide ((n5 : Int) ≥ 128)) = false → (
        (0 : Int) ≤ n3 ∧ (n3 : Int) ≤ n3 ∧ (n3 : Int) ≤ 9223372036854775807 ∧ ((16 : Nat) : Int) * n3 ≤ 140737488355328)
      ∧ Nx (w7.alloc (.cells (zrow Tryz.prog Ty.string (Int.toNat n3)) Ty.string)) fun w13 =>
      ∃ (I14 : Int → World → Prop) (μ15 : Int → World → Nat), I14 0 w13 ∧ ∀ (n16 : Int) (w17 : World), I14 n16 w17 →
      Jn (
        fun k18 : Bool → World → Prop => (
          (decide ((n16 : Int) < ((ByteArray.size s : Nat) : Int))) = true → (0 : Int) ≤ n16 ∧
          ∃ b19 : UInt8, byteAt s (Int.toNat n16) = some b19 ∧ ((0 : Int) ≤ ((b19.toNat : Nat) : Int) ∧ ((b19.toNat : Nat) : Int) < ((256 : Nat) : Int)) ∧
          ∃ n20 : Int, w17.cell? (Addr.add ⟨1, 0, none⟩ (Int.toNat ((b19.toNat : Nat) : Int) * 1)) = some (.int .u8 n20) ∧
          k18 ((n20 : Int) != 0) w17)
        ∧ ((decide ((n16 : Int) < ((ByteArray.size s : Nat) : Int))) = false → k18 false w17))
      (
        fun (b21 : Bool) (w22 : World) => (
          b21 = true → I14 (IntKind.wrap .i64 (n16 + 1)) w22 ∧ μ15 (IntKind.wrap .i64 (n16 + 1)) w22 < μ15 n16 w17)
        ∧ (
          b21 = false → ∃ (I23 : Int → Int → Int → World → Prop) (μ24 : Int → Int → Int → World → Nat), I23 0 n16 n16 w22 ∧
          ∀ (n25 : Int) (n26 : Int) (n27 : Int) (w28 : World), I23 n25 n26 n27 w28 →
          (
            (decide ((n27 : Int) < ((ByteArray.size s : Nat) : Int))) = true → (0 : Int) ≤ n27 ∧
            ∃ b29 : UInt8, byteAt s (Int.toNat n27) = some b29 ∧ ((0 : Int) ≤ ((b29.toNat : Nat) : Int) ∧ ((b29.toNat : Nat) : Int) < ((256 : Nat) : Int)) ∧
            ∃ n30 : Int, w28.cell? (Addr.add ⟨1, 0, none⟩ (Int.toNat ((b29.toNat : Nat) : Int) * 1)) = some (.int .u8 n30) ∧
            (
              ((n30 : Int) == 0) = true → I23 n25 n26 (IntKind.wrap .i64 (n27 + 1)) w28 ∧
              μ24 n25 n26 (IntKind.wrap .i64 (n27 + 1)) w28 < μ24 n25 n26 n27 w28)
            ∧ (
              ((n30 : Int) == 0) = false → ((0 : Int) ≤ n27 ∧ n27 ≤ (((ByteArray.size s) : Nat) : Int)) ∧
              ((0 : Int) ≤ n26 ∧ n26 ≤ (((Int.toNat n27) : Nat) : Int)) ∧ ∃ a31 : Addr, (some ⟨w7.heap.size, 0, none⟩) = some a31 ∧
              ((0 : Int) ≤ n25 ∧ n25 < (((Int.toNat n3) : Nat) : Int)) ∧ (∃ u : Value, w28.cell? (a31.add (Int.toNat n25 * 1)) = some u) ∧
              w28.frozen? (a31.add (Int.toNat n25 * 1)) = false ∧ Nx (
                w28.setCell (a31.add (Int.toNat n25 * 1)) (.string (ByteArray.extract s (Int.toNat n26) (Int.toNat n27))))
              fun w32 => ∃ (I33 : Int → World → Prop) (μ34 : Int → World → Nat), I33 (IntKind.wrap .i64 (n27 + 1)) w32 ∧
              ∀ (n35 : Int) (w36 : World), I33 n35 w36 → Jn (
                fun k37 : Bool → World → Prop => (
                  (decide ((n35 : Int) < ((ByteArray.size s : Nat) : Int))) = true → (0 : Int) ≤ n35 ∧
                  ∃ b38 : UInt8, byteAt s (Int.toNat n35) = some b38 ∧ ((0 : Int) ≤ ((b38.toNat : Nat) : Int) ∧ ((b38.toNat : Nat) : Int) < ((256 : Nat) : Int)) ∧
                  ∃ n39 : Int, w36.cell? (Addr.add ⟨1, 0, none⟩ (Int.toNat ((b38.toNat : Nat) : Int) * 1)) = some (.int .u8 n39) ∧
                  k37 ((n39 : Int) != 0) w36)
                ∧ ((decide ((n35 : Int) < ((ByteArray.size s : Nat) : Int))) = false → k37 false w36))
              (
                fun (b40 : Bool) (w41 : World) => (
                  b40 = true → I33 (IntKind.wrap .i64 (n35 + 1)) w41 ∧ μ34 (IntKind.wrap .i64 (n35 + 1)) w41 < μ34 n35 w36)
                ∧ (
                  b40 = false → I23 (IntKind.wrap .i64 (n25 + 1)) n35 n35 w41 ∧ μ24 (IntKind.wrap .i64 (n25 + 1)) n35 n35 w41 < μ24 n25 n26 n27 w28)
                )
              )
            )
          ∧ (
            (decide ((n27 : Int) < ((ByteArray.size s : Nat) : Int))) = false → Jn (
              fun k42 : World → Prop => (
                (decide ((n26 : Int) < ((ByteArray.size s : Nat) : Int))) = true → ((0 : Int) ≤ n26 ∧ n26 ≤ (((ByteArray.size s) : Nat) : Int)) ∧
                ∃ a43 : Addr, (some ⟨w7.heap.size, 0, none⟩) = some a43 ∧ ((0 : Int) ≤ n25 ∧ n25 < (((Int.toNat n3) : Nat) : Int)) ∧
                (∃ u : Value, w28.cell? (a43.add (Int.toNat n25 * 1)) = some u) ∧ w28.frozen? (a43.add (Int.toNat n25 * 1)) = false ∧
                Nx (
                  w28.setCell (a43.add (Int.toNat n25 * 1)) (.string (ByteArray.extract s (Int.toNat n26) (ByteArray.size s))))
                fun w44 => k42 w44)
              ∧ ((decide ((n26 : Int) < ((ByteArray.size s : Nat) : Int))) = false → k42 w28))
            (fun  (w45 : World) => Q (.slice (some ⟨w7.heap.size, 0, none⟩) (Int.toNat n3) (Int.toNat n3)) w45))
          )
        )
      )
    )
def A.strings_Fields : AT := (.seq (.reg []) (.seq (.reg []) (.seq (.reg []) (.seq (.reg []) (.seq (.seq (.reg []) (.blk (.loop [(3, (.int .i64)), (4, (.int .i64)), (5, (.int .u8)), (6, (.int .i64))] [0] (.seq (.seq (.reg []) (.cond .leaf .leaf)) (.seq (.blk (.seq (.reg []) (.seq (.reg []) (.seq (.reg []) (.seq (.reg []) (.reg [])))))) (.reg [])))))) (.seq (.seq (.reg []) (.cond (.seq (.reg []) .leaf) .leaf)) (.seq (.reg []) (.seq (.reg []) (.seq (.reg []) (.seq (.reg []) (.seq (.blk (.loop [(12, (.int .i64))] [0, 9, 10] (.seq (.seq (.reg [.run, .run, .run, .run, .run, .split 6]) (.cond .leaf .leaf)) (.blk (.reg []))))) (.seq (.reg []) (.seq (.blk (.loop [(10, (.int .i64)), (11, (.int .i64)), (12, (.int .i64))] [0, 9] (.seq (.seq (.reg []) (.cond .leaf .leaf)) (.blk (.seq (.seq (.reg []) (.cond (.seq (.reg []) .leaf) .leaf)) (.seq (.reg []) (.seq (.reg []) (.seq (.reg []) (.seq (.blk (.loop [(12, (.int .i64))] [0, 9, 10] (.seq (.seq (.reg [.run, .run, .run, .run, .run, .split 6]) (.cond .leaf .leaf)) (.blk (.reg []))))) (.reg [])))))))))) (.seq (.jk [] [9] (.seq (.reg []) (.cond (.reg []) .leaf))) (.seq (.reg []) .leaf)))))))))))))))
theorem W.strings_Fields_eq (s : ByteArray) (w : World) (Q : Value → World → Prop) : W.strings_Fields s w Q = DF Tryz.prog tk A.strings_Fields Tryz.f102 [.string s] w Q := by kernel_rfl
theorem W.strings_Fields_ok (s : ByteArray) (w : World) (Q : Value → World → Prop) (h : W.strings_Fields s w Q) : Calls Tryz.prog F.strings_Fields #[.string s] w fun e w1 => ∃ v, e = .returned v ∧ Q v w1 :=
  calls_of_DF hmix Tryz.func102 (by kernel_rfl) (Eq.mp (W.strings_Fields_eq s w Q) h)

/-- (*strings.Builder).WriteByte -/
def W.strings_Builder_WriteByte (b : Option Addr) (c : Int) (w : World) (Q : Value → World → Prop) : Prop :=
  Calls Tryz.prog F.strings_Builder_copyCheck #[.pointer b] w fun e2 w1 => e2 = .returned (.tuple #[]) ∧
  ∃ a3 : Addr, b = some a3 ∧ ∃ s4 : Sl, w1.cell? (a3.add 1) = some (.slice s4.a s4.len s4.cap) ∧
  Nx (w1.alloc (.cells #[.int .u8 c] Ty.uint8)) fun w5 => ∃ s6 : Sl, ∃ w7 : World, Sem.run Tryz.prog (
    Builtin.append_ #[Ty.Sl_uint8, Ty.Sl_uint8] Ty.Sl_uint8 #[.slice s4.a s4.len s4.cap, .slice (some ⟨w1.heap.size, 0, none⟩) 1 1])
  w5 = .ok (.slice s6.a s6.len s6.cap) w7 ∧ ∃ a8 : Addr, b = some a8 ∧ (∃ u : Value, w7.cell? (a8.add 1) = some u) ∧
  w7.frozen? (a8.add 1) = false ∧ Nx (w7.setCell (a8.add 1) (.slice s6.a s6.len s6.cap)) fun w9 =>
  Q (.nilIface) w9
def A.strings_Builder_WriteByte : AT := (.seq (.reg []) (.seq (.reg []) (.seq (.reg []) (.seq (.reg []) .leaf))))
theorem W.strings_Builder_WriteByte_eq (b : Option Addr) (c : Int) (w : World) (Q : Value → World → Prop) : W.strings_Builder_WriteByte b c w Q = DF Tryz.prog tk A.strings_Builder_WriteByte Tryz.f103 [.pointer b, .int .u8 c] w Q := by kernel_rfl
theorem W.strings_Builder_WriteByte_ok (b : Option Addr) (c : Int) (w : World) (Q : Value → World → Prop) (h : W.strings_Builder_WriteByte b c w Q) : Calls Tryz.prog F.strings_Builder_WriteByte #[.pointer b, .int .u8 c] w fun e w1 => ∃ v, e = .returned v ∧ Q v w1 :=
  calls_of_DF hmix Tryz.func103 (by kernel_rfl) (Eq.mp (W.strings_Builder_WriteByte_eq b c w Q) h)

/-- strconv.FormatUint -/
def W.strconv_FormatUint (i : Int) (base : Int) (w : World) (Q : Value → World → Prop) : Prop :=
  Calls Tryz.prog F.internal_strconv_FormatUint #[.int .u64 i, .int .i64 base] w fun e2 w1 =>
  ∃ s3 : ByteArray, e2 = .returned (.string s3) ∧ Q (.string s3) w1
def A.strconv_FormatUint : AT := (.seq (.reg []) (.seq (.reg []) .leaf))
theorem W.strconv_FormatUint_eq (i : Int) (base : Int) (w : World) (Q : Value → World → Prop) : W.strconv_FormatUint i base w Q = DF Tryz.prog tk A.strconv_FormatUint Tryz.f104 [.int .u64 i, .int .i64 base] w Q := by kernel_rfl
theorem W.strconv_FormatUint_ok (i : Int) (base : Int) (w : World) (Q : Value → World → Prop) (h : W.strconv_FormatUint i base w Q) : Calls Tryz.prog F.strconv_FormatUint #[.int .u64 i, .int .i64 base] w fun e w1 => ∃ v, e = .returned v ∧ Q v w1 :=
  calls_of_DF hmix Tryz.func104 (by kernel_rfl) (Eq.mp (W.strconv_FormatUint_eq i base w Q) h)

/-- strconv.Itoa -/
def W.strconv_Itoa (i : Int) (w : World) (Q : Value → World → Prop) : Prop :=
  Calls Tryz.prog F.internal_strconv_Itoa #[.int .i64 i] w fun e2 w1 => ∃ s3 : ByteArray, e2 = .returned (.string s3) ∧
  Q (.string s3) w1
def A.strconv_Itoa : AT := (.seq (.reg []) (.seq (.reg []) .leaf))
theorem W.strconv_Itoa_eq (i : Int) (w : World) (Q : Value → World → Prop) : W.strconv_Itoa i w Q = DF Tryz.prog tk A.strconv_Itoa Tryz.f105 [.int .i64 i] w Q := by kernel_rfl
theorem W.strconv_Itoa_ok (i : Int) (w : World) (Q : Value → World → Prop) (h : W.strconv_Itoa i w Q) : Calls Tryz.prog F.strconv_Itoa #[.int .i64 i] w fun e w1 => ∃ v, e = .returned v ∧ Q v w1 :=
  calls_of_DF hmix Tryz.func105 (by kernel_rfl) (Eq.mp (W.strconv_Itoa_eq i w Q) h)

/-- strings.genSplit -/
def W.strings_genSplit (s : ByteArray) (sep : ByteArray) (sepSave : Int) (n : Int) (w : World) (Q : Value → World → Prop) : Prop :=
  (((n : Int) == 0) = true → Q (.slice none 0 0) w) ∧ (
    ((n : Int) == 0) = false → (
      (ByteArray.toList sep == ByteArray.toList (ByteArray.mk #[])) = true → Calls Tryz.prog F.strings_explode #[.string s, .int .i64 n] w fun e2 w1 =>
      ∃ s3 : Sl, e2 = .returned (.slice s3.a s3.len s3.cap) ∧ Q (.slice s3.a s3.len s3.cap) w1)
    ∧ (
      (ByteArray.toList sep == ByteArray.toList (ByteArray.mk #[])) = false → Jn (
        fun k4 : Int → World → Prop => (
          (decide ((n : Int) < 0)) = true → Calls Tryz.prog F.strings_Count #[.string s, .string sep] w fun e6 w5 =>
          ∃ n7 : Int, e6 = .returned (.int .i64 n7) ∧ k4 (IntKind.wrap .i64 (n7 + 1)) w5)
        ∧ ((decide ((n : Int) < 0)) = false → k4 n w))
      (
        fun (n8 : Int) (w9 : World) => ∃ n10 : Int, ∃ w11 : World, Sem.run Tryz.prog (
          Builtin.min_ #[Ty.int, Ty.int] Ty.int #[.int .i64 n8, .int .i64 (IntKind.wrap .i64 (((ByteArray.size s : Nat) : Int) + 1))])
        w9 = .ok (.int .i64 n10) w11 ∧ (
          (0 : Int) ≤ n10 ∧ (n10 : Int) ≤ n10 ∧ (n10 : Int) ≤ 9223372036854775807 ∧
          ((16 : Nat) : Int) * n10 ≤ 140737488355328)
        ∧ Nx (w11.alloc (.cells (zrow Tryz.prog Ty.string (Int.toNat n10)) Ty.string)) fun w12 =>
        Jn (
          fun k13 : ByteArray → Int → World → Prop => ∃ (I14 : ByteArray → Int → World → Prop) (μ15 : ByteArray → Int → World → Nat), I14 s 0 w12 ∧
          ∀ (s16 : ByteArray) (n17 : Int) (w18 : World), I14 s16 n17 w18 → (
            (decide ((n17 : Int) < (IntKind.wrap .i64 (n10 - 1)))) = true → Calls Tryz.prog F.strings_Index #[.string s16, .string sep] w18 fun e20 w19 =>
            ∃ n21 : Int, e20 = .returned (.int .i64 n21) ∧ ((decide ((n21 : Int) < 0)) = true → k13 s16 n17 w19) ∧
            (
              (decide ((n21 : Int) < 0)) = false → (
                (0 : Int) ≤ (IntKind.wrap .i64 (n21 + sepSave)) ∧ (IntKind.wrap .i64 (n21 + sepSave)) ≤ (((ByteArray.size s16) : Nat) : Int))
              ∧ ∃ a22 : Addr, (some ⟨w11.heap.size, 0, none⟩) = some a22 ∧ ((0 : Int) ≤ n17 ∧ n17 < (((Int.toNat n10) : Nat) : Int)) ∧
              (∃ u : Value, w19.cell? (a22.add (Int.toNat n17 * 1)) = some u) ∧ w19.frozen? (a22.add (Int.toNat n17 * 1)) = false ∧
              Nx (
                w19.setCell (a22.add (Int.toNat n17 * 1)) (.string (ByteArray.extract s16 0 (Int.toNat (IntKind.wrap .i64 (n21 + sepSave))))))
              fun w23 => (
                (0 : Int) ≤ (IntKind.wrap .i64 (n21 + ((ByteArray.size sep : Nat) : Int))) ∧
                (IntKind.wrap .i64 (n21 + ((ByteArray.size sep : Nat) : Int))) ≤ (((ByteArray.size s16) : Nat) : Int))
              ∧ I14 (
                ByteArray.extract s16 (Int.toNat (IntKind.wrap .i64 (n21 + ((ByteArray.size sep : Nat) : Int)))) (ByteArray.size s16))
              (IntKind.wrap .i64 (n17 + 1)) w23 ∧ μ15 (
                ByteArray.extract s16 (Int.toNat (IntKind.wrap .i64 (n21 + ((ByteArray.size sep : Nat) : Int)))) (ByteArray.size s16))
              (IntKind.wrap .i64 (n17 + 1)) w23 < μ15 s16 n17 w18)
            )
          ∧ ((decide ((n17 : Int) < (IntKind.wrap .i64 (n10 - 1)))) = false → k13 s16 n17 w18))
        (
          fun (s24 : ByteArray) (n25 : Int) (w26 : World) => ∃ a27 : Addr, (some ⟨w11.heap.size, 0, none⟩) = some a27 ∧
          ((0 : Int) ≤ n25 ∧ n25 < (((Int.toNat n10) : Nat) : Int)) ∧ (∃ u : Value, w26.cell? (a27.add (Int.toNat n25 * 1)) = some u) ∧
          w26.frozen? (a27.add (Int.toNat n25 * 1)) = false ∧ Nx (w26.setCell (a27.add (Int.toNat n25 * 1)) (.string s24)) fun w28 =>
          (
            (0 : Int) ≤ (IntKind.wrap .i64 (n25 + 1)) ∧ (IntKind.wrap .i64 (n25 + 1)) ≤ (((Int.toNat n10) : Nat) : Int))
          ∧ Q (
            .slice (cutA (some ⟨w11.heap.size, 0, none⟩) 1 0 (Int.toNat n10)) ((Int.toNat (IntKind.wrap .i64 (n25 + 1))) - 0) ((Int.toNat n10) - 0))
          w28)
        )
      )
    )
def A.strings_genSplit : AT := (.seq (.reg []) (.seq (.seq (.reg []) (.cond (.seq (.reg []) .leaf) .leaf)) (.seq (.seq (.reg []) (.cond (.seq (.reg []) .leaf) .leaf)) (.seq (.jk [(3, (.int .i64))] [0, 1, 2] (.seq (.reg []) (.cond (.reg []) .leaf))) (.seq (.reg []) (.seq (.reg []) (.seq (.reg []) (.seq (.reg []) (.seq (.jk [(0, .str), (10, (.int .i64))] [9] (.blk (.loop [(0, .str), (10, (.int .i64))] [1, 2, 3, 9] (.seq (.seq (.reg []) (.cond .leaf .leaf)) (.blk (.seq (.reg []) (.seq (.seq (.reg []) (.cond .leaf .leaf)) (.seq (.reg []) (.seq (.reg []) (.reg [])))))))))) (.seq (.reg []) (.seq (.reg []) .leaf)))))))))))
theorem W.strings_genSplit_eq (s : ByteArray) (sep : ByteArray) (sepSave : Int) (n : Int) (w : World) (Q : Value → World → Prop) : W.strings_genSplit s sep sepSave n w Q = DF Tryz.prog tk A.strings_genSplit Tryz.f107 [.string s, .string sep, .int .i64 sepSave, .int .i64 n] w Q := by kernel_rfl
theorem W.strings_genSplit_ok (s : ByteArray) (sep : ByteArray) (sepSave : Int) (n : Int) (w : World) (Q : Value → World → Prop) (h : W.strings_genSplit s sep sepSave n w Q) : Calls Tryz.prog F.strings_genSplit #[.string s, .string sep, .int .i64 sepSave, .int .i64 n] w fun e w1 => ∃ v, e = .returned v ∧ Q v w1 :=
  calls_of_DF hmix Tryz.func107 (by kernel_rfl) (Eq.mp (W.strings_genSplit_eq s sep sepSave n w Q) h)

/-- internal/stringslite.IndexByte -/
def W.internal_stringslite_IndexByte (s : ByteArray) (c : Int) (w : World) (Q : Value → World → Prop) : Prop :=
  ∃ n1 : Int, ∃ w2 : World, Sem.run Tryz.prog (callFunc F.internal_bytealg_IndexByteString #[.string s, .int .u8 c]) w = .ok (.value (.int .i64 n1)) w2 ∧
  Q (.int .i64 n1) w2
def A.internal_stringslite_IndexByte : AT := (.seq (.reg []) (.seq (.reg []) .leaf))
theorem W.internal_stringslite_IndexByte_eq (s : ByteArray) (c : Int) (w : World) (Q : Value → World → Prop) : W.internal_stringslite_IndexByte s c w Q = DF Tryz.prog tk A.internal_stringslite_IndexByte Tryz.f115 [.string s, .int .u8 c] w Q := by kernel_rfl
theorem W.internal_stringslite_IndexByte_ok (s : ByteArray) (c : Int) (w : World) (Q : Value → World → Prop) (h : W.internal_stringslite_IndexByte s c w Q) : Calls Tryz.prog F.internal_stringslite_IndexByte #[.string s, .int .u8 c] w fun e w1 => ∃ v, e = .returned v ∧ Q v w1 :=
  calls_of_DF hmix Tryz.func115 (by kernel_rfl) (Eq.mp (W.internal_stringslite_IndexByte_eq s c w Q) h)

/-- internal/strconv.FormatUint -/
def W.internal_strconv_FormatUint (i : Int) (base : Int) (w : World) (Q : Value → World → Prop) : Prop :=
  (
    ((base : Int) == 10) = true → (
      (decide ((i : Int) < 100)) = true → Calls Tryz.prog F.internal_strconv_small #[.int .i64 (IntKind.wrap .i64 i)] w fun e2 w1 =>
      ∃ s3 : ByteArray, e2 = .returned (.string s3) ∧ Q (.string s3) w1)
    ∧ (
      (decide ((i : Int) < 100)) = false → Nx (
        w.alloc (
          .cells #[.int .u8 0, .int .u8 0, .int .u8 0, .int .u8 0, .int .u8 0, .int .u8 0, .int .u8 0, .int .u8 0, .int .u8 0, .int .u8 0, .int .u8 0, .int .u8 0, .int .u8 0, .int .u8 0, .int .u8 0, .int .u8 0, .int .u8 0, .int .u8 0, .int .u8 0, .int .u8 0, .int .u8 0, .int .u8 0, .int .u8 0, .int .u8 0] Ty.n24_uint8)
        )
      fun w4 => Calls Tryz.prog F.internal_strconv_numDigits #[.int .u64 i] w4 fun e6 w5 =>
      ∃ n7 : Int, e6 = .returned (.int .i64 n7) ∧ ((0 : Int) ≤ n7 ∧ n7 ≤ ((24 : Nat) : Int)) ∧
      Calls Tryz.prog F.internal_strconv_formatBase10 #[.slice (cutA (some ⟨w.heap.size, 0, none⟩) 1 0 24) ((Int.toNat n7) - 0) (24 - 0), .int .u64 i] w5 fun e9 w8 =>
      e9 = .returned (.tuple #[]) ∧ ((0 : Int) ≤ n7 ∧ n7 ≤ ((24 : Nat) : Int)) ∧
      ∃ s10 : ByteArray, ∃ w11 : World, Sem.run Tryz.prog (
        convert Ty.Sl_uint8 Ty.string (.slice (cutA (some ⟨w.heap.size, 0, none⟩) 1 0 24) ((Int.toNat n7) - 0) (24 - 0)))
      w8 = .ok (.string s10) w11 ∧ Q (.string s10) w11)
    )
  ∧ (
    ((base : Int) == 10) = false → Calls Tryz.prog F.internal_strconv_formatBits #[.slice none 0 0, .int .u64 i, .int .i64 base, .bool false, .bool false] w fun e13 w12 =>
    ∃ s14 : Sl, ∃ s15 : ByteArray, e13 = .returned (.tuple #[.slice s14.a s14.len s14.cap, .string s15]) ∧
    Q (.string s15) w12)
def A.internal_strconv_FormatUint : AT := (.seq (.reg []) (.seq (.seq (.reg []) (.cond (.seq (.seq (.reg []) (.cond (.seq (.reg []) .leaf) .leaf)) (.seq (.reg []) (.seq (.reg []) (.seq (.reg []) (.seq (.reg []) .leaf))))) .leaf)) (.seq (.reg []) (.seq (.reg []) .leaf))))
theorem W.internal_strconv_FormatUint_eq (i : Int) (base : Int) (w : World) (Q : Value → World → Prop) : W.internal_strconv_FormatUint i base w Q = DF Tryz.prog tk A.internal_strconv_FormatUint Tryz.f136 [.int .u64 i, .int .i64 base] w Q := by kernel_rfl
theorem W.internal_strconv_FormatUint_ok (i : Int) (base : Int) (w : World) (Q : Value → World → Prop) (h : W.internal_strconv_FormatUint i base w Q) : Calls Tryz.prog F.internal_strconv_FormatUint #[.int .u64 i, .int .i64 base] w fun e w1 => ∃ v, e = .returned v ∧ Q v w1 :=
  calls_of_DF hmix Tryz.func136 (by kernel_rfl) (Eq.mp (W.internal_strconv_FormatUint_eq i base w Q) h)

/-- internal/strconv.Itoa -/
def W.internal_strconv_Itoa (i : Int) (w : World) (Q : Value → World → Prop) : Prop :=
  Calls Tryz.prog F.internal_strconv_FormatInt #[.int .i64 i, .int .i64 10] w fun e2 w1 =>
  ∃ s3 : ByteArray, e2 = .returned (.string s3) ∧ Q (.string s3) w1
def A.internal_strconv_Itoa : AT := (.seq (.reg []) (.seq (.reg []) .leaf))
theorem W.internal_strconv_Itoa_eq (i : Int) (w : World) (Q : Value → World → Prop) : W.internal_strconv_Itoa i w Q = DF Tryz.prog tk A.internal_strconv_Itoa Tryz.f137 [.int .i64 i] w Q := by kernel_rfl
theorem W.internal_strconv_Itoa_ok (i : Int) (w : World) (Q : Value → World → Prop) (h : W.internal_strconv_Itoa i w Q) : Calls Tryz.prog F.internal_strconv_Itoa #[.int .i64 i] w fun e w1 => ∃ v, e = .returned v ∧ Q v w1 :=
  calls_of_DF hmix Tryz.func137 (by kernel_rfl) (Eq.mp (W.internal_strconv_Itoa_eq i w Q) h)

/-- strconv.ParseUint -/
def W.strconv_ParseUint (s : ByteArray) (base : Int) (bitSize : Int) (w : World) (Q : Value → World → Prop) : Prop :=
  Calls Tryz.prog F.internal_strconv_ParseUint #[.string s, .int .i64 base, .int .i64 bitSize] w fun e2 w1 =>
  ∃ n3 : Int, ∃ v4 : Value, e2 = .returned (.tuple #[.int .u64 n3, v4]) ∧ ∃ b5 : Bool, ifaceNil v4 = some b5 ∧
  (
    (!b5) = true → Calls Tryz.prog F.strconv_toError #[.string (ByteArray.mk #[80, 97, 114, 115, 101, 85, 105, 110, 116]), .string s, .int .i64 base, .int .i64 bitSize, v4] w1 fun e7 w6 =>
    ∃ v8 : Value, e7 = .returned (v8) ∧ Q (.tuple #[.int .u64 n3, v8]) w6)
  ∧ ((!b5) = false → Q (.tuple #[.int .u64 n3, .nilIface]) w1)
def A.strconv_ParseUint : AT := (.seq (.reg []) (.seq (.reg []) (.seq (.seq (.reg []) (.cond (.seq (.reg []) .leaf) .leaf)) (.seq (.reg []) .leaf))))
theorem W.strconv_ParseUint_eq (s : ByteArray) (base : Int) (bitSize : Int) (w : World) (Q : Value → World → Prop) : W.strconv_ParseUint s base bitSize w Q = DF Tryz.prog tk A.strconv_ParseUint Tryz.f142 [.string s, .int .i64 base, .int .i64 bitSize] w Q := by kernel_rfl
theorem W.strconv_ParseUint_ok (s : ByteArray) (base : Int) (bitSize : Int) (w : World) (Q : Value → World → Prop) (h : W.strconv_ParseUint s base bitSize w Q) : Calls Tryz.prog F.strconv_ParseUint #[.string s, .int .i64 base, .int .i64 bitSize] w fun e w1 => ∃ v, e = .returned v ∧ Q v w1 :=
  calls_of_DF hmix Tryz.func142 (by kernel_rfl) (Eq.mp (W.strconv_ParseUint_eq s base bitSize w Q) h)

/-- strconv.Atoi -/
def W.strconv_Atoi (s : ByteArray) (w : World) (Q : Value → World → Prop) : Prop :=
  Calls Tryz.prog F.internal_strconv_Atoi #[.string s] w fun e2 w1 => ∃ n3 : Int, ∃ v4 : Value, e2 = .returned (.tuple #[.int .i64 n3, v4]) ∧
  ∃ b5 : Bool, ifaceNil v4 = some b5 ∧ (
    (!b5) = true → Calls Tryz.prog F.strconv_toError #[.string (ByteArray.mk #[65, 116, 111, 105]), .string s, .int .i64 0, .int .i64 0, v4] w1 fun e7 w6 =>
    ∃ v8 : Value, e7 = .returned (v8) ∧ Q (.tuple #[.int .i64 n3, v8]) w6)
  ∧ ((!b5) = false → Q (.tuple #[.int .i64 n3, .nilIface]) w1)
def A.strconv_Atoi : AT := (.seq (.reg []) (.seq (.reg []) (.seq (.seq (.reg []) (.cond (.seq (.reg []) .leaf) .leaf)) (.seq (.reg []) .leaf))))
theorem W.strconv_Atoi_eq (s : ByteArray) (w : World) (Q : Value → World → Prop) : W.strconv_Atoi s w Q = DF Tryz.prog tk A.strconv_Atoi Tryz.f143 [.string s] w Q := by kernel_rfl
theorem W.strconv_Atoi_ok (s : ByteArray) (w : World) (Q : Value → World → Prop) (h : W.strconv_Atoi s w Q) : Calls Tryz.prog F.strconv_Atoi #[.string s] w fun e w1 => ∃ v, e = .returned v ∧ Q v w1 :=
  calls_of_DF hmix Tryz.func143 (by kernel_rfl) (Eq.mp (W.strconv_Atoi_eq s w Q) h)

end Go.Proofs.YtgljoledlhmhnaaGreatDoor


namespace Go.Proofs.YtgljoledlhmhnaaGreatDoor
open Go Gx
set_option maxRecDepth 100000
/-- internal/strconv.small -/
def W.internal_strconv_small (i : Int) (w : World) (Q : Value → World → Prop) : Prop :=
  (
    (decide ((i : Int) < 10)) = true → (
      (0 : Int) ≤ (IntKind.wrap .i64 (i + 1)) ∧ (IntKind.wrap .i64 (i + 1)) ≤ (
        (
          (
            ByteArray.size (
              ByteArray.mk #[48, 49, 50, 51, 52, 53, 54, 55, 56, 57, 97, 98, 99, 100, 101, 102, 103, 104, 105, 106, 107, 108, 109, 110, 111, 112, 113, 114, 115, 116, 117, 118, 119, 120, 121, 122])
            )
          : Nat)
        : Int)
      )
    ∧ ((0 : Int) ≤ i ∧ i ≤ (((Int.toNat (IntKind.wrap .i64 (i + 1))) : Nat) : Int)) ∧
    Q (
      .string (
        ByteArray.extract (
          ByteArray.mk #[48, 49, 50, 51, 52, 53, 54, 55, 56, 57, 97, 98, 99, 100, 101, 102, 103, 104, 105, 106, 107, 108, 109, 110, 111, 112, 113, 114, 115, 116, 117, 118, 119, 120, 121, 122])
        (Int.toNat i) (Int.toNat (IntKind.wrap .i64 (i + 1))))
      )
    w)
  ∧ (
    (decide ((i : Int) < 10)) = false → (
      (0 : Int) ≤ (IntKind.wrap .i64 ((IntKind.wrap .i64 (i * 2)) + 2)) ∧ (IntKind.wrap .i64 ((IntKind.wrap .i64 (i * 2)) + 2)) ≤ (
        (
          (
            ByteArray.size (
              ByteArray.mk #[48, 48, 48, 49, 48, 50, 48, 51, 48, 52, 48, 53, 48, 54, 48, 55, 48, 56, 48, 57, 49, 48, 49, 49, 49, 50, 49, 51, 49, 52, 49, 53, 49, 54, 49, 55, 49, 56, 49, 57, 50, 48, 50, 49, 50, 50, 50, 51, 50, 52, 50, 53, 50, 54, 50, 55, 50, 56, 50, 57, 51, 48, 51, 49, 51, 50, 51, 51, 51, 52, 51, 53, 51, 54, 51, 55, 51, 56, 51, 57, 52, 48, 52, 49, 52, 50, 52, 51, 52, 52, 52, 53, 52, 54, 52, 55, 52, 56, 52, 57, 53, 48, 53, 49, 53, 50, 53, 51, 53, 52, 53, 53, 53, 54, 53, 55, 53, 56, 53, 57, 54, 48, 54, 49, 54, 50, 54, 51, 54, 52, 54, 53, 54, 54, 54, 55, 54, 56, 54, 57, 55, 48, 55, 49, 55, 50, 55, 51, 55, 52, 55, 53, 55, 54, 55, 55, 55, 56, 55, 57, 56, 48, 56, 49, 56, 50, 56, 51, 56, 52, 56, 53, 56, 54, 56, 55, 56, 56, 56, 57, 57, 48, 57, 49, 57, 50, 57, 51, 57, 52, 57, 53, 57, 54, 57, 55, 57, 56, 57, 57])
            )
          : Nat)
        : Int)
      )
    ∧ (
      (0 : Int) ≤ (IntKind.wrap .i64 (i * 2)) ∧ (IntKind.wrap .i64 (i * 2)) ≤ (((Int.toNat (IntKind.wrap .i64 ((IntKind.wrap .i64 (i * 2)) + 2))) : Nat) : Int))
    ∧ Q (
      .string (
        ByteArray.extract (
          ByteArray.mk #[48, 48, 48, 49, 48, 50, 48, 51, 48, 52, 48, 53, 48, 54, 48, 55, 48, 56, 48, 57, 49, 48, 49, 49, 49, 50, 49, 51, 49, 52, 49, 53, 49, 54, 49, 55, 49, 56, 49, 57, 50, 48, 50, 49, 50, 50, 50, 51, 50, 52, 50, 53, 50, 54, 50, 55, 50, 56, 50, 57, 51, 48, 51, 49, 51, 50, 51, 51, 51, 52, 51, 53, 51, 54, 51, 55, 51, 56, 51, 57, 52, 48, 52, 49, 52, 50, 52, 51, 52, 52, 52, 53, 52, 54, 52, 55, 52, 56, 52, 57, 53, 48, 53, 49, 53, 50, 53, 51, 53, 52, 53, 53, 53, 54, 53, 55, 53, 56, 53, 57, 54, 48, 54, 49, 54, 50, 54, 51, 54, 52, 54, 53, 54, 54, 54, 55, 54, 56, 54, 57, 55, 48, 55, 49, 55, 50, 55, 51, 55, 52, 55, 53, 55, 54, 55, 55, 55, 56, 55, 57, 56, 48, 56, 49, 56, 50, 56, 51, 56, 52, 56, 53, 56, 54, 56, 55, 56, 56, 56, 57, 57, 48, 57, 49, 57, 50, 57, 51, 57, 52, 57, 53, 57, 54, 57, 55, 57, 56, 57, 57])
        (Int.toNat (IntKind.wrap .i64 (i * 2))) (Int.toNat (IntKind.wrap .i64 ((IntKind.wrap .i64 (i * 2)) + 2))))
      )
    w)
def A.internal_strconv_small : AT := (.seq (.reg []) (.seq (.seq (.reg []) (.cond (.seq (.reg []) .leaf) .leaf)) (.seq (.reg []) .leaf)))
theorem W.internal_strconv_small_eq (i : Int) (w : World) (Q : Value → World → Prop) : W.internal_strconv_small i w Q = DF Tryz.prog tk A.internal_strconv_small Tryz.f156 [.int .i64 i] w Q := by kernel_rfl
theorem W.internal_strconv_small_ok (i : Int) (w : World) (Q : Value → World → Prop) (h : W.internal_strconv_small i w Q) : Calls Tryz.prog F.internal_strconv_small #[.int .i64 i] w fun e w1 => ∃ v, e = .returned v ∧ Q v w1 :=
  calls_of_DF hmix Tryz.func156 (by kernel_rfl) (Eq.mp (W.internal_strconv_small_eq i w Q) h)

/-- internal/strconv.numDigits -/
def W.internal_strconv_numDigits (d : Int) (w : World) (Q : Value → World → Prop) : Prop :=
  Calls Tryz.prog F.math_bits_Len64 #[.int .u64 d] w fun e2 w1 => ∃ n3 : Int, e2 = .returned (.int .i64 n3) ∧
  Calls Tryz.prog F.internal_strconv_log10Pow2 #[.int .i64 n3] w1 fun e5 w4 =>
  ∃ n6 : Int, e5 = .returned (.int .i64 n6) ∧ ((0 : Int) ≤ n6 ∧ n6 < ((20 : Nat) : Int)) ∧
  ∃ n7 : Int, w4.cell? (Addr.add ⟨3, 0, none⟩ (Int.toNat n6 * 1)) = some (.int .u64 n7) ∧
  Calls Tryz.prog F.internal_strconv_bool2_int #[.bool (decide ((d : Int) ≥ n7))] w4 fun e9 w8 =>
  ∃ n10 : Int, e9 = .returned (.int .i64 n10) ∧ Q (.int .i64 (IntKind.wrap .i64 (n6 + n10))) w8
def A.internal_strconv_numDigits : AT := (.seq (.reg []) (.seq (.reg []) (.seq (.reg []) .leaf)))
theorem W.internal_strconv_numDigits_eq (d : Int) (w : World) (Q : Value → World → Prop) : W.internal_strconv_numDigits d w Q = DF Tryz.prog tk A.internal_strconv_numDigits Tryz.f157 [.int .u64 d] w Q := by kernel_rfl
theorem W.internal_strconv_numDigits_ok (d : Int) (w : World) (Q : Value → World → Prop) (h : W.internal_strconv_numDigits d w Q) : Calls Tryz.prog F.internal_strconv_numDigits #[.int .u64 d] w fun e w1 => ∃ v, e = .returned v ∧ Q v w1 :=
  calls_of_DF hmix Tryz.func157 (by kernel_rfl) (Eq.mp (W.internal_strconv_numDigits_eq d w Q) h)

/-- internal/strconv.formatBase10 -/
def W.internal_strconv_formatBase10 (a : Sl) (u : Int) (w : World) (Q : Value → World → Prop) : Prop :=
  ∃ (I1 : Int → Int → World → Prop) (μ2 : Int → Int → World → Nat), I1 u ((a.len : Nat) : Int) w ∧
  ∀ (n3 : Int) (n4 : Int) (w5 : World), I1 n3 n4 w5 → (
    (decide ((n4 : Int) ≥ 8)) = true → (100000000 : Int) ≠ 0 ∧ (100000000 : Int) ≠ 0 ∧
    (10000 : Int) ≠ 0 ∧ (10000 : Int) ≠ 0 ∧ (100 : Int) ≠ 0 ∧ (100 : Int) ≠ 0 ∧
    (100 : Int) ≠ 0 ∧ (100 : Int) ≠ 0 ∧ Nx (w5.drew) fun w6 => ∃ W7 : Nat → Prop, (0 : Int) ≤ (
      IntKind.wrap .u32 (
        (IntKind.wrap .u32 ((Int.tmod (Int.tmod (IntKind.wrap .u32 (Int.tmod n3 100000000)) 10000) 100) * 2)) + 1)
      )
    ∧ ∃ b8 : UInt8, byteAt (
      ByteArray.mk #[48, 48, 48, 49, 48, 50, 48, 51, 48, 52, 48, 53, 48, 54, 48, 55, 48, 56, 48, 57, 49, 48, 49, 49, 49, 50, 49, 51, 49, 52, 49, 53, 49, 54, 49, 55, 49, 56, 49, 57, 50, 48, 50, 49, 50, 50, 50, 51, 50, 52, 50, 53, 50, 54, 50, 55, 50, 56, 50, 57, 51, 48, 51, 49, 51, 50, 51, 51, 51, 52, 51, 53, 51, 54, 51, 55, 51, 56, 51, 57, 52, 48, 52, 49, 52, 50, 52, 51, 52, 52, 52, 53, 52, 54, 52, 55, 52, 56, 52, 57, 53, 48, 53, 49, 53, 50, 53, 51, 53, 52, 53, 53, 53, 54, 53, 55, 53, 56, 53, 57, 54, 48, 54, 49, 54, 50, 54, 51, 54, 52, 54, 53, 54, 54, 54, 55, 54, 56, 54, 57, 55, 48, 55, 49, 55, 50, 55, 51, 55, 52, 55, 53, 55, 54, 55, 55, 55, 56, 55, 57, 56, 48, 56, 49, 56, 50, 56, 51, 56, 52, 56, 53, 56, 54, 56, 55, 56, 56, 56, 57, 57, 48, 57, 49, 57, 50, 57, 51, 57, 52, 57, 53, 57, 54, 57, 55, 57, 56, 57, 57])
    (
      Int.toNat (
        IntKind.wrap .u32 (
          (IntKind.wrap .u32 ((Int.tmod (Int.tmod (IntKind.wrap .u32 (Int.tmod n3 100000000)) 10000) 100) * 2)) + 1)
        )
      )
    = some b8 ∧ (0 : Int) ≤ (IntKind.wrap .u32 ((Int.tmod (Int.tmod (IntKind.wrap .u32 (Int.tmod n3 100000000)) 10000) 100) * 2)) ∧
    ∃ b9 : UInt8, byteAt (
      ByteArray.mk #[48, 48, 48, 49, 48, 50, 48, 51, 48, 52, 48, 53, 48, 54, 48, 55, 48, 56, 48, 57, 49, 48, 49, 49, 49, 50, 49, 51, 49, 52, 49, 53, 49, 54, 49, 55, 49, 56, 49, 57, 50, 48, 50, 49, 50, 50, 50, 51, 50, 52, 50, 53, 50, 54, 50, 55, 50, 56, 50, 57, 51, 48, 51, 49, 51, 50, 51, 51, 51, 52, 51, 53, 51, 54, 51, 55, 51, 56, 51, 57, 52, 48, 52, 49, 52, 50, 52, 51, 52, 52, 52, 53, 52, 54, 52, 55, 52, 56, 52, 57, 53, 48, 53, 49, 53, 50, 53, 51, 53, 52, 53, 53, 53, 54, 53, 55, 53, 56, 53, 57, 54, 48, 54, 49, 54, 50, 54, 51, 54, 52, 54, 53, 54, 54, 54, 55, 54, 56, 54, 57, 55, 48, 55, 49, 55, 50, 55, 51, 55, 52, 55, 53, 55, 54, 55, 55, 55, 56, 55, 57, 56, 48, 56, 49, 56, 50, 56, 51, 56, 52, 56, 53, 56, 54, 56, 55, 56, 56, 56, 57, 57, 48, 57, 49, 57, 50, 57, 51, 57, 52, 57, 53, 57, 54, 57, 55, 57, 56, 57, 57])
    (
      Int.toNat (IntKind.wrap .u32 ((Int.tmod (Int.tmod (IntKind.wrap .u32 (Int.tmod n3 100000000)) 10000) 100) * 2)))
    = some b9 ∧ ∃ a10 : Addr, a.a = some a10 ∧ ((0 : Int) ≤ (IntKind.wrap .i64 (n4 - 1)) ∧ (IntKind.wrap .i64 (n4 - 1)) < ((a.len : Nat) : Int)) ∧
    (∃ u : Value, w6.cell? (a10.add (Int.toNat (IntKind.wrap .i64 (n4 - 1)) * 1)) = some u) ∧
    w6.frozen? (a10.add (Int.toNat (IntKind.wrap .i64 (n4 - 1)) * 1)) = false ∧
    Nx (
      w6.setCell (a10.add (Int.toNat (IntKind.wrap .i64 (n4 - 1)) * 1)) (.int .u8 ((b8.toNat : Nat) : Int)))
    fun w11 => ∃ a12 : Addr, a.a = some a12 ∧ ((0 : Int) ≤ (IntKind.wrap .i64 (n4 - 2)) ∧ (IntKind.wrap .i64 (n4 - 2)) < ((a.len : Nat) : Int)) ∧
    (∃ u : Value, w11.cell? (a12.add (Int.toNat (IntKind.wrap .i64 (n4 - 2)) * 1)) = some u) ∧
    w11.frozen? (a12.add (Int.toNat (IntKind.wrap .i64 (n4 - 2)) * 1)) = false ∧
    Nx (
      w11.setCell (a12.add (Int.toNat (IntKind.wrap .i64 (n4 - 2)) * 1)) (.int .u8 ((b9.toNat : Nat) : Int)))
    fun w13 => Nx (w13.drew) fun w14 => ∃ W15 : Nat → Prop, (0 : Int) ≤ (
      IntKind.wrap .u32 (
        (
          IntKind.wrap .u32 ((IntKind.wrap .u32 (Int.tdiv (Int.tmod (IntKind.wrap .u32 (Int.tmod n3 100000000)) 10000) 100)) * 2))
        + 1)
      )
    ∧ ∃ b16 : UInt8, byteAt (
      ByteArray.mk #[48, 48, 48, 49, 48, 50, 48, 51, 48, 52, 48, 53, 48, 54, 48, 55, 48, 56, 48, 57, 49, 48, 49, 49, 49, 50, 49, 51, 49, 52, 49, 53, 49, 54, 49, 55, 49, 56, 49, 57, 50, 48, 50, 49, 50, 50, 50, 51, 50, 52, 50, 53, 50, 54, 50, 55, 50, 56, 50, 57, 51, 48, 51, 49, 51, 50, 51, 51, 51, 52, 51, 53, 51, 54, 51, 55, 51, 56, 51, 57, 52, 48, 52, 49, 52, 50, 52, 51, 52, 52, 52, 53, 52, 54, 52, 55, 52, 56, 52, 57, 53, 48, 53, 49, 53, 50, 53, 51, 53, 52, 53, 53, 53, 54, 53, 55, 53, 56, 53, 57, 54, 48, 54, 49, 54, 50, 54, 51, 54, 52, 54, 53, 54, 54, 54, 55, 54, 56, 54, 57, 55, 48, 55, 49, 55, 50, 55, 51, 55, 52, 55, 53, 55, 54, 55, 55, 55, 56, 55, 57, 56, 48, 56, 49, 56, 50, 56, 51, 56, 52, 56, 53, 56, 54, 56, 55, 56, 56, 56, 57, 57, 48, 57, 49, 57, 50, 57, 51, 57, 52, 57, 53, 57, 54, 57, 55, 57, 56, 57, 57])
    (
      Int.toNat (
        IntKind.wrap .u32 (
          (
            IntKind.wrap .u32 ((IntKind.wrap .u32 (Int.tdiv (Int.tmod (IntKind.wrap .u32 (Int.tmod n3 100000000)) 10000) 100)) * 2))
          + 1)
        )
      )
    = some b16 ∧ (0 : Int) ≤ (
      IntKind.wrap .u32 ((IntKind.wrap .u32 (Int.tdiv (Int.tmod (IntKind.wrap .u32 (Int.tmod n3 100000000)) 10000) 100)) * 2))
    ∧ ∃ b17 : UInt8, byteAt (
      ByteArray.mk #[48, 48, 48, 49, 48, 50, 48, 51, 48, 52, 48, 53, 48, 54, 48, 55, 48, 56, 48, 57, 49, 48, 49, 49, 49, 50, 49, 51, 49, 52, 49, 53, 49, 54, 49, 55, 49, 56, 49, 57, 50, 48, 50, 49, 50, 50, 50, 51, 50, 52, 50, 53, 50, 54, 50, 55, 50, 56, 50, 57, 51, 48, 51, 49, 51, 50, 51, 51, 51, 52, 51, 53, 51, 54, 51, 55, 51, 56, 51, 57, 52, 48, 52, 49, 52, 50, 52, 51, 52, 52, 52, 53, 52, 54, 52, 55, 52, 56, 52, 57, 53, 48, 53, 49, 53, 50, 53, 51, 53, 52, 53, 53, 53, 54, 53, 55, 53, 56, 53, 57, 54, 48, 54, 49, 54, 50, 54, 51, 54, 52, 54, 53, 54, 54, 54, 55, 54, 56, 54, 57, 55, 48, 55, 49, 55, 50, 55, 51, 55, 52, 55, 53, 55, 54, 55, 55, 55, 56, 55, 57, 56, 48, 56, 49, 56, 50, 56, 51, 56, 52, 56, 53, 56, 54, 56, 55, 56, 56, 56, 57, 57, 48, 57, 49, 57, 50, 57, 51, 57, 52, 57, 53, 57, 54, 57, 55, 57, 56, 57, 57])
    (
      Int.toNat (
        IntKind.wrap .u32 ((IntKind.wrap .u32 (Int.tdiv (Int.tmod (IntKind.wrap .u32 (Int.tmod n3 100000000)) 10000) 100)) * 2))
      )
    = some b17 ∧ ∃ a18 : Addr, a.a = some a18 ∧ ((0 : Int) ≤ (IntKind.wrap .i64 (n4 - 3)) ∧ (IntKind.wrap .i64 (n4 - 3)) < ((a.len : Nat) : Int)) ∧
    (∃ u : Value, w14.cell? (a18.add (Int.toNat (IntKind.wrap .i64 (n4 - 3)) * 1)) = some u) ∧
    w14.frozen? (a18.add (Int.toNat (IntKind.wrap .i64 (n4 - 3)) * 1)) = false ∧
    Nx (
      w14.setCell (a18.add (Int.toNat (IntKind.wrap .i64 (n4 - 3)) * 1)) (.int .u8 ((b16.toNat : Nat) : Int)))
    fun w19 => ∃ a20 : Addr, a.a = some a20 ∧ ((0 : Int) ≤ (IntKind.wrap .i64 (n4 - 4)) ∧ (IntKind.wrap .i64 (n4 - 4)) < ((a.len : Nat) : Int)) ∧
    (∃ u : Value, w19.cell? (a20.add (Int.toNat (IntKind.wrap .i64 (n4 - 4)) * 1)) = some u) ∧
    w19.frozen? (a20.add (Int.toNat (IntKind.wrap .i64 (n4 - 4)) * 1)) = false ∧
    Nx (
      w19.setCell (a20.add (Int.toNat (IntKind.wrap .i64 (n4 - 4)) * 1)) (.int .u8 ((b17.toNat : Nat) : Int)))
    fun w21 => Nx (w21.drew) fun w22 => ∃ W23 : Nat → Prop, (0 : Int) ≤ (
      IntKind.wrap .u32 (
        (
          IntKind.wrap .u32 ((Int.tmod (IntKind.wrap .u32 (Int.tdiv (IntKind.wrap .u32 (Int.tmod n3 100000000)) 10000)) 100) * 2))
        + 1)
      )
    ∧ ∃ b24 : UInt8, byteAt (
      ByteArray.mk #[48, 48, 48, 49, 48, 50, 48, 51, 48, 52, 48, 53, 48, 54, 48, 55, 48, 56, 48, 57, 49, 48, 49, 49, 49, 50, 49, 51, 49, 52, 49, 53, 49, 54, 49, 55, 49, 56, 49, 57, 50, 48, 50, 49, 50, 50, 50, 51, 50, 52, 50, 53, 50, 54, 50, 55, 50, 56, 50, 57, 51, 48, 51, 49, 51, 50, 51, 51, 51, 52, 51, 53, 51, 54, 51, 55, 51, 56, 51, 57, 52, 48, 52, 49, 52, 50, 52, 51, 52, 52, 52, 53, 52, 54, 52, 55, 52, 56, 52, 57, 53, 48, 53, 49, 53, 50, 53, 51, 53, 52, 53, 53, 53, 54, 53, 55, 53, 56, 53, 57, 54, 48, 54, 49, 54, 50, 54, 51, 54, 52, 54, 53, 54, 54, 54, 55, 54, 56, 54, 57, 55, 48, 55, 49, 55, 50, 55, 51, 55, 52, 55, 53, 55, 54, 55, 55, 55, 56, 55, 57, 56, 48, 56, 49, 56, 50, 56, 51, 56, 52, 56, 53, 56, 54, 56, 55, 56, 56, 56, 57, 57, 48, 57, 49, 57, 50, 57, 51, 57, 52, 57, 53, 57, 54, 57, 55, 57, 56, 57, 57])
    (
      Int.toNat (
        IntKind.wrap .u32 (
          (
            IntKind.wrap .u32 ((Int.tmod (IntKind.wrap .u32 (Int.tdiv (IntKind.wrap .u32 (Int.tmod n3 100000000)) 10000)) 100) * 2))
          + 1)
        )
      )
    = some b24 ∧ (0 : Int) ≤ (
      IntKind.wrap .u32 ((Int.tmod (IntKind.wrap .u32 (Int.tdiv (IntKind.wrap .u32 (Int.tmod n3 100000000)) 10000)) 100) * 2))
    ∧ ∃ b25 : UInt8, byteAt (
      ByteArray.mk #[48, 48, 48, 49, 48, 50, 48, 51, 48, 52, 48, 53, 48, 54, 48, 55, 48, 56, 48, 57, 49, 48, 49, 49, 49, 50, 49, 51, 49, 52, 49, 53, 49, 54, 49, 55, 49, 56, 49, 57, 50, 48, 50, 49, 50, 50, 50, 51, 50, 52, 50, 53, 50, 54, 50, 55, 50, 56, 50, 57, 51, 48, 51, 49, 51, 50, 51, 51, 51, 52, 51, 53, 51, 54, 51, 55, 51, 56, 51, 57, 52, 48, 52, 49, 52, 50, 52, 51, 52, 52, 52, 53, 52, 54, 52, 55, 52, 56, 52, 57, 53, 48, 53, 49, 53, 50, 53, 51, 53, 52, 53, 53, 53, 54, 53, 55, 53, 56, 53, 57, 54, 48, 54, 49, 54, 50, 54, 51, 54, 52, 54, 53, 54, 54, 54, 55, 54, 56, 54, 57, 55, 48, 55, 49, 55, 50, 55, 51, 55, 52, 55, 53, 55, 54, 55, 55, 55, 56, 55, 57, 56, 48, 56, 49, 56, 50, 56, 51, 56, 52, 56, 53, 56, 54, 56, 55, 56, 56, 56, 57, 57, 48, 57, 49, 57, 50, 57, 51, 57, 52, 57, 53, 57, 54, 57, 55, 57, 56, 57, 57])
    (
      Int.toNat (
        IntKind.wrap .u32 ((Int.tmod (IntKind.wrap .u32 (Int.tdiv (IntKind.wrap .u32 (Int.tmod n3 100000000)) 10000)) 100) * 2))
      )
    = some b25 ∧ ∃ a26 : Addr, a.a = some a26 ∧ ((0 : Int) ≤ (IntKind.wrap .i64 (n4 - 5)) ∧ (IntKind.wrap .i64 (n4 - 5)) < ((a.len : Nat) : Int)) ∧
    (∃ u : Value, w22.cell? (a26.add (Int.toNat (IntKind.wrap .i64 (n4 - 5)) * 1)) = some u) ∧
    w22.frozen? (a26.add (Int.toNat (IntKind.wrap .i64 (n4 - 5)) * 1)) = false ∧
    Nx (
      w22.setCell (a26.add (Int.toNat (IntKind.wrap .i64 (n4 - 5)) * 1)) (.int .u8 ((b24.toNat : Nat) : Int)))
    fun w27 => ∃ a28 : Addr, a.a = some a28 ∧ ((0 : Int) ≤ (IntKind.wrap .i64 (n4 - 6)) ∧ (IntKind.wrap .i64 (n4 - 6)) < ((a.len : Nat) : Int)) ∧
    (∃ u : Value, w27.cell? (a28.add (Int.toNat (IntKind.wrap .i64 (n4 - 6)) * 1)) = some u) ∧
    w27.frozen? (a28.add (Int.toNat (IntKind.wrap .i64 (n4 - 6)) * 1)) = false ∧
    Nx (
      w27.setCell (a28.add (Int.toNat (IntKind.wrap .i64 (n4 - 6)) * 1)) (.int .u8 ((b25.toNat : Nat) : Int)))
    fun w29 => Nx (w29.drew) fun w30 => ∃ W31 : Nat → Prop, (0 : Int) ≤ (
      IntKind.wrap .u32 (
        (
          IntKind.wrap .u32 (
            (
              IntKind.wrap .u32 (Int.tdiv (IntKind.wrap .u32 (Int.tdiv (IntKind.wrap .u32 (Int.tmod n3 100000000)) 10000)) 100))
            * 2)
          )
        + 1)
      )
    ∧ ∃ b32 : UInt8, byteAt (
      ByteArray.mk #[48, 48, 48, 49, 48, 50, 48, 51, 48, 52, 48, 53, 48, 54, 48, 55, 48, 56, 48, 57, 49, 48, 49, 49, 49, 50, 49, 51, 49, 52, 49, 53, 49, 54, 49, 55, 49, 56, 49, 57, 50, 48, 50, 49, 50, 50, 50, 51, 50, 52, 50, 53, 50, 54, 50, 55, 50, 56, 50, 57, 51, 48, 51, 49, 51, 50, 51, 51, 51, 52, 51, 53, 51, 54, 51, 55, 51, 56, 51, 57, 52, 48, 52, 49, 52, 50, 52, 51, 52, 52, 52, 53, 52, 54, 52, 55, 52, 56, 52, 57, 53, 48, 53, 49, 53, 50, 53, 51, 53, 52, 53, 53, 53, 54, 53, 55, 53, 56, 53, 57, 54, 48, 54, 49, 54, 50, 54, 51, 54, 52, 54, 53, 54, 54, 54, 55, 54, 56, 54, 57, 55, 48, 55, 49, 55, 50, 55, 51, 55, 52, 55, 53, 55, 54, 55, 55, 55, 56, 55, 57, 56, 48, 56, 49, 56, 50, 56, 51, 56, 52, 56, 53, 56, 54, 56, 55, 56, 56, 56, 57, 57, 48, 57, 49, 57, 50, 57, 51, 57, 52, 57, 53, 57, 54, 57, 55, 57, 56, 57, 57])
    (
      Int.toNat (
        IntKind.wrap .u32 (
          (
            IntKind.wrap .u32 (
              (
                IntKind.wrap .u32 (Int.tdiv (IntKind.wrap .u32 (Int.tdiv (IntKind.wrap .u32 (Int.tmod n3 100000000)) 10000)) 100))
              * 2)
            )
          + 1)
        )
      )
    = some b32 ∧ (0 : Int) ≤ (
      IntKind.wrap .u32 (
        (
          IntKind.wrap .u32 (Int.tdiv (IntKind.wrap .u32 (Int.tdiv (IntKind.wrap .u32 (Int.tmod n3 100000000)) 10000)) 100))
        * 2)
      )
    ∧ ∃ b33 : UInt8, byteAt (
      ByteArray.mk #[48, 48, 48, 49, 48, 50, 48, 51, 48, 52, 48, 53, 48, 54, 48, 55, 48, 56, 48, 57, 49, 48, 49, 49, 49, 50, 49, 51, 49, 52, 49, 53, 49, 54, 49, 55, 49, 56, 49, 57, 50, 48, 50, 49, 50, 50, 50, 51, 50, 52, 50, 53, 50, 54, 50, 55, 50, 56, 50, 57, 51, 48, 51, 49, 51, 50, 51, 51, 51, 52, 51, 53, 51, 54, 51, 55, 51, 56, 51, 57, 52, 48, 52, 49, 52, 50, 52, 51, 52, 52, 52, 53, 52, 54, 52, 55, 52, 56, 52, 57, 53, 48, 53, 49, 53, 50, 53, 51, 53, 52, 53, 53, 53, 54, 53, 55, 53, 56, 53, 57, 54, 48, 54, 49, 54, 50, 54, 51, 54, 52, 54, 53, 54, 54, 54, 55, 54, 56, 54, 57, 55, 48, 55, 49, 55, 50, 55, 51, 55, 52, 55, 53, 55, 54, 55, 55, 55, 56, 55, 57, 56, 48, 56, 49, 56, 50, 56, 51, 56, 52, 56, 53, 56, 54, 56, 55, 56, 56, 56, 57, 57, 48, 57, 49, 57, 50, 57, 51, 57, 52, 57, 53, 57, 54, 57, 55, 57, 56, 57, 57])
    (
      Int.toNat (
        IntKind.wrap .u32 (
          (
            IntKind.wrap .u32 (Int.tdiv (IntKind.wrap .u32 (Int.tdiv (IntKind.wrap .u32 (Int.tmod n3 100000000)) 10000)) 100))
          * 2)
        )
      )
    = some b33 ∧ ∃ a34 : Addr, a.a = some a34 ∧ ((0 : Int) ≤ (IntKind.wrap .i64 (n4 - 7)) ∧ (IntKind.wrap .i64 (n4 - 7)) < ((a.len : Nat) : Int)) ∧
    (∃ u : Value, w30.cell? (a34.add (Int.toNat (IntKind.wrap .i64 (n4 - 7)) * 1)) = some u) ∧
    w30.frozen? (a34.add (Int.toNat (IntKind.wrap .i64 (n4 - 7)) * 1)) = false ∧
    Nx (
      w30.setCell (a34.add (Int.toNat (IntKind.wrap .i64 (n4 - 7)) * 1)) (.int .u8 ((b32.toNat : Nat) : Int)))
    fun w35 => ∃ a36 : Addr, a.a = some a36 ∧ ((0 : Int) ≤ (IntKind.wrap .i64 (n4 - 8)) ∧ (IntKind.wrap .i64 (n4 - 8)) < ((a.len : Nat) : Int)) ∧
    (∃ u : Value, w35.cell? (a36.add (Int.toNat (IntKind.wrap .i64 (n4 - 8)) * 1)) = some u) ∧
    w35.frozen? (a36.add (Int.toNat (IntKind.wrap .i64 (n4 - 8)) * 1)) = false ∧
    Nx (
      w35.setCell (a36.add (Int.toNat (IntKind.wrap .i64 (n4 - 8)) * 1)) (.int .u8 ((b33.toNat : Nat) : Int)))
    fun w37 => I1 (IntKind.wrap .u64 (Int.tdiv n3 100000000)) (IntKind.wrap .i64 (n4 - 8)) w37 ∧
    μ2 (IntKind.wrap .u64 (Int.tdiv n3 100000000)) (IntKind.wrap .i64 (n4 - 8)) w37 < μ2 n3 n4 w5)
  ∧ (
    (decide ((n4 : Int) ≥ 8)) = false → Jn (
      fun k38 : Int → Int → World → Prop => (
        (decide ((n4 : Int) ≥ 4)) = true → (10000 : Int) ≠ 0 ∧ (10000 : Int) ≠ 0 ∧
        (100 : Int) ≠ 0 ∧ (100 : Int) ≠ 0 ∧ Nx (w5.drew) fun w39 => ∃ W40 : Nat →
        Prop, (0 : Int) ≤ (
          IntKind.wrap .u32 ((IntKind.wrap .u32 ((Int.tmod (Int.tmod (IntKind.wrap .u32 n3) 10000) 100) * 2)) + 1))
        ∧ ∃ b41 : UInt8, byteAt (
          ByteArray.mk #[48, 48, 48, 49, 48, 50, 48, 51, 48, 52, 48, 53, 48, 54, 48, 55, 48, 56, 48, 57, 49, 48, 49, 49, 49, 50, 49, 51, 49, 52, 49, 53, 49, 54, 49, 55, 49, 56, 49, 57, 50, 48, 50, 49, 50, 50, 50, 51, 50, 52, 50, 53, 50, 54, 50, 55, 50, 56, 50, 57, 51, 48, 51, 49, 51, 50, 51, 51, 51, 52, 51, 53, 51, 54, 51, 55, 51, 56, 51, 57, 52, 48, 52, 49, 52, 50, 52, 51, 52, 52, 52, 53, 52, 54, 52, 55, 52, 56, 52, 57, 53, 48, 53, 49, 53, 50, 53, 51, 53, 52, 53, 53, 53, 54, 53, 55, 53, 56, 53, 57, 54, 48, 54, 49, 54, 50, 54, 51, 54, 52, 54, 53, 54, 54, 54, 55, 54, 56, 54, 57, 55, 48, 55, 49, 55, 50, 55, 51, 55, 52, 55, 53, 55, 54, 55, 55, 55, 56, 55, 57, 56, 48, 56, 49, 56, 50, 56, 51, 56, 52, 56, 53, 56, 54, 56, 55, 56, 56, 56, 57, 57, 48, 57, 49, 57, 50, 57, 51, 57, 52, 57, 53, 57, 54, 57, 55, 57, 56, 57, 57])
        (
          Int.toNat (
            IntKind.wrap .u32 ((IntKind.wrap .u32 ((Int.tmod (Int.tmod (IntKind.wrap .u32 n3) 10000) 100) * 2)) + 1))
          )
        = some b41 ∧ (0 : Int) ≤ (IntKind.wrap .u32 ((Int.tmod (Int.tmod (IntKind.wrap .u32 n3) 10000) 100) * 2)) ∧
        ∃ b42 : UInt8, byteAt (
          ByteArray.mk #[48, 48, 48, 49, 48, 50, 48, 51, 48, 52, 48, 53, 48, 54, 48, 55, 48, 56, 48, 57, 49, 48, 49, 49, 49, 50, 49, 51, 49, 52, 49, 53, 49, 54, 49, 55, 49, 56, 49, 57, 50, 48, 50, 49, 50, 50, 50, 51, 50, 52, 50, 53, 50, 54, 50, 55, 50, 56, 50, 57, 51, 48, 51, 49, 51, 50, 51, 51, 51, 52, 51, 53, 51, 54, 51, 55, 51, 56, 51, 57, 52, 48, 52, 49, 52, 50, 52, 51, 52, 52, 52, 53, 52, 54, 52, 55, 52, 56, 52, 57, 53, 48, 53, 49, 53, 50, 53, 51, 53, 52, 53, 53, 53, 54, 53, 55, 53, 56, 53, 57, 54, 48, 54, 49, 54, 50, 54, 51, 54, 52, 54, 53, 54, 54, 54, 55, 54, 56, 54, 57, 55, 48, 55, 49, 55, 50, 55, 51, 55, 52, 55, 53, 55, 54, 55, 55, 55, 56, 55, 57, 56, 48, 56, 49, 56, 50, 56, 51, 56, 52, 56, 53, 56, 54, 56, 55, 56, 56, 56, 57, 57, 48, 57, 49, 57, 50, 57, 51, 57, 52, 57, 53, 57, 54, 57, 55, 57, 56, 57, 57])
        (Int.toNat (IntKind.wrap .u32 ((Int.tmod (Int.tmod (IntKind.wrap .u32 n3) 10000) 100) * 2))) = some b42 ∧
        ∃ a43 : Addr, a.a = some a43 ∧ ((0 : Int) ≤ (IntKind.wrap .i64 (n4 - 1)) ∧ (IntKind.wrap .i64 (n4 - 1)) < ((a.len : Nat) : Int)) ∧
        (∃ u : Value, w39.cell? (a43.add (Int.toNat (IntKind.wrap .i64 (n4 - 1)) * 1)) = some u) ∧
        w39.frozen? (a43.add (Int.toNat (IntKind.wrap .i64 (n4 - 1)) * 1)) = false ∧
        Nx (
          w39.setCell (a43.add (Int.toNat (IntKind.wrap .i64 (n4 - 1)) * 1)) (.int .u8 ((b41.toNat : Nat) : Int)))
        fun w44 => ∃ a45 : Addr, a.a = some a45 ∧ ((0 : Int) ≤ (IntKind.wrap .i64 (n4 - 2)) ∧ (IntKind.wrap .i64 (n4 - 2)) < ((a.len : Nat) : Int)) ∧
        (∃ u : Value, w44.cell? (a45.add (Int.toNat (IntKind.wrap .i64 (n4 - 2)) * 1)) = some u) ∧
        w44.frozen? (a45.add (Int.toNat (IntKind.wrap .i64 (n4 - 2)) * 1)) = false ∧
        Nx (
          w44.setCell (a45.add (Int.toNat (IntKind.wrap .i64 (n4 - 2)) * 1)) (.int .u8 ((b42.toNat : Nat) : Int)))
        fun w46 => Nx (w46.drew) fun w47 => ∃ W48 : Nat → Prop, (0 : Int) ≤ (
          IntKind.wrap .u32 (
            (IntKind.wrap .u32 ((IntKind.wrap .u32 (Int.tdiv (Int.tmod (IntKind.wrap .u32 n3) 10000) 100)) * 2)) + 1)
          )
        ∧ ∃ b49 : UInt8, byteAt (
          ByteArray.mk #[48, 48, 48, 49, 48, 50, 48, 51, 48, 52, 48, 53, 48, 54, 48, 55, 48, 56, 48, 57, 49, 48, 49, 49, 49, 50, 49, 51, 49, 52, 49, 53, 49, 54, 49, 55, 49, 56, 49, 57, 50, 48, 50, 49, 50, 50, 50, 51, 50, 52, 50, 53, 50, 54, 50, 55, 50, 56, 50, 57, 51, 48, 51, 49, 51, 50, 51, 51, 51, 52, 51, 53, 51, 54, 51, 55, 51, 56, 51, 57, 52, 48, 52, 49, 52, 50, 52, 51, 52, 52, 52, 53, 52, 54, 52, 55, 52, 56, 52, 57, 53, 48, 53, 49, 53, 50, 53, 51, 53, 52, 53, 53, 53, 54, 53, 55, 53, 56, 53, 57, 54, 48, 54, 49, 54, 50, 54, 51, 54, 52, 54, 53, 54, 54, 54, 55, 54, 56, 54, 57, 55, 48, 55, 49, 55, 50, 55, 51, 55, 52, 55, 53, 55, 54, 55, 55, 55, 56, 55, 57, 56, 48, 56, 49, 56, 50, 56, 51, 56, 52, 56, 53, 56, 54, 56, 55, 56, 56, 56, 57, 57, 48, 57, 49, 57, 50, 57, 51, 57, 52, 57, 53, 57, 54, 57, 55, 57, 56, 57, 57])
        (
          Int.toNat (
            IntKind.wrap .u32 (
              (IntKind.wrap .u32 ((IntKind.wrap .u32 (Int.tdiv (Int.tmod (IntKind.wrap .u32 n3) 10000) 100)) * 2)) + 1)
            )
          )
        = some b49 ∧ (0 : Int) ≤ (IntKind.wrap .u32 ((IntKind.wrap .u32 (Int.tdiv (Int.tmod (IntKind.wrap .u32 n3) 10000) 100)) * 2)) ∧
        ∃ b50 : UInt8, byteAt (
          ByteArray.mk #[48, 48, 48, 49, 48, 50, 48, 51, 48, 52, 48, 53, 48, 54, 48, 55, 48, 56, 48, 57, 49, 48, 49, 49, 49, 50, 49, 51, 49, 52, 49, 53, 49, 54, 49, 55, 49, 56, 49, 57, 50, 48, 50, 49, 50, 50, 50, 51, 50, 52, 50, 53, 50, 54, 50, 55, 50, 56, 50, 57, 51, 48, 51, 49, 51, 50, 51, 51, 51, 52, 51, 53, 51, 54, 51, 55, 51, 56, 51, 57, 52, 48, 52, 49, 52, 50, 52, 51, 52, 52, 52, 53, 52, 54, 52, 55, 52, 56, 52, 57, 53, 48, 53, 49, 53, 50, 53, 51, 53, 52, 53, 53, 53, 54, 53, 55, 53, 56, 53, 57, 54, 48, 54, 49, 54, 50, 54, 51, 54, 52, 54, 53, 54, 54, 54, 55, 54, 56, 54, 57, 55, 48, 55, 49, 55, 50, 55, 51, 55, 52, 55, 53, 55, 54, 55, 55, 55, 56, 55, 57, 56, 48, 56, 49, 56, 50, 56, 51, 56, 52, 56, 53, 56, 54, 56, 55, 56, 56, 56, 57, 57, 48, 57, 49, 57, 50, 57, 51, 57, 52, 57, 53, 57, 54, 57, 55, 57, 56, 57, 57])
        (
          Int.toNat (IntKind.wrap .u32 ((IntKind.wrap .u32 (Int.tdiv (Int.tmod (IntKind.wrap .u32 n3) 10000) 100)) * 2)))
        = some b50 ∧ ∃ a51 : Addr, a.a = some a51 ∧ ((0 : Int) ≤ (IntKind.wrap .i64 (n4 - 3)) ∧ (IntKind.wrap .i64 (n4 - 3)) < ((a.len : Nat) : Int)) ∧
        (∃ u : Value, w47.cell? (a51.add (Int.toNat (IntKind.wrap .i64 (n4 - 3)) * 1)) = some u) ∧
        w47.frozen? (a51.add (Int.toNat (IntKind.wrap .i64 (n4 - 3)) * 1)) = false ∧
        Nx (
          w47.setCell (a51.add (Int.toNat (IntKind.wrap .i64 (n4 - 3)) * 1)) (.int .u8 ((b49.toNat : Nat) : Int)))
        fun w52 => ∃ a53 : Addr, a.a = some a53 ∧ ((0 : Int) ≤ (IntKind.wrap .i64 (n4 - 4)) ∧ (IntKind.wrap .i64 (n4 - 4)) < ((a.len : Nat) : Int)) ∧
        (∃ u : Value, w52.cell? (a53.add (Int.toNat (IntKind.wrap .i64 (n4 - 4)) * 1)) = some u) ∧
        w52.frozen? (a53.add (Int.toNat (IntKind.wrap .i64 (n4 - 4)) * 1)) = false ∧
        Nx (
          w52.setCell (a53.add (Int.toNat (IntKind.wrap .i64 (n4 - 4)) * 1)) (.int .u8 ((b50.toNat : Nat) : Int)))
        fun w54 => k38 (IntKind.wrap .i64 (n4 - 4)) (IntKind.wrap .u32 (Int.tdiv (IntKind.wrap .u32 n3) 10000)) w54)
      ∧ ((decide ((n4 : Int) ≥ 4)) = false → k38 n4 (IntKind.wrap .u32 n3) w5))
    (
      fun (n55 : Int) (n56 : Int) (w57 : World) => Jn (
        fun k58 : Int → Int → World → Prop => (
          (decide ((n55 : Int) ≥ 2)) = true → (100 : Int) ≠ 0 ∧ (100 : Int) ≠ 0 ∧ Nx (w57.drew) fun w59 =>
          ∃ W60 : Nat → Prop, (0 : Int) ≤ (IntKind.wrap .u32 ((IntKind.wrap .u32 ((Int.tmod n56 100) * 2)) + 1)) ∧
          ∃ b61 : UInt8, byteAt (
            ByteArray.mk #[48, 48, 48, 49, 48, 50, 48, 51, 48, 52, 48, 53, 48, 54, 48, 55, 48, 56, 48, 57, 49, 48, 49, 49, 49, 50, 49, 51, 49, 52, 49, 53, 49, 54, 49, 55, 49, 56, 49, 57, 50, 48, 50, 49, 50, 50, 50, 51, 50, 52, 50, 53, 50, 54, 50, 55, 50, 56, 50, 57, 51, 48, 51, 49, 51, 50, 51, 51, 51, 52, 51, 53, 51, 54, 51, 55, 51, 56, 51, 57, 52, 48, 52, 49, 52, 50, 52, 51, 52, 52, 52, 53, 52, 54, 52, 55, 52, 56, 52, 57, 53, 48, 53, 49, 53, 50, 53, 51, 53, 52, 53, 53, 53, 54, 53, 55, 53, 56, 53, 57, 54, 48, 54, 49, 54, 50, 54, 51, 54, 52, 54, 53, 54, 54, 54, 55, 54, 56, 54, 57, 55, 48, 55, 49, 55, 50, 55, 51, 55, 52, 55, 53, 55, 54, 55, 55, 55, 56, 55, 57, 56, 48, 56, 49, 56, 50, 56, 51, 56, 52, 56, 53, 56, 54, 56, 55, 56, 56, 56, 57, 57, 48, 57, 49, 57, 50, 57, 51, 57, 52, 57, 53, 57, 54, 57, 55, 57, 56, 57, 57])
          (Int.toNat (IntKind.wrap .u32 ((IntKind.wrap .u32 ((Int.tmod n56 100) * 2)) + 1))) = some b61 ∧
          (0 : Int) ≤ (IntKind.wrap .u32 ((Int.tmod n56 100) * 2)) ∧ ∃ b62 : UInt8, byteAt (
            ByteArray.mk #[48, 48, 48, 49, 48, 50, 48, 51, 48, 52, 48, 53, 48, 54, 48, 55, 48, 56, 48, 57, 49, 48, 49, 49, 49, 50, 49, 51, 49, 52, 49, 53, 49, 54, 49, 55, 49, 56, 49, 57, 50, 48, 50, 49, 50, 50, 50, 51, 50, 52, 50, 53, 50, 54, 50, 55, 50, 56, 50, 57, 51, 48, 51, 49, 51, 50, 51, 51, 51, 52, 51, 53, 51, 54, 51, 55, 51, 56, 51, 57, 52, 48, 52, 49, 52, 50, 52, 51, 52, 52, 52, 53, 52, 54, 52, 55, 52, 56, 52, 57, 53, 48, 53, 49, 53, 50, 53, 51, 53, 52, 53, 53, 53, 54, 53, 55, 53, 56, 53, 57, 54, 48, 54, 49, 54, 50, 54, 51, 54, 52, 54, 53, 54, 54, 54, 55, 54, 56, 54, 57, 55, 48, 55, 49, 55, 50, 55, 51, 55, 52, 55, 53, 55, 54, 55, 55, 55, 56, 55, 57, 56, 48, 56, 49, 56, 50, 56, 51, 56, 52, 56, 53, 56, 54, 56, 55, 56, 56, 56, 57, 57, 48, 57, 49, 57, 50, 57, 51, 57, 52, 57, 53, 57, 54, 57, 55, 57, 56, 57, 57])
          (Int.toNat (IntKind.wrap .u32 ((Int.tmod n56 100) * 2))) = some b62 ∧ ∃ a63 : Addr, a.a = some a63 ∧
          ((0 : Int) ≤ (IntKind.wrap .i64 (n55 - 1)) ∧ (IntKind.wrap .i64 (n55 - 1)) < ((a.len : Nat) : Int)) ∧
          (∃ u : Value, w59.cell? (a63.add (Int.toNat (IntKind.wrap .i64 (n55 - 1)) * 1)) = some u) ∧
          w59.frozen? (a63.add (Int.toNat (IntKind.wrap .i64 (n55 - 1)) * 1)) = false ∧
          Nx (
            w59.setCell (a63.add (Int.toNat (IntKind.wrap .i64 (n55 - 1)) * 1)) (.int .u8 ((b61.toNat : Nat) : Int)))
          fun w64 => ∃ a65 : Addr, a.a = some a65 ∧ ((0 : Int) ≤ (IntKind.wrap .i64 (n55 - 2)) ∧ (IntKind.wrap .i64 (n55 - 2)) < ((a.len : Nat) : Int)) ∧
          (∃ u : Value, w64.cell? (a65.add (Int.toNat (IntKind.wrap .i64 (n55 - 2)) * 1)) = some u) ∧
          w64.frozen? (a65.add (Int.toNat (IntKind.wrap .i64 (n55 - 2)) * 1)) = false ∧
          Nx (
            w64.setCell (a65.add (Int.toNat (IntKind.wrap .i64 (n55 - 2)) * 1)) (.int .u8 ((b62.toNat : Nat) : Int)))
          fun w66 => k58 (IntKind.wrap .i64 (n55 - 2)) (IntKind.wrap .u32 (Int.tdiv n56 100)) w66)
        ∧ ((decide ((n55 : Int) ≥ 2)) = false → k58 n55 n56 w57))
      (
        fun (n67 : Int) (n68 : Int) (w69 : World) => (
          (decide ((n67 : Int) > 0)) = true → ∃ a70 : Addr, a.a = some a70 ∧ ((0 : Int) ≤ 0 ∧ 0 < ((a.len : Nat) : Int)) ∧
          (∃ u : Value, w69.cell? (a70.add (Int.toNat 0 * 1)) = some u) ∧ w69.frozen? (a70.add (Int.toNat 0 * 1)) = false ∧
          Nx (
            w69.setCell (a70.add (Int.toNat 0 * 1)) (.int .u8 (IntKind.wrap .u8 (IntKind.wrap .u32 (48 + n68)))))
          fun w71 => Q (.tuple #[]) w71)
        ∧ ((decide ((n67 : Int) > 0)) = false → Q (.tuple #[]) w69))
      )
    )
def A.internal_strconv_formatBase10 : AT := (.seq (.reg []) (.seq (.blk (.loop [(1, (.int .u64)), (4, (.int .i64))] [0] (.seq (.seq (.reg []) (.cond .leaf .leaf)) (.blk (.seq (.reg []) (.seq (.reg []) (.seq (.reg []) (.seq (.reg []) (.seq (.reg []) (.seq (.drw 13 true ⟨[0, 0, 2, 0, 0, 16, 0, 64, 128, 0, 512, 455, 2503, 8191, 16383], [0, 0, 2, 0, 0, 16, 0, 64, 128, 0, 512, 5, 2304, 40, 9216]⟩ [4398046511104, 8796093022208, 17592186044416, 35184372088832, 70368744177664, 140737488355328, 281474976710656, 562949953421312, 1125899906842624, 2251799813685248, 4503599627370496, 9007199254740992, 0, 18014398509481984, 0] [1, 16, 8796093022208, 1, 16, 70368744177664, 512, 281474976710656, 562949953421312, 512, 2251799813685248, 21990232555520, 10133099161583616, 175921860444160, 22517998136852480] (.take 0 (.take 1 (.take 2 (.take 3 (.take 4 (.take 5 (.take 6 (.take 7 (.take 8 (.take 9 (.take 10 (.take 11 (.out 12 false (.tail [.run, .run]))))))))))))))) (.seq (.drw 13 true ⟨[0, 0, 2, 0, 0, 16, 0, 64, 128, 0, 512, 455, 2503, 8191, 16383], [0, 0, 2, 0, 0, 16, 0, 64, 128, 0, 512, 5, 2304, 40, 9216]⟩ [36028797018963968, 72057594037927936, 144115188075855872, 288230376151711744, 576460752303423488, 1152921504606846976, 2305843009213693952, 4611686018427387904, 9223372036854775808, 18446744073709551616, 36893488147419103232, 73786976294838206464, 0, 147573952589676412928, 0] [1, 16, 72057594037927936, 1, 16, 576460752303423488, 256, 2305843009213693952, 4611686018427387904, 256, 18446744073709551616, 180143985094819840, 83010348331692982272, 1441151880758558720, 184467440737095516160] (.take 0 (.take 1 (.take 2 (.take 3 (.take 4 (.take 5 (.take 6 (.take 7 (.take 8 (.take 9 (.take 10 (.take 11 (.out 12 false (.tail [.run, .run]))))))))))))))) (.seq (.drw 13 true ⟨[0, 0, 2, 0, 0, 16, 0, 64, 128, 0, 512, 455, 2503, 8191, 16383], [0, 0, 2, 0, 0, 16, 0, 64, 128, 0, 512, 5, 2304, 40, 9216]⟩ [295147905179352825856, 590295810358705651712, 1180591620717411303424, 2361183241434822606848, 4722366482869645213696, 9444732965739290427392, 18889465931478580854784, 37778931862957161709568, 75557863725914323419136, 151115727451828646838272, 302231454903657293676544, 604462909807314587353088, 0, 1208925819614629174706176, 0] [1, 16, 590295810358705651712, 1, 16, 4722366482869645213696, 2048, 18889465931478580854784, 37778931862957161709568, 2048, 151115727451828646838272, 1475739525896764129280, 680020773533228910772224, 11805916207174113034240, 1511157274518286468382720] (.take 0 (.take 1 (.take 2 (.take 3 (.take 4 (.take 5 (.take 6 (.take 7 (.take 8 (.take 9 (.take 10 (.take 11 (.out 12 false (.tail [.run, .run]))))))))))))))) (.seq (.drw 13 true ⟨[0, 0, 2, 0, 0, 16, 0, 64, 128, 0, 512, 455, 2503, 8191, 16383], [0, 0, 2, 0, 0, 16, 0, 64, 128, 0, 512, 5, 2304, 40, 9216]⟩ [2417851639229258349412352, 4835703278458516698824704, 9671406556917033397649408, 19342813113834066795298816, 38685626227668133590597632, 77371252455336267181195264, 154742504910672534362390528, 309485009821345068724781056, 618970019642690137449562112, 1237940039285380274899124224, 2475880078570760549798248448, 4951760157141521099596496896, 0, 9903520314283042199192993792, 0] [1, 16, 4835703278458516698824704, 1, 16, 38685626227668133590597632, 1024, 154742504910672534362390528, 309485009821345068724781056, 1024, 1237940039285380274899124224, 12089258196146291747061760, 5570730176784211237046059008, 96714065569170333976494080, 12379400392853802748991242240] (.take 0 (.take 1 (.take 2 (.take 3 (.take 4 (.take 5 (.take 6 (.take 7 (.take 8 (.take 9 (.take 10 (.take 11 (.out 12 false (.tail [.run, .run]))))))))))))))) (.reg [])))))))))))))) (.seq (.reg []) (.seq (.jk [(4, (.int .i64)), (12, (.int .u32))] [0] (.seq (.reg []) (.cond (.seq (.reg []) (.seq (.reg []) (.seq (.reg []) (.seq (.drw 13 true ⟨[0, 0, 2, 0, 0, 16, 0, 64, 128, 0, 512, 455, 2503, 8191, 16383], [0, 0, 2, 0, 0, 16, 0, 64, 128, 0, 512, 5, 2304, 40, 9216]⟩ [1298074214633706907132624082305024, 2596148429267413814265248164610048, 5192296858534827628530496329220096, 10384593717069655257060992658440192, 20769187434139310514121985316880384, 41538374868278621028243970633760768, 83076749736557242056487941267521536, 166153499473114484112975882535043072, 332306998946228968225951765070086144, 664613997892457936451903530140172288, 1329227995784915872903807060280344576, 2658455991569831745807614120560689152, 0, 5316911983139663491615228241121378304, 0] [1, 16, 2596148429267413814265248164610048, 1, 16, 20769187434139310514121985316880384, 32768, 83076749736557242056487941267521536, 166153499473114484112975882535043072, 32768, 664613997892457936451903530140172288, 6490371073168534535663120411525120, 2990762990516060714033565885630775296, 51922968585348276285304963292200960, 6646139978924579364519035301401722880] (.take 0 (.take 1 (.take 2 (.take 3 (.take 4 (.take 5 (.take 6 (.take 7 (.take 8 (.take 9 (.take 10 (.take 11 (.out 12 false (.tail [.run, .run]))))))))))))))) (.seq (.drw 13 true ⟨[0, 0, 2, 0, 0, 16, 0, 64, 128, 0, 512, 455, 2503, 8191, 16383], [0, 0, 2, 0, 0, 16, 0, 64, 128, 0, 512, 5, 2304, 40, 9216]⟩ [10633823966279326983230456482242756608, 21267647932558653966460912964485513216, 42535295865117307932921825928971026432, 85070591730234615865843651857942052864, 170141183460469231731687303715884105728, 340282366920938463463374607431768211456, 680564733841876926926749214863536422912, 1361129467683753853853498429727072845824, 2722258935367507707706996859454145691648, 5444517870735015415413993718908291383296, 10889035741470030830827987437816582766592, 21778071482940061661655974875633165533184, 0, 43556142965880123323311949751266331066368, 0] [1, 16, 21267647932558653966460912964485513216, 1, 16, 170141183460469231731687303715884105728, 16384, 680564733841876926926749214863536422912, 1361129467683753853853498429727072845824, 16384, 5444517870735015415413993718908291383296, 53169119831396634916152282411213783040, 24500330418307569369362971735087311224832, 425352958651173079329218259289710264320, 54445178707350154154139937189082913832960] (.take 0 (.take 1 (.take 2 (.take 3 (.take 4 (.take 5 (.take 6 (.take 7 (.take 8 (.take 9 (.take 10 (.take 11 (.out 12 false (.tail [.run, .run]))))))))))))))) (.reg [])))))) .leaf))) (.seq (.jk [(4, (.int .i64)), (12, (.int .u32))] [0] (.seq (.reg []) (.cond (.seq (.reg []) (.seq (.reg []) (.seq (.drw 13 true ⟨[0, 0, 2, 0, 0, 16, 0, 64, 128, 0, 512, 455, 2503, 8191, 16383], [0, 0, 2, 0, 0, 16, 0, 64, 128, 0, 512, 5, 2304, 40, 9216]⟩ [44601490397061246283071436545296723011960832, 89202980794122492566142873090593446023921664, 178405961588244985132285746181186892047843328, 356811923176489970264571492362373784095686656, 713623846352979940529142984724747568191373312, 1427247692705959881058285969449495136382746624, 2854495385411919762116571938898990272765493248, 5708990770823839524233143877797980545530986496, 11417981541647679048466287755595961091061972992, 22835963083295358096932575511191922182123945984, 45671926166590716193865151022383844364247891968, 91343852333181432387730302044767688728495783936, 0, 182687704666362864775460604089535377456991567872, 0] [1, 16, 89202980794122492566142873090593446023921664, 1, 16, 713623846352979940529142984724747568191373312, 65536, 2854495385411919762116571938898990272765493248, 5708990770823839524233143877797980545530986496, 65536, 22835963083295358096932575511191922182123945984, 223007451985306231415357182726483615059804160, 102761833874829111436196589800363649819557756928, 1784059615882449851322857461811868920478433280, 228359630832953580969325755111919221821239459840] (.take 0 (.take 1 (.take 2 (.take 3 (.take 4 (.take 5 (.take 6 (.take 7 (.take 8 (.take 9 (.take 10 (.take 11 (.out 12 false (.tail [.run, .run]))))))))))))))) (.reg [])))) .leaf))) (.seq (.reg []) (.cond (.reg []) .leaf)))))))
theorem W.internal_strconv_formatBase10_eq (a : Sl) (u : Int) (w : World) (Q : Value → World → Prop) : W.internal_strconv_formatBase10 a u w Q = DF Tryz.prog tk A.internal_strconv_formatBase10 Tryz.f158 [.slice a.a a.len a.cap, .int .u64 u] w Q := by kernel_rfl
theorem W.internal_strconv_formatBase10_ok (a : Sl) (u : Int) (w : World) (Q : Value → World → Prop) (h : W.internal_strconv_formatBase10 a u w Q) : Calls Tryz.prog F.internal_strconv_formatBase10 #[.slice a.a a.len a.cap, .int .u64 u] w fun e w1 => ∃ v, e = .returned v ∧ Q v w1 :=
  calls_of_DF hmix Tryz.func158 (by kernel_rfl) (Eq.mp (W.internal_strconv_formatBase10_eq a u w Q) h)

/-- internal/strconv.formatBits -/
def W.internal_strconv_formatBits (dst : Sl) (u : Int) (base : Int) (neg : Bool) (append_ : Bool) (w : World) (Q : Value → World → Prop) : Prop :=
  Jn (
    fun k1 : World → Prop => (
      (((decide ((base : Int) < 2)) || ((base : Int) == 10)) || (decide ((base : Int) > 36))) = true →
      False)
    ∧ (
      (((decide ((base : Int) < 2)) || ((base : Int) == 10)) || (decide ((base : Int) > 36))) = false →
      k1 w)
    )
  (
    fun  (w2 : World) => Nx (
      w2.alloc (
        .cells #[.int .u8 0, .int .u8 0, .int .u8 0, .int .u8 0, .int .u8 0, .int .u8 0, .int .u8 0, .int .u8 0, .int .u8 0, .int .u8 0, .int .u8 0, .int .u8 0, .int .u8 0, .int .u8 0, .int .u8 0, .int .u8 0, .int .u8 0, .int .u8 0, .int .u8 0, .int .u8 0, .int .u8 0, .int .u8 0, .int .u8 0, .int .u8 0, .int .u8 0, .int .u8 0, .int .u8 0, .int .u8 0, .int .u8 0, .int .u8 0, .int .u8 0, .int .u8 0, .int .u8 0, .int .u8 0, .int .u8 0, .int .u8 0, .int .u8 0, .int .u8 0, .int .u8 0, .int .u8 0, .int .u8 0, .int .u8 0, .int .u8 0, .int .u8 0, .int .u8 0, .int .u8 0, .int .u8 0, .int .u8 0, .int .u8 0, .int .u8 0, .int .u8 0, .int .u8 0, .int .u8 0, .int .u8 0, .int .u8 0, .int .u8 0, .int .u8 0, .int .u8 0, .int .u8 0, .int .u8 0, .int .u8 0, .int .u8 0, .int .u8 0, .int .u8 0, .int .u8 0] Ty.n65_uint8)
      )
    fun w3 => Jn (
      fun k4 : Int → World → Prop => (neg = true → k4 (IntKind.wrap .u64 (0 - u)) w3) ∧
      (neg = false → k4 u w3))
    (
      fun (n5 : Int) (w6 : World) => Jn (
        fun k7 : Int → World → Prop => Calls Tryz.prog F.internal_strconv_isPowerOfTwo #[.int .i64 base] w6 fun e9 w8 =>
        ∃ b10 : Bool, e9 = .returned (.bool b10) ∧ (
          b10 = true → Calls Tryz.prog F.math_bits_TrailingZeros #[.int .u64 (IntKind.wrap .u64 base)] w8 fun e12 w11 =>
          ∃ n13 : Int, e12 = .returned (.int .i64 n13) ∧ ∃ (I14 : Int → Int → World → Prop) (μ15 : Int → Int → World → Nat), I14 n5 65 w11 ∧
          ∀ (n16 : Int) (n17 : Int) (w18 : World), I14 n16 n17 w18 → (
            (decide ((n16 : Int) ≥ (IntKind.wrap .u64 base))) = true → (0 : Int) ≤ (bAnd .u64 n16 (IntKind.wrap .u64 ((IntKind.wrap .u64 base) - 1))) ∧
            ∃ b19 : UInt8, byteAt (
              ByteArray.mk #[48, 49, 50, 51, 52, 53, 54, 55, 56, 57, 97, 98, 99, 100, 101, 102, 103, 104, 105, 106, 107, 108, 109, 110, 111, 112, 113, 114, 115, 116, 117, 118, 119, 120, 121, 122])
            (Int.toNat (bAnd .u64 n16 (IntKind.wrap .u64 ((IntKind.wrap .u64 base) - 1)))) = some b19 ∧
            ((0 : Int) ≤ (IntKind.wrap .i64 (n17 - 1)) ∧ (IntKind.wrap .i64 (n17 - 1)) < ((65 : Nat) : Int)) ∧
            (
              ∃ u : Value, w18.cell? (Addr.add ⟨w2.heap.size, 0, none⟩ (Int.toNat (IntKind.wrap .i64 (n17 - 1)) * 1)) = some u)
            ∧ w18.frozen? (Addr.add ⟨w2.heap.size, 0, none⟩ (Int.toNat (IntKind.wrap .i64 (n17 - 1)) * 1)) = false ∧
            Nx (
              w18.setCell (Addr.add ⟨w2.heap.size, 0, none⟩ (Int.toNat (IntKind.wrap .i64 (n17 - 1)) * 1)) (.int .u8 ((b19.toNat : Nat) : Int)))
            fun w20 => (0 : Int) ≤ (IntKind.wrap .u64 n13) ∧ I14 (Int.fdiv n16 (2 ^ (min (Int.toNat (IntKind.wrap .u64 n13)) 64))) (IntKind.wrap .i64 (n17 - 1)) w20 ∧
            μ15 (Int.fdiv n16 (2 ^ (min (Int.toNat (IntKind.wrap .u64 n13)) 64))) (IntKind.wrap .i64 (n17 - 1)) w20 < μ15 n16 n17 w18)
          ∧ (
            (decide ((n16 : Int) ≥ (IntKind.wrap .u64 base))) = false → (0 : Int) ≤ n16 ∧
            ∃ b21 : UInt8, byteAt (
              ByteArray.mk #[48, 49, 50, 51, 52, 53, 54, 55, 56, 57, 97, 98, 99, 100, 101, 102, 103, 104, 105, 106, 107, 108, 109, 110, 111, 112, 113, 114, 115, 116, 117, 118, 119, 120, 121, 122])
            (Int.toNat n16) = some b21 ∧ ((0 : Int) ≤ (IntKind.wrap .i64 (n17 - 1)) ∧ (IntKind.wrap .i64 (n17 - 1)) < ((65 : Nat) : Int)) ∧
            (
              ∃ u : Value, w18.cell? (Addr.add ⟨w2.heap.size, 0, none⟩ (Int.toNat (IntKind.wrap .i64 (n17 - 1)) * 1)) = some u)
            ∧ w18.frozen? (Addr.add ⟨w2.heap.size, 0, none⟩ (Int.toNat (IntKind.wrap .i64 (n17 - 1)) * 1)) = false ∧
            Nx (
              w18.setCell (Addr.add ⟨w2.heap.size, 0, none⟩ (Int.toNat (IntKind.wrap .i64 (n17 - 1)) * 1)) (.int .u8 ((b21.toNat : Nat) : Int)))
            fun w22 => k7 (IntKind.wrap .i64 (n17 - 1)) w22)
          )
        ∧ (
          b10 = false → ∃ (I23 : Int → Int → World → Prop) (μ24 : Int → Int → World → Nat), I23 n5 65 w8 ∧
          ∀ (n25 : Int) (n26 : Int) (w27 : World), I23 n25 n26 w27 → (
            (decide ((n25 : Int) ≥ (IntKind.wrap .u64 base))) = true → ((IntKind.wrap .u64 base) : Int) ≠ 0 ∧
            (0 : Int) ≤ (
              IntKind.wrap .u64 (
                n25 - (
                  IntKind.wrap .u64 ((IntKind.wrap .u64 (Int.tdiv n25 (IntKind.wrap .u64 base))) * (IntKind.wrap .u64 base)))
                )
              )
            ∧ ∃ b28 : UInt8, byteAt (
              ByteArray.mk #[48, 49, 50, 51, 52, 53, 54, 55, 56, 57, 97, 98, 99, 100, 101, 102, 103, 104, 105, 106, 107, 108, 109, 110, 111, 112, 113, 114, 115, 116, 117, 118, 119, 120, 121, 122])
            (
              Int.toNat (
                IntKind.wrap .u64 (
                  n25 - (
                    IntKind.wrap .u64 ((IntKind.wrap .u64 (Int.tdiv n25 (IntKind.wrap .u64 base))) * (IntKind.wrap .u64 base)))
                  )
                )
              )
            = some b28 ∧ ((0 : Int) ≤ (IntKind.wrap .i64 (n26 - 1)) ∧ (IntKind.wrap .i64 (n26 - 1)) < ((65 : Nat) : Int)) ∧
            (
              ∃ u : Value, w27.cell? (Addr.add ⟨w2.heap.size, 0, none⟩ (Int.toNat (IntKind.wrap .i64 (n26 - 1)) * 1)) = some u)
            ∧ w27.frozen? (Addr.add ⟨w2.heap.size, 0, none⟩ (Int.toNat (IntKind.wrap .i64 (n26 - 1)) * 1)) = false ∧
            Nx (
              w27.setCell (Addr.add ⟨w2.heap.size, 0, none⟩ (Int.toNat (IntKind.wrap .i64 (n26 - 1)) * 1)) (.int .u8 ((b28.toNat : Nat) : Int)))
            fun w29 => I23 (IntKind.wrap .u64 (Int.tdiv n25 (IntKind.wrap .u64 base))) (IntKind.wrap .i64 (n26 - 1)) w29 ∧
            μ24 (IntKind.wrap .u64 (Int.tdiv n25 (IntKind.wrap .u64 base))) (IntKind.wrap .i64 (n26 - 1)) w29 < μ24 n25 n26 w27)
          ∧ (
            (decide ((n25 : Int) ≥ (IntKind.wrap .u64 base))) = false → (0 : Int) ≤ n25 ∧
            ∃ b30 : UInt8, byteAt (
              ByteArray.mk #[48, 49, 50, 51, 52, 53, 54, 55, 56, 57, 97, 98, 99, 100, 101, 102, 103, 104, 105, 106, 107, 108, 109, 110, 111, 112, 113, 114, 115, 116, 117, 118, 119, 120, 121, 122])
            (Int.toNat n25) = some b30 ∧ ((0 : Int) ≤ (IntKind.wrap .i64 (n26 - 1)) ∧ (IntKind.wrap .i64 (n26 - 1)) < ((65 : Nat) : Int)) ∧
            (
              ∃ u : Value, w27.cell? (Addr.add ⟨w2.heap.size, 0, none⟩ (Int.toNat (IntKind.wrap .i64 (n26 - 1)) * 1)) = some u)
            ∧ w27.frozen? (Addr.add ⟨w2.heap.size, 0, none⟩ (Int.toNat (IntKind.wrap .i64 (n26 - 1)) * 1)) = false ∧
            Nx (
              w27.setCell (Addr.add ⟨w2.heap.size, 0, none⟩ (Int.toNat (IntKind.wrap .i64 (n26 - 1)) * 1)) (.int .u8 ((b30.toNat : Nat) : Int)))
            fun w31 => k7 (IntKind.wrap .i64 (n26 - 1)) w31)
          )
        )
      (
        fun (n32 : Int) (w33 : World) => Jn (
          fun k34 : Int → World → Prop => (
            neg = true → ((0 : Int) ≤ (IntKind.wrap .i64 (n32 - 1)) ∧ (IntKind.wrap .i64 (n32 - 1)) < ((65 : Nat) : Int)) ∧
            (
              ∃ u : Value, w33.cell? (Addr.add ⟨w2.heap.size, 0, none⟩ (Int.toNat (IntKind.wrap .i64 (n32 - 1)) * 1)) = some u)
            ∧ w33.frozen? (Addr.add ⟨w2.heap.size, 0, none⟩ (Int.toNat (IntKind.wrap .i64 (n32 - 1)) * 1)) = false ∧
            Nx (
              w33.setCell (Addr.add ⟨w2.heap.size, 0, none⟩ (Int.toNat (IntKind.wrap .i64 (n32 - 1)) * 1)) (.int .u8 45))
            fun w35 => k34 (IntKind.wrap .i64 (n32 - 1)) w35)
          ∧ (neg = false → k34 n32 w33))
        (
          fun (n36 : Int) (w37 : World) => (
            append_ = true → ((0 : Int) ≤ n36 ∧ n36 ≤ ((65 : Nat) : Int)) ∧ ∃ s38 : Sl, ∃ w39 : World, Sem.run Tryz.prog (
              Builtin.append_ #[Ty.Sl_uint8, Ty.Sl_uint8] Ty.Sl_uint8 #[.slice dst.a dst.len dst.cap, .slice (cutA (some ⟨w2.heap.size, 0, none⟩) 1 (Int.toNat n36) 65) (65 - (Int.toNat n36)) (65 - (Int.toNat n36))])
            w37 = .ok (.slice s38.a s38.len s38.cap) w39 ∧ Q (.tuple #[.slice s38.a s38.len s38.cap, .string (ByteArray.mk #[])]) w39)
          ∧ (
            append_ = false → ((0 : Int) ≤ n36 ∧ n36 ≤ ((65 : Nat) : Int)) ∧ ∃ s40 : ByteArray, ∃ w41 : World, Sem.run Tryz.prog (
              convert Ty.Sl_uint8 Ty.string (
                .slice (cutA (some ⟨w2.heap.size, 0, none⟩) 1 (Int.toNat n36) 65) (65 - (Int.toNat n36)) (65 - (Int.toNat n36)))
              )
            w37 = .ok (.string s40) w41 ∧ Q (.tuple #[.slice none 0 0, .string s40]) w41)
          )
        )
      )
    )
def A.internal_strconv_formatBits : AT := (.seq (.reg []) (.seq (.jk [] [0, 1, 2, 3, 4, 10, 11] (.seq (.reg [.run, .run, .run, .pure 2, .run, .run, .run, .pure 2]) (.cond (.reg []) .leaf))) (.seq (.reg []) (.seq (.reg []) (.seq (.jk [(1, (.int .u64))] [0, 2, 3, 4, 10, 11, 12, 13] (.seq (.reg []) (.cond (.reg []) .leaf))) (.seq (.jk [(13, (.int .i64))] [0, 3, 4, 10, 11, 12] (.seq (.reg []) (.cond (.seq (.reg []) (.seq (.reg []) (.seq (.reg []) (.seq (.blk (.loop [(1, (.int .u64)), (13, (.int .i64))] [0, 3, 4, 10, 11, 12, 14, 15, 16] (.seq (.seq (.reg []) (.cond .leaf .leaf)) (.blk (.seq (.reg []) (.seq (.reg []) (.reg []))))))) (.seq (.reg []) (.reg [])))))) (.seq (.reg []) (.seq (.blk (.loop [(1, (.int .u64)), (13, (.int .i64))] [0, 3, 4, 10, 11, 12, 17] (.seq (.seq (.reg []) (.cond .leaf .leaf)) (.blk (.seq (.reg []) (.seq (.reg []) (.seq (.reg []) (.reg [])))))))) (.seq (.reg []) (.reg []))))))) (.seq (.jk [(13, (.int .i64))] [0, 4, 10, 11, 12] (.seq (.reg []) (.cond (.seq (.reg []) (.reg [])) .leaf))) (.seq (.seq (.reg []) (.cond (.seq (.reg []) .leaf) .leaf)) (.seq (.reg []) .leaf)))))))))
theorem W.internal_strconv_formatBits_eq (dst : Sl) (u : Int) (base : Int) (neg : Bool) (append_ : Bool) (w : World) (Q : Value → World → Prop) : W.internal_strconv_formatBits dst u base neg append_ w Q = DF Tryz.prog tk A.internal_strconv_formatBits Tryz.f159 [.slice dst.a dst.len dst.cap, .int .u64 u, .int .i64 base, .bool neg, .bool append_] w Q := by kernel_rfl
theorem W.internal_strconv_formatBits_ok (dst : Sl) (u : Int) (base : Int) (neg : Bool) (append_ : Bool) (w : World) (Q : Value → World → Prop) (h : W.internal_strconv_formatBits dst u base neg append_ w Q) : Calls Tryz.prog F.internal_strconv_formatBits #[.slice dst.a dst.len dst.cap, .int .u64 u, .int .i64 base, .bool neg, .bool append_] w fun e w1 => ∃ v, e = .returned v ∧ Q v w1 :=
  calls_of_DF hmix Tryz.func159 (by kernel_rfl) (Eq.mp (W.internal_strconv_formatBits_eq dst u base neg append_ w Q) h)

/-- internal/strconv.FormatInt -/
def W.internal_strconv_FormatInt (i : Int) (base : Int) (w : World) (Q : Value → World → Prop) : Prop :=
  (
    ((base : Int) == 10) = true → (
      ((decide ((0 : Int) ≤ i)) && (decide ((i : Int) < 100))) = true → Calls Tryz.prog F.internal_strconv_small #[.int .i64 i] w fun e2 w1 =>
      ∃ s3 : ByteArray, e2 = .returned (.string s3) ∧ Q (.string s3) w1)
    ∧ (
      ((decide ((0 : Int) ≤ i)) && (decide ((i : Int) < 100))) = false → Nx (
        w.alloc (
          .cells #[.int .u8 0, .int .u8 0, .int .u8 0, .int .u8 0, .int .u8 0, .int .u8 0, .int .u8 0, .int .u8 0, .int .u8 0, .int .u8 0, .int .u8 0, .int .u8 0, .int .u8 0, .int .u8 0, .int .u8 0, .int .u8 0, .int .u8 0, .int .u8 0, .int .u8 0, .int .u8 0, .int .u8 0, .int .u8 0, .int .u8 0, .int .u8 0] Ty.n24_uint8)
        )
      fun w4 => Jn (
        fun k5 : Int → World → Prop => ((decide ((i : Int) < 0)) = true → k5 (IntKind.wrap .u64 (0 - (IntKind.wrap .u64 i))) w4) ∧
        ((decide ((i : Int) < 0)) = false → k5 (IntKind.wrap .u64 i) w4))
      (
        fun (n6 : Int) (w7 : World) => Calls Tryz.prog F.internal_strconv_numDigits #[.int .u64 n6] w7 fun e9 w8 =>
        ∃ n10 : Int, e9 = .returned (.int .i64 n10) ∧ ((0 : Int) ≤ (IntKind.wrap .i64 (1 + n10)) ∧ (IntKind.wrap .i64 (1 + n10)) ≤ ((24 : Nat) : Int)) ∧
        ((0 : Int) ≤ 1 ∧ 1 ≤ (((Int.toNat (IntKind.wrap .i64 (1 + n10))) : Nat) : Int)) ∧
        Calls Tryz.prog F.internal_strconv_formatBase10 #[.slice (cutA (some ⟨w.heap.size, 0, none⟩) 1 (Int.toNat 1) 24) ((Int.toNat (IntKind.wrap .i64 (1 + n10))) - (Int.toNat 1)) (24 - (Int.toNat 1)), .int .u64 n6] w8 fun e12 w11 =>
        e12 = .returned (.tuple #[]) ∧ (
          (decide ((i : Int) < 0)) = true → ((0 : Int) ≤ 0 ∧ 0 < ((24 : Nat) : Int)) ∧
          (∃ u : Value, w11.cell? (Addr.add ⟨w.heap.size, 0, none⟩ (Int.toNat 0 * 1)) = some u) ∧
          w11.frozen? (Addr.add ⟨w.heap.size, 0, none⟩ (Int.toNat 0 * 1)) = false ∧
          Nx (w11.setCell (Addr.add ⟨w.heap.size, 0, none⟩ (Int.toNat 0 * 1)) (.int .u8 45)) fun w13 =>
          ((0 : Int) ≤ (IntKind.wrap .i64 (1 + n10)) ∧ (IntKind.wrap .i64 (1 + n10)) ≤ ((24 : Nat) : Int)) ∧
          ∃ s14 : ByteArray, ∃ w15 : World, Sem.run Tryz.prog (
            convert Ty.Sl_uint8 Ty.string (
              .slice (cutA (some ⟨w.heap.size, 0, none⟩) 1 0 24) ((Int.toNat (IntKind.wrap .i64 (1 + n10))) - 0) (24 - 0))
            )
          w13 = .ok (.string s14) w15 ∧ Q (.string s14) w15)
        ∧ (
          (decide ((i : Int) < 0)) = false → ((0 : Int) ≤ (IntKind.wrap .i64 (1 + n10)) ∧ (IntKind.wrap .i64 (1 + n10)) ≤ ((24 : Nat) : Int)) ∧
          ((0 : Int) ≤ 1 ∧ 1 ≤ (((Int.toNat (IntKind.wrap .i64 (1 + n10))) : Nat) : Int)) ∧
          ∃ s16 : ByteArray, ∃ w17 : World, Sem.run Tryz.prog (
            convert Ty.Sl_uint8 Ty.string (
              .slice (cutA (some ⟨w.heap.size, 0, none⟩) 1 (Int.toNat 1) 24) ((Int.toNat (IntKind.wrap .i64 (1 + n10))) - (Int.toNat 1)) (24 - (Int.toNat 1)))
            )
          w11 = .ok (.string s16) w17 ∧ Q (.string s16) w17)
        )
      )
    )
  ∧ (
    ((base : Int) == 10) = false → Calls Tryz.prog F.internal_strconv_formatBits #[.slice none 0 0, .int .u64 (IntKind.wrap .u64 i), .int .i64 base, .bool (decide ((i : Int) < 0)), .bool false] w fun e19 w18 =>
    ∃ s20 : Sl, ∃ s21 : ByteArray, e19 = .returned (.tuple #[.slice s20.a s20.len s20.cap, .string s21]) ∧
    Q (.string s21) w18)
def A.internal_strconv_FormatInt : AT := (.seq (.reg []) (.seq (.seq (.reg []) (.cond (.seq (.seq (.reg [.run, .run, .run, .pure 2]) (.cond (.seq (.reg []) .leaf) .leaf)) (.seq (.reg []) (.seq (.reg []) (.seq (.jk [(6, (.int .u64))] [0, 5] (.seq (.reg []) (.cond (.reg []) .leaf))) (.seq (.reg []) (.seq (.reg []) (.seq (.seq (.reg []) (.cond (.seq (.reg []) (.seq (.reg []) .leaf)) .leaf)) (.seq (.reg []) .leaf)))))))) .leaf)) (.seq (.reg []) (.seq (.reg []) .leaf))))
theorem W.internal_strconv_FormatInt_eq (i : Int) (base : Int) (w : World) (Q : Value → World → Prop) : W.internal_strconv_FormatInt i base w Q = DF Tryz.prog tk A.internal_strconv_FormatInt Tryz.f160 [.int .i64 i, .int .i64 base] w Q := by kernel_rfl
theorem W.internal_strconv_FormatInt_ok (i : Int) (base : Int) (w : World) (Q : Value → World → Prop) (h : W.internal_strconv_FormatInt i base w Q) : Calls Tryz.prog F.internal_strconv_FormatInt #[.int .i64 i, .int .i64 base] w fun e w1 => ∃ v, e = .returned v ∧ Q v w1 :=
  calls_of_DF hmix Tryz.func160 (by kernel_rfl) (Eq.mp (W.internal_strconv_FormatInt_eq i base w Q) h)

/-- internal/strconv.ParseUint -/
def W.internal_strconv_ParseUint (s : ByteArray) (base : Int) (bitSize : Int) (w : World) (Q : Value → World → Prop) : Prop :=
  (
    (ByteArray.toList s == ByteArray.toList (ByteArray.mk #[])) = true → Q (.tuple #[.int .u64 0, .iface Ty.strconv_Error (.int .i64 2)]) w)
  ∧ (
    (ByteArray.toList s == ByteArray.toList (ByteArray.mk #[])) = false → Jn (
      fun k1 : ByteArray → Int → World → Prop => (((decide ((2 : Int) ≤ base)) && (decide ((base : Int) ≤ 36))) = true → k1 s base w) ∧
      (
        ((decide ((2 : Int) ≤ base)) && (decide ((base : Int) ≤ 36))) = false → (
          ((base : Int) == 0) = true → (0 : Int) ≤ 0 ∧ ∃ b2 : UInt8, byteAt s (Int.toNat 0) = some b2 ∧
          (
            ((((b2.toNat : Nat) : Int) : Int) == 48) = true → Jn (
              fun k3 : Bool → World → Prop => (
                (decide ((((ByteArray.size s : Nat) : Int) : Int) ≥ 3)) = true → (0 : Int) ≤ 1 ∧
                ∃ b4 : UInt8, byteAt s (Int.toNat 1) = some b4 ∧ Calls Tryz.prog F.internal_strconv_lower #[.int .u8 ((b4.toNat : Nat) : Int)] w fun e6 w5 =>
                ∃ n7 : Int, e6 = .returned (.int .u8 n7) ∧ k3 ((n7 : Int) == 98) w5)
              ∧ ((decide ((((ByteArray.size s : Nat) : Int) : Int) ≥ 3)) = false → k3 false w))
            (
              fun (b8 : Bool) (w9 : World) => (
                b8 = true → ((0 : Int) ≤ 2 ∧ 2 ≤ (((ByteArray.size s) : Nat) : Int)) ∧ k1 (ByteArray.extract s (Int.toNat 2) (ByteArray.size s)) 2 w9)
              ∧ (
                b8 = false → Jn (
                  fun k10 : Bool → World → Prop => (
                    (decide ((((ByteArray.size s : Nat) : Int) : Int) ≥ 3)) = true → (0 : Int) ≤ 1 ∧
                    ∃ b11 : UInt8, byteAt s (Int.toNat 1) = some b11 ∧ Calls Tryz.prog F.internal_strconv_lower #[.int .u8 ((b11.toNat : Nat) : Int)] w9 fun e13 w12 =>
                    ∃ n14 : Int, e13 = .returned (.int .u8 n14) ∧ k10 ((n14 : Int) == 111) w12)
                  ∧ ((decide ((((ByteArray.size s : Nat) : Int) : Int) ≥ 3)) = false → k10 false w9))
                (
                  fun (b15 : Bool) (w16 : World) => (
                    b15 = true → ((0 : Int) ≤ 2 ∧ 2 ≤ (((ByteArray.size s) : Nat) : Int)) ∧ k1 (ByteArray.extract s (Int.toNat 2) (ByteArray.size s)) 8 w16)
                  ∧ (
                    b15 = false → Jn (
                      fun k17 : Bool → World → Prop => (
                        (decide ((((ByteArray.size s : Nat) : Int) : Int) ≥ 3)) = true → (0 : Int) ≤ 1 ∧
                        ∃ b18 : UInt8, byteAt s (Int.toNat 1) = some b18 ∧ Calls Tryz.prog F.internal_strconv_lower #[.int .u8 ((b18.toNat : Nat) : Int)] w16 fun e20 w19 =>
                        ∃ n21 : Int, e20 = .returned (.int .u8 n21) ∧ k17 ((n21 : Int) == 120) w19)
                      ∧ ((decide ((((ByteArray.size s : Nat) : Int) : Int) ≥ 3)) = false → k17 false w16))
                    (
                      fun (b22 : Bool) (w23 : World) => (
                        b22 = true → ((0 : Int) ≤ 2 ∧ 2 ≤ (((ByteArray.size s) : Nat) : Int)) ∧ k1 (ByteArray.extract s (Int.toNat 2) (ByteArray.size s)) 16 w23)
                      ∧ (
                        b22 = false → ((0 : Int) ≤ 1 ∧ 1 ≤ (((ByteArray.size s) : Nat) : Int)) ∧ k1 (ByteArray.extract s (Int.toNat 1) (ByteArray.size s)) 8 w23)
                      )
                    )
                  )
                )
              )
            )
          ∧ (((((b2.toNat : Nat) : Int) : Int) == 48) = false → k1 s 10 w))
        ∧ (((base : Int) == 0) = false → Q (.tuple #[.int .u64 0, .iface Ty.strconv_Error (.int .i64 3)]) w))
      )
    (
      fun (s24 : ByteArray) (n25 : Int) (w26 : World) => Jn (
        fun k27 : Int → World → Prop => (((bitSize : Int) == 0) = true → k27 64 w26) ∧
        (
          ((bitSize : Int) == 0) = false → (
            ((decide ((bitSize : Int) < 0)) || (decide ((bitSize : Int) > 64))) = true →
            Q (.tuple #[.int .u64 0, .iface Ty.strconv_Error (.int .i64 4)]) w26)
          ∧ (((decide ((bitSize : Int) < 0)) || (decide ((bitSize : Int) > 64))) = false → k27 bitSize w26))
        )
      (
        fun (n28 : Int) (w29 : World) => Jn (
          fun k30 : Int → World → Prop => (((n25 : Int) == 10) = true → k30 1844674407370955162 w29) ∧
          (
            ((n25 : Int) == 10) = false → (((n25 : Int) == 16) = true → k30 1152921504606846976 w29) ∧
            (
              ((n25 : Int) == 16) = false → ((IntKind.wrap .u64 n25) : Int) ≠ 0 ∧ k30 (IntKind.wrap .u64 ((IntKind.wrap .u64 (Int.tdiv 18446744073709551615 (IntKind.wrap .u64 n25))) + 1)) w29)
            )
          )
        (
          fun (n31 : Int) (w32 : World) => (0 : Int) ≤ (IntKind.wrap .u64 n28) ∧ ∃ s33 : Sl, ∃ w34 : World, Sem.run Tryz.prog (convert Ty.string Ty.Sl_uint8 (.string s24)) w32 = .ok (.slice s33.a s33.len s33.cap) w34 ∧
          ∃ (I35 : Bool → Int → Int → World → Prop) (μ36 : Bool → Int → Int → World → Nat), I35 false 0 0 w34 ∧
          ∀ (b37 : Bool) (n38 : Int) (n39 : Int) (w40 : World), I35 b37 n38 n39 w40 →
          (
            (decide ((n39 : Int) < ((s33.len : Nat) : Int))) = true → Jn (
              fun k41 : Bool → Int → World → Prop => ∃ a42 : Addr, s33.a = some a42 ∧ ((0 : Int) ≤ n39 ∧ n39 < ((s33.len : Nat) : Int)) ∧
              ∃ n43 : Int, w40.cell? (a42.add (Int.toNat n39 * 1)) = some (.int .u8 n43) ∧
              Jn (
                fun k44 : Bool → Int → World → Prop => ((((n43 : Int) == 95) && ((base : Int) == 0)) = true → k41 true n38 w40) ∧
                (
                  (((n43 : Int) == 95) && ((base : Int) == 0)) = false → (
                    ((decide ((48 : Int) ≤ n43)) && (decide ((n43 : Int) ≤ 57))) = true → k44 b37 (IntKind.wrap .u8 (n43 - 48)) w40)
                  ∧ (
                    ((decide ((48 : Int) ≤ n43)) && (decide ((n43 : Int) ≤ 57))) = false → Calls Tryz.prog F.internal_strconv_lower #[.int .u8 n43] w40 fun e46 w45 =>
                    ∃ n47 : Int, e46 = .returned (.int .u8 n47) ∧ Jn (
                      fun k48 : Bool → World → Prop => (
                        (decide ((97 : Int) ≤ n47)) = true → Calls Tryz.prog F.internal_strconv_lower #[.int .u8 n43] w45 fun e50 w49 =>
                        ∃ n51 : Int, e50 = .returned (.int .u8 n51) ∧ k48 (decide ((n51 : Int) ≤ 122)) w49)
                      ∧ ((decide ((97 : Int) ≤ n47)) = false → k48 false w45))
                    (
                      fun (b52 : Bool) (w53 : World) => (
                        b52 = true → Calls Tryz.prog F.internal_strconv_lower #[.int .u8 n43] w53 fun e55 w54 =>
                        ∃ n56 : Int, e55 = .returned (.int .u8 n56) ∧ k44 b37 (IntKind.wrap .u8 ((IntKind.wrap .u8 (n56 - 97)) + 10)) w54)
                      ∧ (b52 = false → Q (.tuple #[.int .u64 0, .iface Ty.strconv_Error (.int .i64 2)]) w53))
                    )
                  )
                )
              (
                fun (b57 : Bool) (n58 : Int) (w59 : World) => (
                  (decide ((n58 : Int) ≥ (IntKind.wrap .u8 n25))) = true → Q (.tuple #[.int .u64 0, .iface Ty.strconv_Error (.int .i64 2)]) w59)
                ∧ (
                  (decide ((n58 : Int) ≥ (IntKind.wrap .u8 n25))) = false → (
                    (decide ((n38 : Int) ≥ n31)) = true → Q (
                      .tuple #[.int .u64 (IntKind.wrap .u64 ((IntKind.wrap .u64 (1 * 2 ^ (min (Int.toNat (IntKind.wrap .u64 n28)) 64))) - 1)), .iface Ty.strconv_Error (.int .i64 1)])
                    w59)
                  ∧ (
                    (decide ((n38 : Int) ≥ n31)) = false → (
                      (
                        (
                          decide (
                            (
                              (IntKind.wrap .u64 ((IntKind.wrap .u64 (n38 * (IntKind.wrap .u64 n25))) + (IntKind.wrap .u64 n58))) : Int)
                            < (IntKind.wrap .u64 (n38 * (IntKind.wrap .u64 n25))))
                          )
                        || (
                          decide (
                            (
                              (IntKind.wrap .u64 ((IntKind.wrap .u64 (n38 * (IntKind.wrap .u64 n25))) + (IntKind.wrap .u64 n58))) : Int)
                            > (IntKind.wrap .u64 ((IntKind.wrap .u64 (1 * 2 ^ (min (Int.toNat (IntKind.wrap .u64 n28)) 64))) - 1)))
                          )
                        )
                      = true → Q (
                        .tuple #[.int .u64 (IntKind.wrap .u64 ((IntKind.wrap .u64 (1 * 2 ^ (min (Int.toNat (IntKind.wrap .u64 n28)) 64))) - 1)), .iface Ty.strconv_Error (.int .i64 1)])
                      w59)
                    ∧ (
                      (
                        (
                          decide (
                            (
                              (IntKind.wrap .u64 ((IntKind.wrap .u64 (n38 * (IntKind.wrap .u64 n25))) + (IntKind.wrap .u64 n58))) : Int)
                            < (IntKind.wrap .u64 (n38 * (IntKind.wrap .u64 n25))))
                          )
                        || (
                          decide (
                            (
                              (IntKind.wrap .u64 ((IntKind.wrap .u64 (n38 * (IntKind.wrap .u64 n25))) + (IntKind.wrap .u64 n58))) : Int)
                            > (IntKind.wrap .u64 ((IntKind.wrap .u64 (1 * 2 ^ (min (Int.toNat (IntKind.wrap .u64 n28)) 64))) - 1)))
                          )
                        )
                      = false → k41 b57 (IntKind.wrap .u64 ((IntKind.wrap .u64 (n38 * (IntKind.wrap .u64 n25))) + (IntKind.wrap .u64 n58))) w59)
                    )
                  )
                )
              )
            (
              fun (b60 : Bool) (n61 : Int) (w62 : World) => I35 b60 n61 (IntKind.wrap .i64 (n39 + 1)) w62 ∧
              μ36 b60 n61 (IntKind.wrap .i64 (n39 + 1)) w62 < μ36 b37 n38 n39 w40)
            )
          ∧ (
            (decide ((n39 : Int) < ((s33.len : Nat) : Int))) = false → Jn (
              fun k63 : Bool → World → Prop => (
                b37 = true → Calls Tryz.prog F.internal_strconv_underscoreOK #[.string s] w40 fun e65 w64 =>
                ∃ b66 : Bool, e65 = .returned (.bool b66) ∧ k63 (!b66) w64)
              ∧ (b37 = false → k63 false w40))
            (
              fun (b67 : Bool) (w68 : World) => (b67 = true → Q (.tuple #[.int .u64 0, .iface Ty.strconv_Error (.int .i64 2)]) w68) ∧
              (b67 = false → Q (.tuple #[.int .u64 n38, .nilIface]) w68))
            )
          )
        )
      )
    )
def A.internal_strconv_ParseUint : AT := (.seq (.reg []) (.seq (.seq (.reg []) (.cond (.seq (.reg []) .leaf) .leaf)) (.seq (.reg []) (.seq (.reg []) (.seq (.jk [(0, .str), (1, (.int .i64))] [2, 8, 9] (.blk (.seq (.reg [.run, .run, .run, .pure 2]) (.cond .leaf (.seq (.reg []) (.cond (.seq (.reg []) (.seq (.reg []) (.cond (.blk (.seq (.reg [.run, .run, .run, .run, .split 4]) (.cond (.seq (.reg []) (.reg [])) (.seq (.reg [.run, .run, .run, .run, .split 4]) (.cond (.seq (.reg []) (.reg [])) (.seq (.reg [.run, .run, .run, .run, .split 4]) (.cond (.seq (.reg []) (.reg [])) (.seq (.reg []) (.reg []))))))))) .leaf))) (.seq (.reg []) .leaf))))))) (.seq (.jk [(2, (.int .i64))] [0, 1, 8, 9] (.seq (.reg []) (.cond (.reg []) (.seq (.reg [.run, .run, .run, .pure 2]) (.cond (.seq (.reg []) .leaf) .leaf))))) (.seq (.reg []) (.seq (.jk [(10, (.int .u64))] [0, 1, 2, 8, 9] (.seq (.reg []) (.blk (.seq (.reg []) (.cond (.reg []) (.seq (.reg []) (.cond (.reg []) (.reg [])))))))) (.seq (.reg []) (.seq (.reg []) (.seq (.reg []) (.seq (.seq (.reg []) (.blk (.loop [(12, .bool), (13, (.int .u64)), (101, (.int .i64))] [1, 8, 9, 10, 11, 99, 100] (.seq (.reg []) (.seq (.cond .leaf .leaf) (.seq (.jk [(12, .bool), (13, (.int .u64))] [1, 8, 9, 10, 11, 99, 100, 101] (.blk (.seq (.reg []) (.seq (.reg []) (.seq (.jk [(12, .bool), (16, (.int .u8))] [1, 8, 9, 10, 11, 13, 99, 100, 101] (.blk (.seq (.reg [.run, .run, .run, .pure 1]) (.cond (.seq (.reg []) .leaf) (.seq (.reg [.run, .run, .run, .pure 2]) (.cond (.reg []) (.seq (.reg [.run, .run, .run, .run, .split 3]) (.cond (.reg []) (.seq (.reg []) .leaf))))))))) (.seq (.seq (.reg []) (.cond (.seq (.reg []) .leaf) .leaf)) (.seq (.seq (.reg []) (.cond (.seq (.reg []) .leaf) .leaf)) (.seq (.reg []) (.seq (.reg []) (.seq (.seq (.reg [.run, .run, .run, .run, .pure 3]) (.cond (.seq (.reg []) .leaf) .leaf)) (.reg []))))))))))) (.reg []))))))) (.seq (.seq (.reg [.run, .run, .split 3]) (.cond (.seq (.reg []) .leaf) .leaf)) (.seq (.reg []) .leaf))))))))))))))
theorem W.internal_strconv_ParseUint_eq (s : ByteArray) (base : Int) (bitSize : Int) (w : World) (Q : Value → World → Prop) : W.internal_strconv_ParseUint s base bitSize w Q = DF Tryz.prog tk A.internal_strconv_ParseUint Tryz.f164 [.string s, .int .i64 base, .int .i64 bitSize] w Q := by kernel_rfl
theorem W.internal_strconv_ParseUint_ok (s : ByteArray) (base : Int) (bitSize : Int) (w : World) (Q : Value → World → Prop) (h : W.internal_strconv_ParseUint s base bitSize w Q) : Calls Tryz.prog F.internal_strconv_ParseUint #[.string s, .int .i64 base, .int .i64 bitSize] w fun e w1 => ∃ v, e = .returned v ∧ Q v w1 :=
  calls_of_DF hmix Tryz.func164 (by kernel_rfl) (Eq.mp (W.internal_strconv_ParseUint_eq s base bitSize w Q) h)

/-- strconv.toError -/
def W.strconv_toError (fn : ByteArray) (s : ByteArray) (base : Int) (bitSize : Int) (err : Value) (w : World) (Q : Value → World → Prop) : Prop :=
  ∃ b1 : Bool, OpqEq Tryz.prog .eql Ty.error (.tmp 11) (.tmp 13) (err) (.iface Ty.strconv_Error (.int .i64 2)) b1 ∧
  (
    b1 = true → Calls Tryz.prog F.strconv_syntaxError #[.string fn, .string s] w fun e3 w2 =>
    ∃ p4 : Option Addr, e3 = .returned (.pointer p4) ∧ Q (.iface Ty.P_strconv_NumError (.pointer p4)) w2)
  ∧ (
    b1 = false → ∃ b5 : Bool, OpqEq Tryz.prog .eql Ty.error (.tmp 11) (.tmp 20) (err) (.iface Ty.strconv_Error (.int .i64 1)) b5 ∧
    (
      b5 = true → Calls Tryz.prog F.strconv_rangeError #[.string fn, .string s] w fun e7 w6 =>
      ∃ p8 : Option Addr, e7 = .returned (.pointer p8) ∧ Q (.iface Ty.P_strconv_NumError (.pointer p8)) w6)
    ∧ (
      b5 = false → ∃ b9 : Bool, OpqEq Tryz.prog .eql Ty.error (.tmp 11) (.tmp 27) (err) (.iface Ty.strconv_Error (.int .i64 3)) b9 ∧
      (
        b9 = true → Calls Tryz.prog F.strconv_baseError #[.string fn, .string s, .int .i64 base] w fun e11 w10 =>
        ∃ p12 : Option Addr, e11 = .returned (.pointer p12) ∧ Q (.iface Ty.P_strconv_NumError (.pointer p12)) w10)
      ∧ (
        b9 = false → ∃ b13 : Bool, OpqEq Tryz.prog .eql Ty.error (.tmp 11) (.tmp 35) (err) (.iface Ty.strconv_Error (.int .i64 4)) b13 ∧
        (
          b13 = true → Calls Tryz.prog F.strconv_bitSizeError #[.string fn, .string s, .int .i64 bitSize] w fun e15 w14 =>
          ∃ p16 : Option Addr, e15 = .returned (.pointer p16) ∧ Q (.iface Ty.P_strconv_NumError (.pointer p16)) w14)
        ∧ (b13 = false → Q (err) w))
      )
    )
def A.strconv_toError : AT := (.seq (.reg []) (.seq (.seq (.reg []) (.blk (.seq (.reg []) (.cond (.seq (.reg []) .leaf) (.seq (.reg []) (.cond (.seq (.reg []) .leaf) (.seq (.reg []) (.cond (.seq (.reg []) .leaf) (.seq (.reg []) (.cond (.seq (.reg []) .leaf) .leaf)))))))))) (.seq (.reg []) .leaf)))
theorem W.strconv_toError_eq (fn : ByteArray) (s : ByteArray) (base : Int) (bitSize : Int) (err : Value) (w : World) (Q : Value → World → Prop) : W.strconv_toError fn s base bitSize err w Q = DF Tryz.prog tk A.strconv_toError Tryz.f165 [.string fn, .string s, .int .i64 base, .int .i64 bitSize, err] w Q := by kernel_rfl
theorem W.strconv_toError_ok (fn : ByteArray) (s : ByteArray) (base : Int) (bitSize : Int) (err : Value) (w : World) (Q : Value → World → Prop) (h : W.strconv_toError fn s base bitSize err w Q) : Calls Tryz.prog F.strconv_toError #[.string fn, .string s, .int .i64 base, .int .i64 bitSize, err] w fun e w1 => ∃ v, e = .returned v ∧ Q v w1 :=
  calls_of_DF hmix Tryz.func165 (by kernel_rfl) (Eq.mp (W.strconv_toError_eq fn s base bitSize err w Q) h)

/-- internal/strconv.Atoi -/
def W.internal_strconv_Atoi (s : ByteArray) (w : World) (Q : Value → World → Prop) : Prop :=
  (
    (
      (
        false && (
          (decide ((0 : Int) < ((ByteArray.size s : Nat) : Int))) && (decide ((((ByteArray.size s : Nat) : Int) : Int) < 10)))
        )
      || (
        true && (
          (decide ((0 : Int) < ((ByteArray.size s : Nat) : Int))) && (decide ((((ByteArray.size s : Nat) : Int) : Int) < 19)))
        )
      )
    = true → Jn (
      fun k1 : ByteArray → World → Prop => (0 : Int) ≤ 0 ∧ ∃ b2 : UInt8, byteAt s (Int.toNat 0) = some b2 ∧
      Jn (
        fun k3 : Bool → World → Prop => (((((b2.toNat : Nat) : Int) : Int) == 45) = true → k3 true w) ∧
        (
          ((((b2.toNat : Nat) : Int) : Int) == 45) = false → (0 : Int) ≤ 0 ∧ ∃ b4 : UInt8, byteAt s (Int.toNat 0) = some b4 ∧
          k3 ((((b4.toNat : Nat) : Int) : Int) == 43) w)
        )
      (
        fun (b5 : Bool) (w6 : World) => (
          b5 = true → ((0 : Int) ≤ 1 ∧ 1 ≤ (((ByteArray.size s) : Nat) : Int)) ∧ (
            (
              decide ((((ByteArray.size (ByteArray.extract s (Int.toNat 1) (ByteArray.size s)) : Nat) : Int) : Int) < 1))
            = true → Q (.tuple #[.int .i64 0, .iface Ty.strconv_Error (.int .i64 2)]) w6)
          ∧ (
            (
              decide ((((ByteArray.size (ByteArray.extract s (Int.toNat 1) (ByteArray.size s)) : Nat) : Int) : Int) < 1))
            = false → k1 (ByteArray.extract s (Int.toNat 1) (ByteArray.size s)) w6)
          )
        ∧ (b5 = false → k1 s w6))
      )
    (
      fun (s7 : ByteArray) (w8 : World) => ∃ s9 : Sl, ∃ w10 : World, Sem.run Tryz.prog (convert Ty.string Ty.Sl_uint8 (.string s7)) w8 = .ok (.slice s9.a s9.len s9.cap) w10 ∧
      ∃ (I11 : Int → Int → World → Prop) (μ12 : Int → Int → World → Nat), I11 0 0 w10 ∧
      ∀ (n13 : Int) (n14 : Int) (w15 : World), I11 n13 n14 w15 → (
        (decide ((n14 : Int) < ((s9.len : Nat) : Int))) = true → ∃ a16 : Addr, s9.a = some a16 ∧
        ((0 : Int) ≤ n14 ∧ n14 < ((s9.len : Nat) : Int)) ∧ ∃ n17 : Int, w15.cell? (a16.add (Int.toNat n14 * 1)) = some (.int .u8 n17) ∧
        (
          (decide (((IntKind.wrap .u8 (n17 - 48)) : Int) > 9)) = true → Q (.tuple #[.int .i64 0, .iface Ty.strconv_Error (.int .i64 2)]) w15)
        ∧ (
          (decide (((IntKind.wrap .u8 (n17 - 48)) : Int) > 9)) = false → I11 (
            IntKind.wrap .i64 ((IntKind.wrap .i64 (n13 * 10)) + (IntKind.wrap .i64 (IntKind.wrap .u8 (n17 - 48)))))
          (IntKind.wrap .i64 (n14 + 1)) w15 ∧ μ12 (
            IntKind.wrap .i64 ((IntKind.wrap .i64 (n13 * 10)) + (IntKind.wrap .i64 (IntKind.wrap .u8 (n17 - 48)))))
          (IntKind.wrap .i64 (n14 + 1)) w15 < μ12 n13 n14 w15)
        )
      ∧ (
        (decide ((n14 : Int) < ((s9.len : Nat) : Int))) = false → Jn (
          fun k18 : Int → World → Prop => (0 : Int) ≤ 0 ∧ ∃ b19 : UInt8, byteAt s (Int.toNat 0) = some b19 ∧
          (((((b19.toNat : Nat) : Int) : Int) == 45) = true → k18 (IntKind.wrap .i64 (0 - n13)) w15) ∧
          (((((b19.toNat : Nat) : Int) : Int) == 45) = false → k18 n13 w15))
        (fun (n20 : Int) (w21 : World) => Q (.tuple #[.int .i64 n20, .nilIface]) w21))
      )
    )
  ∧ (
    (
      (
        false && (
          (decide ((0 : Int) < ((ByteArray.size s : Nat) : Int))) && (decide ((((ByteArray.size s : Nat) : Int) : Int) < 10)))
        )
      || (
        true && (
          (decide ((0 : Int) < ((ByteArray.size s : Nat) : Int))) && (decide ((((ByteArray.size s : Nat) : Int) : Int) < 19)))
        )
      )
    = false → Calls Tryz.prog F.internal_strconv_ParseInt #[.string s, .int .i64 10, .int .i64 0] w fun e23 w22 =>
    ∃ n24 : Int, ∃ v25 : Value, e23 = .returned (.tuple #[.int .i64 n24, v25]) ∧
    Q (.tuple #[.int .i64 n24, v25]) w22)
def A.internal_strconv_Atoi : AT := (.seq (.reg []) (.seq (.reg []) (.seq (.seq (.reg [.run, .pure 6, .run, .run, .pure 2, .run, .run, .run, .run, .pure 8, .pure 6, .run, .run, .pure 2]) (.cond (.seq (.reg []) (.seq (.jk [(0, .str)] [5] (.seq (.reg [.run, .run, .run, .run, .split 3]) (.cond (.seq (.reg []) (.seq (.reg []) (.cond (.seq (.reg []) .leaf) .leaf))) .leaf))) (.seq (.reg []) (.seq (.seq (.reg []) (.blk (.loop [(6, (.int .i64)), (49, (.int .i64))] [5, 47, 48] (.seq (.reg []) (.seq (.cond .leaf .leaf) (.seq (.blk (.seq (.reg []) (.seq (.reg []) (.seq (.seq (.reg []) (.cond (.seq (.reg []) .leaf) .leaf)) (.reg []))))) (.reg []))))))) (.seq (.jk [(6, (.int .i64))] [] (.seq (.reg []) (.cond (.reg []) .leaf))) (.seq (.reg []) .leaf)))))) .leaf)) (.seq (.reg []) (.seq (.reg []) .leaf)))))
theorem W.internal_strconv_Atoi_eq (s : ByteArray) (w : World) (Q : Value → World → Prop) : W.internal_strconv_Atoi s w Q = DF Tryz.prog tk A.internal_strconv_Atoi Tryz.f166 [.string s] w Q := by kernel_rfl
theorem W.internal_strconv_Atoi_ok (s : ByteArray) (w : World) (Q : Value → World → Prop) (h : W.internal_strconv_Atoi s w Q) : Calls Tryz.prog F.internal_strconv_Atoi #[.string s] w fun e w1 => ∃ v, e = .returned v ∧ Q v w1 :=
  calls_of_DF hmix Tryz.func166 (by kernel_rfl) (Eq.mp (W.internal_strconv_Atoi_eq s w Q) h)

end Go.Proofs.YtgljoledlhmhnaaGreatDoor


namespace Go.Proofs.YtgljoledlhmhnaaGreatDoor
open Go Gx
set_option maxRecDepth 100000
/-- math/bits.Len64 -/
def W.math_bits_Len64 (x : Int) (w : World) (Q : Value → World → Prop) : Prop :=
  Jn (
    fun k1 : Int → Int → World → Prop => (
      (decide ((x : Int) ≥ 4294967296)) = true → (0 : Int) ≤ 32 ∧ k1 (Int.fdiv x (2 ^ (min (Int.toNat 32) 64))) 32 w)
    ∧ ((decide ((x : Int) ≥ 4294967296)) = false → k1 x 0 w))
  (
    fun (n2 : Int) (n3 : Int) (w4 : World) => Jn (
      fun k5 : Int → Int → World → Prop => (
        (decide ((n2 : Int) ≥ 65536)) = true → (0 : Int) ≤ 16 ∧ k5 (Int.fdiv n2 (2 ^ (min (Int.toNat 16) 64))) (IntKind.wrap .i64 (n3 + 16)) w4)
      ∧ ((decide ((n2 : Int) ≥ 65536)) = false → k5 n2 n3 w4))
    (
      fun (n6 : Int) (n7 : Int) (w8 : World) => Jn (
        fun k9 : Int → Int → World → Prop => (
          (decide ((n6 : Int) ≥ 256)) = true → (0 : Int) ≤ 8 ∧ k9 (Int.fdiv n6 (2 ^ (min (Int.toNat 8) 64))) (IntKind.wrap .i64 (n7 + 8)) w8)
        ∧ ((decide ((n6 : Int) ≥ 256)) = false → k9 n6 n7 w8))
      (
        fun (n10 : Int) (n11 : Int) (w12 : World) => (0 : Int) ≤ (IntKind.wrap .u8 n10) ∧
        ∃ b13 : UInt8, byteAt (
          ByteArray.mk #[0, 1, 2, 2, 3, 3, 3, 3, 4, 4, 4, 4, 4, 4, 4, 4, 5, 5, 5, 5, 5, 5, 5, 5, 5, 5, 5, 5, 5, 5, 5, 5, 6, 6, 6, 6, 6, 6, 6, 6, 6, 6, 6, 6, 6, 6, 6, 6, 6, 6, 6, 6, 6, 6, 6, 6, 6, 6, 6, 6, 6, 6, 6, 6, 7, 7, 7, 7, 7, 7, 7, 7, 7, 7, 7, 7, 7, 7, 7, 7, 7, 7, 7, 7, 7, 7, 7, 7, 7, 7, 7, 7, 7, 7, 7, 7, 7, 7, 7, 7, 7, 7, 7, 7, 7, 7, 7, 7, 7, 7, 7, 7, 7, 7, 7, 7, 7, 7, 7, 7, 7, 7, 7, 7, 7, 7, 7, 7, 8, 8, 8, 8, 8, 8, 8, 8, 8, 8, 8, 8, 8, 8, 8, 8, 8, 8, 8, 8, 8, 8, 8, 8, 8, 8, 8, 8, 8, 8, 8, 8, 8, 8, 8, 8, 8, 8, 8, 8, 8, 8, 8, 8, 8, 8, 8, 8, 8, 8, 8, 8, 8, 8, 8, 8, 8, 8, 8, 8, 8, 8, 8, 8, 8, 8, 8, 8, 8, 8, 8, 8, 8, 8, 8, 8, 8, 8, 8, 8, 8, 8, 8, 8, 8, 8, 8, 8, 8, 8, 8, 8, 8, 8, 8, 8, 8, 8, 8, 8, 8, 8, 8, 8, 8, 8, 8, 8, 8, 8, 8, 8, 8, 8, 8, 8, 8, 8, 8, 8, 8, 8, 8, 8, 8, 8, 8, 8])
        (Int.toNat (IntKind.wrap .u8 n10)) = some b13 ∧ Q (.int .i64 (IntKind.wrap .i64 (n11 + (IntKind.wrap .i64 ((b13.toNat : Nat) : Int))))) w12)
      )
    )
def A.math_bits_Len64 : AT := (.seq (.reg []) (.seq (.jk [(0, (.int .u64)), (2, (.int .i64))] [] (.seq (.reg []) (.cond (.seq (.reg []) (.reg [])) .leaf))) (.seq (.jk [(0, (.int .u64)), (2, (.int .i64))] [] (.seq (.reg []) (.cond (.seq (.reg []) (.reg [])) .leaf))) (.seq (.jk [(0, (.int .u64)), (2, (.int .i64))] [] (.seq (.reg []) (.cond (.seq (.reg []) (.reg [])) .leaf))) (.seq (.reg []) .leaf)))))
theorem W.math_bits_Len64_eq (x : Int) (w : World) (Q : Value → World → Prop) : W.math_bits_Len64 x w Q = DF Tryz.prog tk A.math_bits_Len64 Tryz.f180 [.int .u64 x] w Q := by kernel_rfl
theorem W.math_bits_Len64_ok (x : Int) (w : World) (Q : Value → World → Prop) (h : W.math_bits_Len64 x w Q) : Calls Tryz.prog F.math_bits_Len64 #[.int .u64 x] w fun e w1 => ∃ v, e = .returned v ∧ Q v w1 :=
  calls_of_DF hmix Tryz.func180 (by kernel_rfl) (Eq.mp (W.math_bits_Len64_eq x w Q) h)

/-- internal/strconv.log10Pow2 -/
def W.internal_strconv_log10Pow2 (x : Int) (w : World) (Q : Value → World → Prop) : Prop :=
  (0 : Int) ≤ 18 ∧ Q (.int .i64 (Int.fdiv (IntKind.wrap .i64 (x * 78913)) (2 ^ (min (Int.toNat 18) 64)))) w
def A.internal_strconv_log10Pow2 : AT := (.seq (.reg []) (.seq (.reg []) .leaf))
theorem W.internal_strconv_log10Pow2_eq (x : Int) (w : World) (Q : Value → World → Prop) : W.internal_strconv_log10Pow2 x w Q = DF Tryz.prog tk A.internal_strconv_log10Pow2 Tryz.f183 [.int .i64 x] w Q := by kernel_rfl
theorem W.internal_strconv_log10Pow2_ok (x : Int) (w : World) (Q : Value → World → Prop) (h : W.internal_strconv_log10Pow2 x w Q) : Calls Tryz.prog F.internal_strconv_log10Pow2 #[.int .i64 x] w fun e w1 => ∃ v, e = .returned v ∧ Q v w1 :=
  calls_of_DF hmix Tryz.func183 (by kernel_rfl) (Eq.mp (W.internal_strconv_log10Pow2_eq x w Q) h)

/-- internal/strconv.bool2[int] -/
def W.internal_strconv_bool2_int (b : Bool) (w : World) (Q : Value → World → Prop) : Prop :=
  (b = true → Q (.int .i64 1) w) ∧ (b = false → Q (.int .i64 0) w)
def A.internal_strconv_bool2_int : AT := (.seq (.reg []) (.seq (.seq (.reg []) (.cond (.seq (.reg []) .leaf) .leaf)) (.seq (.reg []) .leaf)))
theorem W.internal_strconv_bool2_int_eq (b : Bool) (w : World) (Q : Value → World → Prop) : W.internal_strconv_bool2_int b w Q = DF Tryz.prog tk A.internal_strconv_bool2_int Tryz.f184 [.bool b] w Q := by kernel_rfl
theorem W.internal_strconv_bool2_int_ok (b : Bool) (w : World) (Q : Value → World → Prop) (h : W.internal_strconv_bool2_int b w Q) : Calls Tryz.prog F.internal_strconv_bool2_int #[.bool b] w fun e w1 => ∃ v, e = .returned v ∧ Q v w1 :=
  calls_of_DF hmix Tryz.func184 (by kernel_rfl) (Eq.mp (W.internal_strconv_bool2_int_eq b w Q) h)

/-- internal/strconv.isPowerOfTwo -/
def W.internal_strconv_isPowerOfTwo (x : Int) (w : World) (Q : Value → World → Prop) : Prop :=
  Q (.bool (((bAnd .i64 x (IntKind.wrap .i64 (x - 1))) : Int) == 0)) w
def A.internal_strconv_isPowerOfTwo : AT := (.seq (.reg []) (.seq (.reg []) .leaf))
theorem W.internal_strconv_isPowerOfTwo_eq (x : Int) (w : World) (Q : Value → World → Prop) : W.internal_strconv_isPowerOfTwo x w Q = DF Tryz.prog tk A.internal_strconv_isPowerOfTwo Tryz.f185 [.int .i64 x] w Q := by kernel_rfl
theorem W.internal_strconv_isPowerOfTwo_ok (x : Int) (w : World) (Q : Value → World → Prop) (h : W.internal_strconv_isPowerOfTwo x w Q) : Calls Tryz.prog F.internal_strconv_isPowerOfTwo #[.int .i64 x] w fun e w1 => ∃ v, e = .returned v ∧ Q v w1 :=
  calls_of_DF hmix Tryz.func185 (by kernel_rfl) (Eq.mp (W.internal_strconv_isPowerOfTwo_eq x w Q) h)

/-- math/bits.TrailingZeros -/
def W.math_bits_TrailingZeros (x : Int) (w : World) (Q : Value → World → Prop) : Prop :=
  (
    false = true → Calls Tryz.prog F.math_bits_TrailingZeros32 #[.int .u32 (IntKind.wrap .u32 x)] w fun e2 w1 =>
    ∃ n3 : Int, e2 = .returned (.int .i64 n3) ∧ Q (.int .i64 n3) w1)
  ∧ (
    false = false → Calls Tryz.prog F.math_bits_TrailingZeros64 #[.int .u64 x] w fun e5 w4 =>
    ∃ n6 : Int, e5 = .returned (.int .i64 n6) ∧ Q (.int .i64 n6) w4)
def A.math_bits_TrailingZeros : AT := (.seq (.reg []) (.seq (.cond (.seq (.reg []) .leaf) .leaf) (.seq (.reg []) .leaf)))
theorem W.math_bits_TrailingZeros_eq (x : Int) (w : World) (Q : Value → World → Prop) : W.math_bits_TrailingZeros x w Q = DF Tryz.prog tk A.math_bits_TrailingZeros Tryz.f186 [.int .u64 x] w Q := by kernel_rfl
theorem W.math_bits_TrailingZeros_ok (x : Int) (w : World) (Q : Value → World → Prop) (h : W.math_bits_TrailingZeros x w Q) : Calls Tryz.prog F.math_bits_TrailingZeros #[.int .u64 x] w fun e w1 => ∃ v, e = .returned v ∧ Q v w1 :=
  calls_of_DF hmix Tryz.func186 (by kernel_rfl) (Eq.mp (W.math_bits_TrailingZeros_eq x w Q) h)

end Go.Proofs.YtgljoledlhmhnaaGreatDoor


namespace Go.Proofs.YtgljoledlhmhnaaGreatDoor
open Go Gx
set_option maxRecDepth 100000
/-- internal/strconv.lower -/
def W.internal_strconv_lower (c : Int) (w : World) (Q : Value → World → Prop) : Prop :=
  Q (.int .u8 (bOr .u8 c 32)) w
def A.internal_strconv_lower : AT := (.seq (.reg []) (.seq (.reg []) .leaf))
theorem W.internal_strconv_lower_eq (c : Int) (w : World) (Q : Value → World → Prop) : W.internal_strconv_lower c w Q = DF Tryz.prog tk A.internal_strconv_lower Tryz.f188 [.int .u8 c] w Q := by kernel_rfl
theorem W.internal_strconv_lower_ok (c : Int) (w : World) (Q : Value → World → Prop) (h : W.internal_strconv_lower c w Q) : Calls Tryz.prog F.internal_strconv_lower #[.int .u8 c] w fun e w1 => ∃ v, e = .returned v ∧ Q v w1 :=
  calls_of_DF hmix Tryz.func188 (by kernel_rfl) (Eq.mp (W.internal_strconv_lower_eq c w Q) h)

/-- strconv.syntaxError -/
def W.strconv_syntaxError (fn : ByteArray) (str : ByteArray) (w : World) (Q : Value → World → Prop) : Prop :=
  Nx (w.drew) fun w1 => ∃ W2 : Nat → Prop, ¬ W2 (⟨6, 0, none⟩ : Addr).block ∧
  ∃ v3 : Value, w1.cell? ⟨6, 0, none⟩ = some (v3) ∧ Calls Tryz.prog F.internal_stringslite_Clone #[.string str] w1 fun e5 w4 =>
  ∃ s6 : ByteArray, e5 = .returned (.string s6) ∧ Chg W2 w1 w4 ∧ ∃ c7 : Array Value, Sem.run Tryz.prog (Instr.build Ty.strconv_NumError #[(0, .string fn), (1, .string s6), (2, v3)]) w4 = .ok (.agg c7) w4 ∧
  Nx (w4.alloc (.cells c7 Ty.strconv_NumError)) fun w8 => Q (.pointer (some ⟨w4.heap.size, 0, none⟩)) w8
def A.strconv_syntaxError : AT := (.seq (.reg []) (.seq (.drw 4 true ⟨[0, 0, 2, 0, 13, 16, 63], [0, 0, 2, 0, 13, 16, 32]⟩ [32, 64, 128, 256, 512, 1024, 16] [1, 2, 64, 0, 416, 512, 1024] (.take 0 (.take 1 (.take 3 (.eff 2 (.tail [.run, .run, .run])))))) .leaf))
theorem W.strconv_syntaxError_eq (fn : ByteArray) (str : ByteArray) (w : World) (Q : Value → World → Prop) : W.strconv_syntaxError fn str w Q = DF Tryz.prog tk A.strconv_syntaxError Tryz.f190 [.string fn, .string str] w Q := by kernel_rfl
theorem W.strconv_syntaxError_ok (fn : ByteArray) (str : ByteArray) (w : World) (Q : Value → World → Prop) (h : W.strconv_syntaxError fn str w Q) : Calls Tryz.prog F.strconv_syntaxError #[.string fn, .string str] w fun e w1 => ∃ v, e = .returned v ∧ Q v w1 :=
  calls_of_DF hmix Tryz.func190 (by kernel_rfl) (Eq.mp (W.strconv_syntaxError_eq fn str w Q) h)

/-- strconv.rangeError -/
def W.strconv_rangeError (fn : ByteArray) (str : ByteArray) (w : World) (Q : Value → World → Prop) : Prop :=
  Nx (w.drew) fun w1 => ∃ W2 : Nat → Prop, ¬ W2 (⟨7, 0, none⟩ : Addr).block ∧
  ∃ v3 : Value, w1.cell? ⟨7, 0, none⟩ = some (v3) ∧ Calls Tryz.prog F.internal_stringslite_Clone #[.string str] w1 fun e5 w4 =>
  ∃ s6 : ByteArray, e5 = .returned (.string s6) ∧ Chg W2 w1 w4 ∧ ∃ c7 : Array Value, Sem.run Tryz.prog (Instr.build Ty.strconv_NumError #[(0, .string fn), (1, .string s6), (2, v3)]) w4 = .ok (.agg c7) w4 ∧
  Nx (w4.alloc (.cells c7 Ty.strconv_NumError)) fun w8 => Q (.pointer (some ⟨w4.heap.size, 0, none⟩)) w8
def A.strconv_rangeError : AT := (.seq (.reg []) (.seq (.drw 4 true ⟨[0, 0, 2, 0, 13, 16, 63], [0, 0, 2, 0, 13, 16, 32]⟩ [32, 64, 128, 256, 512, 1024, 16] [1, 2, 64, 0, 416, 512, 1024] (.take 0 (.take 1 (.take 3 (.eff 2 (.tail [.run, .run, .run])))))) .leaf))
theorem W.strconv_rangeError_eq (fn : ByteArray) (str : ByteArray) (w : World) (Q : Value → World → Prop) : W.strconv_rangeError fn str w Q = DF Tryz.prog tk A.strconv_rangeError Tryz.f191 [.string fn, .string str] w Q := by kernel_rfl
theorem W.strconv_rangeError_ok (fn : ByteArray) (str : ByteArray) (w : World) (Q : Value → World → Prop) (h : W.strconv_rangeError fn str w Q) : Calls Tryz.prog F.strconv_rangeError #[.string fn, .string str] w fun e w1 => ∃ v, e = .returned v ∧ Q v w1 :=
  calls_of_DF hmix Tryz.func191 (by kernel_rfl) (Eq.mp (W.strconv_rangeError_eq fn str w Q) h)

/-- internal/strconv.ParseInt -/
def W.internal_strconv_ParseInt (s : ByteArray) (base : Int) (bitSize : Int) (w : World) (Q : Value → World → Prop) : Prop :=
  (
    (ByteArray.toList s == ByteArray.toList (ByteArray.mk #[])) = true → Q (.tuple #[.int .i64 0, .iface Ty.strconv_Error (.int .i64 2)]) w)
  ∧ (
    (ByteArray.toList s == ByteArray.toList (ByteArray.mk #[])) = false → Jn (
      fun k1 : ByteArray → Bool → World → Prop => (0 : Int) ≤ 0 ∧ ∃ b2 : UInt8, byteAt s (Int.toNat 0) = some b2 ∧
      (
        ((((b2.toNat : Nat) : Int) : Int) == 43) = true → ((0 : Int) ≤ 1 ∧ 1 ≤ (((ByteArray.size s) : Nat) : Int)) ∧
        k1 (ByteArray.extract s (Int.toNat 1) (ByteArray.size s)) false w)
      ∧ (
        ((((b2.toNat : Nat) : Int) : Int) == 43) = false → (
          ((((b2.toNat : Nat) : Int) : Int) == 45) = true → ((0 : Int) ≤ 1 ∧ 1 ≤ (((ByteArray.size s) : Nat) : Int)) ∧
          k1 (ByteArray.extract s (Int.toNat 1) (ByteArray.size s)) true w)
        ∧ (((((b2.toNat : Nat) : Int) : Int) == 45) = false → k1 s false w))
      )
    (
      fun (s3 : ByteArray) (b4 : Bool) (w5 : World) => Calls Tryz.prog F.internal_strconv_ParseUint #[.string s3, .int .i64 base, .int .i64 bitSize] w5 fun e7 w6 =>
      ∃ n8 : Int, ∃ v9 : Value, e7 = .returned (.tuple #[.int .u64 n8, v9]) ∧ ∃ b10 : Bool, ifaceNil v9 = some b10 ∧
      Jn (
        fun k11 : Bool → World → Prop => (
          (!b10) = true → ∃ b12 : Bool, OpqEq Tryz.prog .neq Ty.error (.tmp 35) (.tmp 36) (v9) (.iface Ty.strconv_Error (.int .i64 1)) b12 ∧
          k11 b12 w6)
        ∧ ((!b10) = false → k11 false w6))
      (
        fun (b13 : Bool) (w14 : World) => (b13 = true → Q (.tuple #[.int .i64 0, v9]) w14) ∧
        (
          b13 = false → Jn (
            fun k15 : Int → World → Prop => (((bitSize : Int) == 0) = true → k15 64 w14) ∧
            (((bitSize : Int) == 0) = false → k15 bitSize w14))
          (
            fun (n16 : Int) (w17 : World) => (0 : Int) ≤ (IntKind.wrap .u64 (IntKind.wrap .i64 (n16 - 1))) ∧
            (
              (
                (!b4) && (
                  decide (
                    (n8 : Int) ≥ (IntKind.wrap .u64 (1 * 2 ^ (min (Int.toNat (IntKind.wrap .u64 (IntKind.wrap .i64 (n16 - 1)))) 64))))
                  )
                )
              = true → Q (
                .tuple #[.int .i64 (
                  IntKind.wrap .i64 (
                    IntKind.wrap .u64 (
                      (IntKind.wrap .u64 (1 * 2 ^ (min (Int.toNat (IntKind.wrap .u64 (IntKind.wrap .i64 (n16 - 1)))) 64))) - 1)
                    )
                  )
                , .iface Ty.strconv_Error (.int .i64 1)])
              w17)
            ∧ (
              (
                (!b4) && (
                  decide (
                    (n8 : Int) ≥ (IntKind.wrap .u64 (1 * 2 ^ (min (Int.toNat (IntKind.wrap .u64 (IntKind.wrap .i64 (n16 - 1)))) 64))))
                  )
                )
              = false → (
                (
                  b4 && (
                    decide (
                      (n8 : Int) > (IntKind.wrap .u64 (1 * 2 ^ (min (Int.toNat (IntKind.wrap .u64 (IntKind.wrap .i64 (n16 - 1)))) 64))))
                    )
                  )
                = true → Q (
                  .tuple #[.int .i64 (
                    IntKind.wrap .i64 (
                      0 - (
                        IntKind.wrap .i64 (IntKind.wrap .u64 (1 * 2 ^ (min (Int.toNat (IntKind.wrap .u64 (IntKind.wrap .i64 (n16 - 1)))) 64))))
                      )
                    )
                  , .iface Ty.strconv_Error (.int .i64 1)])
                w17)
              ∧ (
                (
                  b4 && (
                    decide (
                      (n8 : Int) > (IntKind.wrap .u64 (1 * 2 ^ (min (Int.toNat (IntKind.wrap .u64 (IntKind.wrap .i64 (n16 - 1)))) 64))))
                    )
                  )
                = false → Jn (
                  fun k18 : Int → World → Prop => (b4 = true → k18 (IntKind.wrap .i64 (0 - (IntKind.wrap .i64 n8))) w17) ∧
                  (b4 = false → k18 (IntKind.wrap .i64 n8) w17))
                (fun (n19 : Int) (w20 : World) => Q (.tuple #[.int .i64 n19, .nilIface]) w20))
              )
            )
          )
        )
      )
    )
def A.internal_strconv_ParseInt : AT := (.seq (.reg []) (.seq (.seq (.reg []) (.cond (.seq (.reg []) .leaf) .leaf)) (.seq (.reg []) (.seq (.jk [(0, .str), (8, .bool)] [1, 2] (.seq (.reg []) (.blk (.seq (.reg []) (.cond (.reg []) (.seq (.reg []) (.cond (.seq (.reg []) (.reg [])) .leaf))))))) (.seq (.reg []) (.seq (.reg []) (.seq (.seq (.reg [.run, .run, .run, .split 3]) (.cond (.seq (.reg []) .leaf) .leaf)) (.seq (.jk [(2, (.int .i64))] [8, 9] (.seq (.reg []) (.cond (.reg []) .leaf))) (.seq (.reg []) (.seq (.seq (.reg [.run, .run, .run, .pure 3]) (.cond (.seq (.reg []) .leaf) .leaf)) (.seq (.seq (.reg [.run, .run, .pure 3]) (.cond (.seq (.reg []) .leaf) .leaf)) (.seq (.reg []) (.seq (.jk [(11, (.int .i64))] [] (.seq (.reg []) (.cond (.reg []) .leaf))) (.seq (.reg []) .leaf))))))))))))))
theorem W.internal_strconv_ParseInt_eq (s : ByteArray) (base : Int) (bitSize : Int) (w : World) (Q : Value → World → Prop) : W.internal_strconv_ParseInt s base bitSize w Q = DF Tryz.prog tk A.internal_strconv_ParseInt Tryz.f194 [.string s, .int .i64 base, .int .i64 bitSize] w Q := by kernel_rfl
theorem W.internal_strconv_ParseInt_ok (s : ByteArray) (base : Int) (bitSize : Int) (w : World) (Q : Value → World → Prop) (h : W.internal_strconv_ParseInt s base bitSize w Q) : Calls Tryz.prog F.internal_strconv_ParseInt #[.string s, .int .i64 base, .int .i64 bitSize] w fun e w1 => ∃ v, e = .returned v ∧ Q v w1 :=
  calls_of_DF hmix Tryz.func194 (by kernel_rfl) (Eq.mp (W.internal_strconv_ParseInt_eq s base bitSize w Q) h)

/-- strings.Contains -/
def W.strings_Contains (s : ByteArray) (substr : ByteArray) (w : World) (Q : Value → World → Prop) : Prop :=
  Calls Tryz.prog F.strings_Index #[.string s, .string substr] w fun e2 w1 =>
  ∃ n3 : Int, e2 = .returned (.int .i64 n3) ∧ Q (.bool (decide ((n3 : Int) ≥ 0))) w1
def A.strings_Contains : AT := (.seq (.reg []) (.seq (.reg []) .leaf))
theorem W.strings_Contains_eq (s : ByteArray) (substr : ByteArray) (w : World) (Q : Value → World → Prop) : W.strings_Contains s substr w Q = DF Tryz.prog tk A.strings_Contains Tryz.f195 [.string s, .string substr] w Q := by kernel_rfl
theorem W.strings_Contains_ok (s : ByteArray) (substr : ByteArray) (w : World) (Q : Value → World → Prop) (h : W.strings_Contains s substr w Q) : Calls Tryz.prog F.strings_Contains #[.string s, .string substr] w fun e w1 => ∃ v, e = .returned v ∧ Q v w1 :=
  calls_of_DF hmix Tryz.func195 (by kernel_rfl) (Eq.mp (W.strings_Contains_eq s substr w Q) h)

/-- math/bits.TrailingZeros64 -/
def W.math_bits_TrailingZeros64 (x : Int) (w : World) (Q : Value → World → Prop) : Prop :=
  (((x : Int) == 0) = true → Q (.int .i64 64) w) ∧ (
    ((x : Int) == 0) = false → (0 : Int) ≤ 58 ∧ (
      (0 : Int) ≤ (
        Int.fdiv (IntKind.wrap .u64 ((bAnd .u64 x (IntKind.wrap .u64 (0 - x))) * 285870213051353865)) (2 ^ (min (Int.toNat 58) 64)))
      ∧ (
        Int.fdiv (IntKind.wrap .u64 ((bAnd .u64 x (IntKind.wrap .u64 (0 - x))) * 285870213051353865)) (2 ^ (min (Int.toNat 58) 64)))
      < ((64 : Nat) : Int))
    ∧ ∃ n1 : Int, w.cell? (
      Addr.add ⟨9, 0, none⟩ (
        Int.toNat (
          Int.fdiv (IntKind.wrap .u64 ((bAnd .u64 x (IntKind.wrap .u64 (0 - x))) * 285870213051353865)) (2 ^ (min (Int.toNat 58) 64)))
        * 1)
      )
    = some (.int .u8 n1) ∧ Q (.int .i64 (IntKind.wrap .i64 n1)) w)
def A.math_bits_TrailingZeros64 : AT := (.seq (.reg []) (.seq (.seq (.reg []) (.cond (.seq (.reg []) .leaf) .leaf)) (.seq (.reg []) .leaf)))
theorem W.math_bits_TrailingZeros64_eq (x : Int) (w : World) (Q : Value → World → Prop) : W.math_bits_TrailingZeros64 x w Q = DF Tryz.prog tk A.math_bits_TrailingZeros64 Tryz.f205 [.int .u64 x] w Q := by kernel_rfl
theorem W.math_bits_TrailingZeros64_ok (x : Int) (w : World) (Q : Value → World → Prop) (h : W.math_bits_TrailingZeros64 x w Q) : Calls Tryz.prog F.math_bits_TrailingZeros64 #[.int .u64 x] w fun e w1 => ∃ v, e = .returned v ∧ Q v w1 :=
  calls_of_DF hmix Tryz.func205 (by kernel_rfl) (Eq.mp (W.math_bits_TrailingZeros64_eq x w Q) h)

/-- internal/stringslite.Clone -/
def W.internal_stringslite_Clone (s : ByteArray) (w : World) (Q : Value → World → Prop) : Prop :=
  (((((ByteArray.size s : Nat) : Int) : Int) == 0) = true → Q (.string (ByteArray.mk #[])) w) ∧
  (
    ((((ByteArray.size s : Nat) : Int) : Int) == 0) = false → (
      (0 : Int) ≤ ((ByteArray.size s : Nat) : Int) ∧ (((ByteArray.size s : Nat) : Int) : Int) ≤ ((ByteArray.size s : Nat) : Int) ∧
      (((ByteArray.size s : Nat) : Int) : Int) ≤ 9223372036854775807 ∧ ((1 : Nat) : Int) * ((ByteArray.size s : Nat) : Int) ≤ 140737488355328)
    ∧ Nx (w.alloc (.cells (zrow Tryz.prog Ty.uint8 (Int.toNat ((ByteArray.size s : Nat) : Int))) Ty.uint8)) fun w1 =>
    ∃ n2 : Int, ∃ w3 : World, Sem.run Tryz.prog (
      Builtin.copy_ #[Ty.Sl_uint8, Ty.string] Ty.int #[.slice (some ⟨w.heap.size, 0, none⟩) (Int.toNat ((ByteArray.size s : Nat) : Int)) (Int.toNat ((ByteArray.size s : Nat) : Int)), .string s])
    w1 = .ok (.int .i64 n2) w3 ∧ ∃ a4 : Addr, (some ⟨w.heap.size, 0, none⟩) = some a4 ∧
    ((0 : Int) ≤ 0 ∧ 0 < (((Int.toNat ((ByteArray.size s : Nat) : Int)) : Nat) : Int)) ∧
    ∃ s5 : ByteArray, ∃ w6 : World, Sem.run Tryz.prog (
      Builtin.unsafeString_ #[Ty.P_uint8, Ty.int] Ty.string #[.pointer (some (a4.add (Int.toNat 0 * 1))), .int .i64 (((Int.toNat ((ByteArray.size s : Nat) : Int)) : Nat) : Int)])
    w3 = .ok (.string s5) w6 ∧ Q (.string s5) w6)
def A.internal_stringslite_Clone : AT := (.seq (.reg []) (.seq (.seq (.reg []) (.cond (.seq (.reg []) .leaf) .leaf)) (.seq (.reg []) (.seq (.reg []) (.seq (.reg []) .leaf)))))
theorem W.internal_stringslite_Clone_eq (s : ByteArray) (w : World) (Q : Value → World → Prop) : W.internal_stringslite_Clone s w Q = DF Tryz.prog tk A.internal_stringslite_Clone Tryz.f206 [.string s] w Q := by kernel_rfl
theorem W.internal_stringslite_Clone_ok (s : ByteArray) (w : World) (Q : Value → World → Prop) (h : W.internal_stringslite_Clone s w Q) : Calls Tryz.prog F.internal_stringslite_Clone #[.string s] w fun e w1 => ∃ v, e = .returned v ∧ Q v w1 :=
  calls_of_DF hmix Tryz.func206 (by kernel_rfl) (Eq.mp (W.internal_stringslite_Clone_eq s w Q) h)

/-- slices.Clone[[]byte,byte] -/
def W.slices_Clone_Sl_byte_byte (s : Sl) (w : World) (Q : Value → World → Prop) : Prop :=
  ((Option.isNone s.a) = true → Q (.slice none 0 0) w) ∧ (
    (Option.isNone s.a) = false → Nx (w.alloc (.cells #[] Ty.uint8)) fun w1 =>
    ∃ s2 : Sl, ∃ w3 : World, Sem.run Tryz.prog (
      Builtin.append_ #[Ty.Sl_uint8, Ty.Sl_uint8] Ty.Sl_uint8 #[.slice (some ⟨w.heap.size, 0, none⟩) 0 0, .slice s.a s.len s.cap])
    w1 = .ok (.slice s2.a s2.len s2.cap) w3 ∧ Q (.slice s2.a s2.len s2.cap) w3)
def A.slices_Clone_Sl_byte_byte : AT := (.seq (.reg []) (.seq (.seq (.reg []) (.cond (.seq (.reg []) .leaf) .leaf)) (.seq (.reg []) .leaf)))
theorem W.slices_Clone_Sl_byte_byte_eq (s : Sl) (w : World) (Q : Value → World → Prop) : W.slices_Clone_Sl_byte_byte s w Q = DF Tryz.prog tk A.slices_Clone_Sl_byte_byte Tryz.f211 [.slice s.a s.len s.cap] w Q := by kernel_rfl
theorem W.slices_Clone_Sl_byte_byte_ok (s : Sl) (w : World) (Q : Value → World → Prop) (h : W.slices_Clone_Sl_byte_byte s w Q) : Calls Tryz.prog F.slices_Clone_Sl_byte_byte #[.slice s.a s.len s.cap] w fun e w1 => ∃ v, e = .returned v ∧ Q v w1 :=
  calls_of_DF hmix Tryz.func211 (by kernel_rfl) (Eq.mp (W.slices_Clone_Sl_byte_byte_eq s w Q) h)

end Go.Proofs.YtgljoledlhmhnaaGreatDoor

