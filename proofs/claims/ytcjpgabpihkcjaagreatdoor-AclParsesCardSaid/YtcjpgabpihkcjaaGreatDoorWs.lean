/- Printed by gen.py: each function of the program as what must be shown of it. -/
import Derived.Test.YtcjpgabpihkcjaaGreatDoorGb
namespace Go.Proofs.YtcjpgabpihkcjaaGreatDoor
open Go Gx
set_option maxRecDepth 100000
/-- gosem.cut.init -/
def W.gosem_cut_init  (w : World) (Q : Value → World → Prop) : Prop :=
  ∃ w1 : World, Sem.run Tryz.prog (callFunc F.gosem_cut #[]) w = .ok (.value (.tuple #[])) w1 ∧
  Q (.tuple #[]) w1
def A.gosem_cut_init : AT := (.reg [])
theorem W.gosem_cut_init_eq  (w : World) (Q : Value → World → Prop) : W.gosem_cut_init  w Q = DF Tryz.prog tk A.gosem_cut_init Tryz.f2 [] w Q := by kernel_rfl
theorem W.gosem_cut_init_ok  (w : World) (Q : Value → World → Prop) (h : W.gosem_cut_init  w Q) : Calls Tryz.prog F.gosem_cut_init #[] w fun e w1 => ∃ v, e = .returned v ∧ Q v w1 :=
  calls_of_DF hmix Tryz.func2 (by kernel_rfl) (Eq.mp (W.gosem_cut_init_eq  w Q) h)

/-- strings.Split -/
def W.strings_Split (s : ByteArray) (sep : ByteArray) (w : World) (Q : Value → World → Prop) : Prop :=
  Calls Tryz.prog F.strings_genSplit #[.string s, .string sep, .int .i64 0, .int .i64 (-1)] w fun e2 w1 =>
  ∃ s3 : Sl, e2 = .returned (.slice s3.a s3.len s3.cap) ∧ Q (.slice s3.a s3.len s3.cap) w1
def A.strings_Split : AT := (.seq (.reg []) (.seq (.reg []) .leaf))
theorem W.strings_Split_eq (s : ByteArray) (sep : ByteArray) (w : World) (Q : Value → World → Prop) : W.strings_Split s sep w Q = DF Tryz.prog tk A.strings_Split Tryz.f10 [.string s, .string sep] w Q := by kernel_rfl
theorem W.strings_Split_ok (s : ByteArray) (sep : ByteArray) (w : World) (Q : Value → World → Prop) (h : W.strings_Split s sep w Q) : Calls Tryz.prog F.strings_Split #[.string s, .string sep] w fun e w1 => ∃ v, e = .returned v ∧ Q v w1 :=
  calls_of_DF hmix Tryz.func10 (by kernel_rfl) (Eq.mp (W.strings_Split_eq s sep w Q) h)

/-- strings.Cut -/
def W.strings_Cut (s : ByteArray) (sep : ByteArray) (w : World) (Q : Value → World → Prop) : Prop :=
  Calls Tryz.prog F.internal_stringslite_Cut #[.string s, .string sep] w fun e2 w1 =>
  ∃ s3 : ByteArray, ∃ s4 : ByteArray, ∃ b5 : Bool, e2 = .returned (.tuple #[.string s3, .string s4, .bool b5]) ∧
  Q (.tuple #[.string s3, .string s4, .bool b5]) w1
def A.strings_Cut : AT := (.seq (.reg []) (.seq (.reg []) .leaf))
theorem W.strings_Cut_eq (s : ByteArray) (sep : ByteArray) (w : World) (Q : Value → World → Prop) : W.strings_Cut s sep w Q = DF Tryz.prog tk A.strings_Cut Tryz.f13 [.string s, .string sep] w Q := by kernel_rfl
theorem W.strings_Cut_ok (s : ByteArray) (sep : ByteArray) (w : World) (Q : Value → World → Prop) (h : W.strings_Cut s sep w Q) : Calls Tryz.prog F.strings_Cut #[.string s, .string sep] w fun e w1 => ∃ v, e = .returned v ∧ Q v w1 :=
  calls_of_DF hmix Tryz.func13 (by kernel_rfl) (Eq.mp (W.strings_Cut_eq s sep w Q) h)

/-- strconv.Itoa -/
def W.strconv_Itoa (i : Int) (w : World) (Q : Value → World → Prop) : Prop :=
  Calls Tryz.prog F.internal_strconv_Itoa #[.int .i64 i] w fun e2 w1 => ∃ s3 : ByteArray, e2 = .returned (.string s3) ∧
  Q (.string s3) w1
def A.strconv_Itoa : AT := (.seq (.reg []) (.seq (.reg []) .leaf))
theorem W.strconv_Itoa_eq (i : Int) (w : World) (Q : Value → World → Prop) : W.strconv_Itoa i w Q = DF Tryz.prog tk A.strconv_Itoa Tryz.f21 [.int .i64 i] w Q := by kernel_rfl
theorem W.strconv_Itoa_ok (i : Int) (w : World) (Q : Value → World → Prop) (h : W.strconv_Itoa i w Q) : Calls Tryz.prog F.strconv_Itoa #[.int .i64 i] w fun e w1 => ∃ v, e = .returned v ∧ Q v w1 :=
  calls_of_DF hmix Tryz.func21 (by kernel_rfl) (Eq.mp (W.strconv_Itoa_eq i w Q) h)

/-- strings.Join -/
def W.strings_Join (elems : Sl) (sep : ByteArray) (w : World) (Q : Value → World → Prop) : Prop :=
  (((((elems.len : Nat) : Int) : Int) == 0) = true → Q (.string (ByteArray.mk #[])) w) ∧
  (
    ((((elems.len : Nat) : Int) : Int) == 0) = false → (
      ((((elems.len : Nat) : Int) : Int) == 1) = true → ∃ a1 : Addr, elems.a = some a1 ∧
      ((0 : Int) ≤ 0 ∧ 0 < ((elems.len : Nat) : Int)) ∧ ∃ s2 : ByteArray, w.cell? (a1.add (Int.toNat 0 * 1)) = some (.string s2) ∧
      Q (.string s2) w)
    ∧ (
      ((((elems.len : Nat) : Int) : Int) == 1) = false → Jn (
        fun k3 : Int → World → Prop => (
          (decide ((((ByteArray.size sep : Nat) : Int) : Int) > 0)) = true → Jn (
            fun k4 : World → Prop => ((IntKind.wrap .i64 (((elems.len : Nat) : Int) - 1)) : Int) ≠ 0 ∧
            (
              (
                decide (
                  (((ByteArray.size sep : Nat) : Int) : Int) ≥ (
                    IntKind.wrap .i64 (Int.tdiv 9223372036854775807 (IntKind.wrap .i64 (((elems.len : Nat) : Int) - 1))))
                  )
                )
              = true → False)
            ∧ (
              (
                decide (
                  (((ByteArray.size sep : Nat) : Int) : Int) ≥ (
                    IntKind.wrap .i64 (Int.tdiv 9223372036854775807 (IntKind.wrap .i64 (((elems.len : Nat) : Int) - 1))))
                  )
                )
              = false → k4 w)
            )
          (
            fun  (w5 : World) => k3 (
              IntKind.wrap .i64 (
                0 + (
                  IntKind.wrap .i64 (((ByteArray.size sep : Nat) : Int) * (IntKind.wrap .i64 (((elems.len : Nat) : Int) - 1))))
                )
              )
            w5)
          )
        ∧ ((decide ((((ByteArray.size sep : Nat) : Int) : Int) > 0)) = false → k3 0 w))
      (
        fun (n6 : Int) (w7 : World) => ∃ (I8 : Int → Int → World → Prop) (μ9 : Int → Int → World → Nat), I8 n6 0 w7 ∧
        ∀ (n10 : Int) (n11 : Int) (w12 : World), I8 n10 n11 w12 → (
          (decide ((n11 : Int) < ((elems.len : Nat) : Int))) = true → ∃ a13 : Addr, elems.a = some a13 ∧
          ((0 : Int) ≤ n11 ∧ n11 < ((elems.len : Nat) : Int)) ∧ ∃ s14 : ByteArray, w12.cell? (a13.add (Int.toNat n11 * 1)) = some (.string s14) ∧
          Jn (
            fun k15 : World → Prop => (
              (
                decide ((((ByteArray.size s14 : Nat) : Int) : Int) > (IntKind.wrap .i64 (9223372036854775807 - n10))))
              = true → False)
            ∧ (
              (
                decide ((((ByteArray.size s14 : Nat) : Int) : Int) > (IntKind.wrap .i64 (9223372036854775807 - n10))))
              = false → k15 w12)
            )
          (
            fun  (w16 : World) => I8 (IntKind.wrap .i64 (n10 + ((ByteArray.size s14 : Nat) : Int))) (IntKind.wrap .i64 (n11 + 1)) w16 ∧
            μ9 (IntKind.wrap .i64 (n10 + ((ByteArray.size s14 : Nat) : Int))) (IntKind.wrap .i64 (n11 + 1)) w16 < μ9 n10 n11 w12)
          )
        ∧ (
          (decide ((n11 : Int) < ((elems.len : Nat) : Int))) = false → Nx (w12.alloc (.cells #[.pointer none, .slice none 0 0] Ty.strings_Builder)) fun w17 =>
          Calls Tryz.prog F.strings_Builder_Grow #[.pointer (some ⟨w12.heap.size, 0, none⟩), .int .i64 n10] w17 fun e19 w18 =>
          e19 = .returned (.tuple #[]) ∧ ∃ a20 : Addr, elems.a = some a20 ∧ ((0 : Int) ≤ 0 ∧ 0 < ((elems.len : Nat) : Int)) ∧
          ∃ s21 : ByteArray, w18.cell? (a20.add (Int.toNat 0 * 1)) = some (.string s21) ∧
          Calls Tryz.prog F.strings_Builder_WriteString #[.pointer (some ⟨w12.heap.size, 0, none⟩), .string s21] w18 fun e23 w22 =>
          ∃ n24 : Int, ∃ v25 : Value, e23 = .returned (.tuple #[.int .i64 n24, v25]) ∧
          ((0 : Int) ≤ 1 ∧ 1 ≤ ((elems.len : Nat) : Int)) ∧ ∃ (I26 : Int → World → Prop) (μ27 : Int → World → Nat), I26 0 w22 ∧
          ∀ (n28 : Int) (w29 : World), I26 n28 w29 → (
            (decide ((n28 : Int) < (((elems.len - (Int.toNat 1)) : Nat) : Int))) = true →
            ∃ a30 : Addr, (cutA elems.a 1 (Int.toNat 1) elems.cap) = some a30 ∧ ((0 : Int) ≤ n28 ∧ n28 < (((elems.len - (Int.toNat 1)) : Nat) : Int)) ∧
            ∃ s31 : ByteArray, w29.cell? (a30.add (Int.toNat n28 * 1)) = some (.string s31) ∧
            Calls Tryz.prog F.strings_Builder_WriteString #[.pointer (some ⟨w12.heap.size, 0, none⟩), .string sep] w29 fun e33 w32 =>
            ∃ n34 : Int, ∃ v35 : Value, e33 = .returned (.tuple #[.int .i64 n34, v35]) ∧
            Calls Tryz.prog F.strings_Builder_WriteString #[.pointer (some ⟨w12.heap.size, 0, none⟩), .string s31] w32 fun e37 w36 =>
            ∃ n38 : Int, ∃ v39 : Value, e37 = .returned (.tuple #[.int .i64 n38, v39]) ∧
            I26 (IntKind.wrap .i64 (n28 + 1)) w36 ∧ μ27 (IntKind.wrap .i64 (n28 + 1)) w36 < μ27 n28 w29)
          ∧ (
            (decide ((n28 : Int) < (((elems.len - (Int.toNat 1)) : Nat) : Int))) = false →
            Calls Tryz.prog F.strings_Builder_String #[.pointer (some ⟨w12.heap.size, 0, none⟩)] w29 fun e41 w40 =>
            ∃ s42 : ByteArray, e41 = .returned (.string s42) ∧ Q (.string s42) w40)
          )
        )
      )
    )
def A.strings_Join : AT := (.seq (.reg []) (.seq (.seq (.reg []) (.blk (.seq (.reg []) (.cond (.seq (.reg []) .leaf) (.seq (.reg []) (.cond (.seq (.reg []) .leaf) .leaf)))))) (.seq (.reg []) (.seq (.jk [(5, (.int .i64))] [0, 1] (.seq (.reg []) (.cond (.seq (.jk [] [0, 1, 5] (.seq (.reg []) (.cond (.reg []) .leaf))) (.reg [])) .leaf))) (.seq (.seq (.reg []) (.blk (.loop [(5, (.int .i64)), (41, (.int .i64))] [0, 1, 39, 40] (.seq (.reg []) (.seq (.cond .leaf .leaf) (.seq (.blk (.seq (.reg []) (.seq (.jk [] [0, 1, 5, 7, 39, 40, 41] (.seq (.reg []) (.cond (.reg []) .leaf))) (.reg [])))) (.reg []))))))) (.seq (.reg []) (.seq (.reg []) (.seq (.reg []) (.seq (.seq (.reg []) (.blk (.loop [(65, (.int .i64))] [1, 8, 63, 64] (.seq (.reg []) (.seq (.cond .leaf .leaf) (.seq (.blk (.seq (.reg []) (.seq (.reg []) (.reg [])))) (.reg []))))))) (.seq (.reg []) .leaf))))))))))
theorem W.strings_Join_eq (elems : Sl) (sep : ByteArray) (w : World) (Q : Value → World → Prop) : W.strings_Join elems sep w Q = DF Tryz.prog tk A.strings_Join Tryz.f22 [.slice elems.a elems.len elems.cap, .string sep] w Q := by kernel_rfl
theorem W.strings_Join_ok (elems : Sl) (sep : ByteArray) (w : World) (Q : Value → World → Prop) (h : W.strings_Join elems sep w Q) : Calls Tryz.prog F.strings_Join #[.slice elems.a elems.len elems.cap, .string sep] w fun e w1 => ∃ v, e = .returned v ∧ Q v w1 :=
  calls_of_DF hmix Tryz.func22 (by kernel_rfl) (Eq.mp (W.strings_Join_eq elems sep w Q) h)

/-- strings.genSplit -/
def W.strings_genSplit (s : ByteArray) (sep : ByteArray) (sepSave : Int) (n : Int) (w : World) (Q : Value → World → Prop) : Prop :=
  (((n : Int) == 0) = true → Q (.slice none 0 0) w) ∧ (
    ((n : Int) == 0) = false → (
      (ByteArray.toList sep == ByteArray.toList (ByteArray.mk #[])) = true → Calls Tryz.prog F.strings_explode #[.string s, .int .i64 n] w fun e2 w1 =>
      ∃ s3 : Sl, e2 = .returned (.slice s3.a s3.len s3.cap) ∧ Q (.slice s3.a s3.len s3.cap) w1)
    ∧ (
      (ByteArray.toList sep == ByteArray.toList (ByteArray.mk #[])) = false → Jn (
        fun k4 : Int → World → Prop => (
          (decide ((n : Int) < 0)) = true → Calls Tryz.prog F.strings_Count #[.string s, .string sep] w fun e6 w5 =>
          ∃ n7 : Int, e6 = .returned (.int .i64 n7) ∧ k4 (IntKind.wrap .i64 (n7 + 1)) w5)
        ∧ ((decide ((n : Int) < 0)) = false → k4 n w))
      (
        fun (n8 : Int) (w9 : World) => ∃ n10 : Int, ∃ w11 : World, Sem.run Tryz.prog (
          Builtin.min_ #[Ty.int, Ty.int] Ty.int #[.int .i64 n8, .int .i64 (IntKind.wrap .i64 (((ByteArray.size s : Nat) : Int) + 1))])
        w9 = .ok (.int .i64 n10) w11 ∧ (
          (0 : Int) ≤ n10 ∧ n10 ≤ n10 ∧ n10 ≤ 9223372036854775807 ∧ ((16 : Nat) : Int) * n10 ≤ 140737488355328)
        ∧ Nx (w11.alloc (.cells (zrow Tryz.prog Ty.string (Int.toNat n10)) Ty.string)) fun w12 =>
        Jn (
          fun k13 : ByteArray → Int → World → Prop => ∃ (I14 : ByteArray → Int → World → Prop) (μ15 : ByteArray → Int → World → Nat), I14 s 0 w12 ∧
          ∀ (s16 : ByteArray) (n17 : Int) (w18 : World), I14 s16 n17 w18 → (
            (decide ((n17 : Int) < (IntKind.wrap .i64 (n10 - 1)))) = true → Calls Tryz.prog F.strings_Index #[.string s16, .string sep] w18 fun e20 w19 =>
            ∃ n21 : Int, e20 = .returned (.int .i64 n21) ∧ ((decide ((n21 : Int) < 0)) = true → k13 s16 n17 w19) ∧
            (
              (decide ((n21 : Int) < 0)) = false → (
                (0 : Int) ≤ (IntKind.wrap .i64 (n21 + sepSave)) ∧ (IntKind.wrap .i64 (n21 + sepSave)) ≤ (((ByteArray.size s16) : Nat) : Int))
              ∧ ∃ a22 : Addr, (some ⟨w11.heap.size, 0, none⟩) = some a22 ∧ ((0 : Int) ≤ n17 ∧ n17 < (((Int.toNat n10) : Nat) : Int)) ∧
              (∃ u : Value, w19.cell? (a22.add (Int.toNat n17 * 1)) = some u) ∧ w19.frozen? (a22.add (Int.toNat n17 * 1)) = false ∧
              Nx (
                w19.setCell (a22.add (Int.toNat n17 * 1)) (.string (ByteArray.extract s16 0 (Int.toNat (IntKind.wrap .i64 (n21 + sepSave))))))
              fun w23 => (
                (0 : Int) ≤ (IntKind.wrap .i64 (n21 + ((ByteArray.size sep : Nat) : Int))) ∧
                (IntKind.wrap .i64 (n21 + ((ByteArray.size sep : Nat) : Int))) ≤ (((ByteArray.size s16) : Nat) : Int))
              ∧ I14 (
                ByteArray.extract s16 (Int.toNat (IntKind.wrap .i64 (n21 + ((ByteArray.size sep : Nat) : Int)))) (ByteArray.size s16))
              (IntKind.wrap .i64 (n17 + 1)) w23 ∧ μ15 (
                ByteArray.extract s16 (Int.toNat (IntKind.wrap .i64 (n21 + ((ByteArray.size sep : Nat) : Int)))) (ByteArray.size s16))
              (IntKind.wrap .i64 (n17 + 1)) w23 < μ15 s16 n17 w18)
            )
          ∧ ((decide ((n17 : Int) < (IntKind.wrap .i64 (n10 - 1)))) = false → k13 s16 n17 w18))
        (
          fun (s24 : ByteArray) (n25 : Int) (w26 : World) => ∃ a27 : Addr, (some ⟨w11.heap.size, 0, none⟩) = some a27 ∧
          ((0 : Int) ≤ n25 ∧ n25 < (((Int.toNat n10) : Nat) : Int)) ∧ (∃ u : Value, w26.cell? (a27.add (Int.toNat n25 * 1)) = some u) ∧
          w26.frozen? (a27.add (Int.toNat n25 * 1)) = false ∧ Nx (w26.setCell (a27.add (Int.toNat n25 * 1)) (.string s24)) fun w28 =>
          (
            (0 : Int) ≤ (IntKind.wrap .i64 (n25 + 1)) ∧ (IntKind.wrap .i64 (n25 + 1)) ≤ (((Int.toNat n10) : Nat) : Int))
          ∧ Q (
            .slice (cutA (some ⟨w11.heap.size, 0, none⟩) 1 0 (Int.toNat n10)) ((Int.toNat (IntKind.wrap .i64 (n25 + 1))) - 0) ((Int.toNat n10) - 0))
          w28)
        )
      )
    )
def A.strings_genSplit : AT := (.seq (.reg []) (.seq (.seq (.reg []) (.cond (.seq (.reg []) .leaf) .leaf)) (.seq (.seq (.reg []) (.cond (.seq (.reg []) .leaf) .leaf)) (.seq (.jk [(3, (.int .i64))] [0, 1, 2] (.seq (.reg []) (.cond (.reg []) .leaf))) (.seq (.reg []) (.seq (.reg []) (.seq (.reg []) (.seq (.reg []) (.seq (.jk [(0, .str), (10, (.int .i64))] [9] (.blk (.loop [(0, .str), (10, (.int .i64))] [1, 2, 3, 9] (.seq (.seq (.reg []) (.cond .leaf .leaf)) (.blk (.seq (.reg []) (.seq (.seq (.reg []) (.cond .leaf .leaf)) (.seq (.reg []) (.seq (.reg []) (.reg [])))))))))) (.seq (.reg []) (.seq (.reg []) .leaf)))))))))))
theorem W.strings_genSplit_eq (s : ByteArray) (sep : ByteArray) (sepSave : Int) (n : Int) (w : World) (Q : Value → World → Prop) : W.strings_genSplit s sep sepSave n w Q = DF Tryz.prog tk A.strings_genSplit Tryz.f25 [.string s, .string sep, .int .i64 sepSave, .int .i64 n] w Q := by kernel_rfl
theorem W.strings_genSplit_ok (s : ByteArray) (sep : ByteArray) (sepSave : Int) (n : Int) (w : World) (Q : Value → World → Prop) (h : W.strings_genSplit s sep sepSave n w Q) : Calls Tryz.prog F.strings_genSplit #[.string s, .string sep, .int .i64 sepSave, .int .i64 n] w fun e w1 => ∃ v, e = .returned v ∧ Q v w1 :=
  calls_of_DF hmix Tryz.func25 (by kernel_rfl) (Eq.mp (W.strings_genSplit_eq s sep sepSave n w Q) h)

/-- strconv.Atoi -/
def W.strconv_Atoi (s : ByteArray) (w : World) (Q : Value → World → Prop) : Prop :=
  Calls Tryz.prog F.internal_strconv_Atoi #[.string s] w fun e2 w1 => ∃ n3 : Int, ∃ v4 : Value, e2 = .returned (.tuple #[.int .i64 n3, v4]) ∧
  ∃ b5 : Bool, ifaceNil v4 = some b5 ∧ (
    (!b5) = true → Calls Tryz.prog F.strconv_toError #[.string (ByteArray.mk #[65, 116, 111, 105]), .string s, .int .i64 0, .int .i64 0, v4] w1 fun e7 w6 =>
    ∃ v8 : Value, e7 = .returned (v8) ∧ Q (.tuple #[.int .i64 n3, v8]) w6)
  ∧ ((!b5) = false → Q (.tuple #[.int .i64 n3, .nilIface]) w1)
def A.strconv_Atoi : AT := (.seq (.reg []) (.seq (.reg []) (.seq (.seq (.reg []) (.cond (.seq (.reg []) .leaf) .leaf)) (.seq (.reg []) .leaf))))
theorem W.strconv_Atoi_eq (s : ByteArray) (w : World) (Q : Value → World → Prop) : W.strconv_Atoi s w Q = DF Tryz.prog tk A.strconv_Atoi Tryz.f27 [.string s] w Q := by kernel_rfl
theorem W.strconv_Atoi_ok (s : ByteArray) (w : World) (Q : Value → World → Prop) (h : W.strconv_Atoi s w Q) : Calls Tryz.prog F.strconv_Atoi #[.string s] w fun e w1 => ∃ v, e = .returned v ∧ Q v w1 :=
  calls_of_DF hmix Tryz.func27 (by kernel_rfl) (Eq.mp (W.strconv_Atoi_eq s w Q) h)

/-- internal/stringslite.Cut -/
def W.internal_stringslite_Cut (s : ByteArray) (sep : ByteArray) (w : World) (Q : Value → World → Prop) : Prop :=
  Calls Tryz.prog F.internal_stringslite_Index #[.string s, .string sep] w fun e2 w1 =>
  ∃ n3 : Int, e2 = .returned (.int .i64 n3) ∧ (
    (decide ((n3 : Int) ≥ 0)) = true → Nx (w1.drew) fun w4 => ((0 : Int) ≤ n3 ∧ n3 ≤ (((ByteArray.size s) : Nat) : Int)) ∧
    (
      (0 : Int) ≤ (IntKind.wrap .i64 (n3 + ((ByteArray.size sep : Nat) : Int))) ∧
      (IntKind.wrap .i64 (n3 + ((ByteArray.size sep : Nat) : Int))) ≤ (((ByteArray.size s) : Nat) : Int))
    ∧ Q (
      .tuple #[.string (ByteArray.extract s 0 (Int.toNat n3)), .string (
        ByteArray.extract s (Int.toNat (IntKind.wrap .i64 (n3 + ((ByteArray.size sep : Nat) : Int)))) (ByteArray.size s))
      , .bool true])
    w4)
  ∧ (
    (decide ((n3 : Int) ≥ 0)) = false → Q (.tuple #[.string s, .string (ByteArray.mk #[]), .bool false]) w1)
def A.internal_stringslite_Cut : AT := (.seq (.reg []) (.seq (.seq (.reg []) (.seq (.reg []) (.cond (.seq (.drw 10 false ⟨[0, 0, 3, 0, 0, 0, 32, 80, 136, 7, 1023, 2047], [0, 0, 3, 0, 0, 0, 32, 80, 136, 4, 256, 0]⟩ [8192, 16384, 32768, 65536, 131072, 262144, 524288, 1048576, 2097152, 16, 32, 64] [1, 128, 24576, 1, 128, 2, 262144, 655360, 1114112, 32768, 2097152, 0] (.take 0 (.take 1 (.take 2 (.take 3 (.take 4 (.take 5 (.take 6 (.take 7 (.take 8 (.take 9 (.tail [.run, .run])))))))))))) .leaf) .leaf))) (.seq (.reg []) .leaf)))
theorem W.internal_stringslite_Cut_eq (s : ByteArray) (sep : ByteArray) (w : World) (Q : Value → World → Prop) : W.internal_stringslite_Cut s sep w Q = DF Tryz.prog tk A.internal_stringslite_Cut Tryz.f29 [.string s, .string sep] w Q := by kernel_rfl
theorem W.internal_stringslite_Cut_ok (s : ByteArray) (sep : ByteArray) (w : World) (Q : Value → World → Prop) (h : W.internal_stringslite_Cut s sep w Q) : Calls Tryz.prog F.internal_stringslite_Cut #[.string s, .string sep] w fun e w1 => ∃ v, e = .returned v ∧ Q v w1 :=
  calls_of_DF hmix Tryz.func29 (by kernel_rfl) (Eq.mp (W.internal_stringslite_Cut_eq s sep w Q) h)

/-- strconv.ParseUint -/
def W.strconv_ParseUint (s : ByteArray) (base : Int) (bitSize : Int) (w : World) (Q : Value → World → Prop) : Prop :=
  Calls Tryz.prog F.internal_strconv_ParseUint #[.string s, .int .i64 base, .int .i64 bitSize] w fun e2 w1 =>
  ∃ n3 : Int, ∃ v4 : Value, e2 = .returned (.tuple #[.int .u64 n3, v4]) ∧ ∃ b5 : Bool, ifaceNil v4 = some b5 ∧
  (
    (!b5) = true → Calls Tryz.prog F.strconv_toError #[.string (ByteArray.mk #[80, 97, 114, 115, 101, 85, 105, 110, 116]), .string s, .int .i64 base, .int .i64 bitSize, v4] w1 fun e7 w6 =>
    ∃ v8 : Value, e7 = .returned (v8) ∧ Q (.tuple #[.int .u64 n3, v8]) w6)
  ∧ ((!b5) = false → Q (.tuple #[.int .u64 n3, .nilIface]) w1)
def A.strconv_ParseUint : AT := (.seq (.reg []) (.seq (.reg []) (.seq (.seq (.reg []) (.cond (.seq (.reg []) .leaf) .leaf)) (.seq (.reg []) .leaf))))
theorem W.strconv_ParseUint_eq (s : ByteArray) (base : Int) (bitSize : Int) (w : World) (Q : Value → World → Prop) : W.strconv_ParseUint s base bitSize w Q = DF Tryz.prog tk A.strconv_ParseUint Tryz.f30 [.string s, .int .i64 base, .int .i64 bitSize] w Q := by kernel_rfl
theorem W.strconv_ParseUint_ok (s : ByteArray) (base : Int) (bitSize : Int) (w : World) (Q : Value → World → Prop) (h : W.strconv_ParseUint s base bitSize w Q) : Calls Tryz.prog F.strconv_ParseUint #[.string s, .int .i64 base, .int .i64 bitSize] w fun e w1 => ∃ v, e = .returned v ∧ Q v w1 :=
  calls_of_DF hmix Tryz.func30 (by kernel_rfl) (Eq.mp (W.strconv_ParseUint_eq s base bitSize w Q) h)

/-- slices.IndexFunc[[]stanchion/api.Rule,stanchion/api.Rule] -/
def W.slices_IndexFunc_Sl_api_Rule_api_Rule (s : Sl) (f : Fv) (w : World) (Q : Value → World → Prop) : Prop :=
  ∃ (I1 : Int → World → Prop) (μ2 : Int → World → Nat), I1 0 w ∧ ∀ (n3 : Int) (w4 : World), I1 n3 w4 →
  (
    (decide ((n3 : Int) < ((s.len : Nat) : Int))) = true → ∃ a5 : Addr, s.a = some a5 ∧
    ((0 : Int) ≤ n3 ∧ n3 < ((s.len : Nat) : Int)) ∧ ∃ l6 : List Value, rdCells w4 (a5.add (Int.toNat n3 * 40)) 0 40 = some l6 ∧
    Callable Tryz.prog f.f ∧ Calls Tryz.prog f.f (f.pre ++ #[.agg l6.toArray] ++ f.cap) w4 fun e8 w7 =>
    ∃ b9 : Bool, e8 = .returned (.bool b9) ∧ (b9 = true → Q (.int .i64 n3) w7) ∧
    (b9 = false → I1 (IntKind.wrap .i64 (n3 + 1)) w7 ∧ μ2 (IntKind.wrap .i64 (n3 + 1)) w7 < μ2 n3 w4))
  ∧ ((decide ((n3 : Int) < ((s.len : Nat) : Int))) = false → Q (.int .i64 (-1)) w4)
def A.slices_IndexFunc_Sl_api_Rule_api_Rule : AT := (.seq (.reg []) (.seq (.seq (.reg []) (.blk (.loop [(8, (.int .i64))] [0, 1, 7] (.seq (.reg []) (.seq (.cond .leaf .leaf) (.seq (.blk (.seq (.reg []) (.seq (.reg []) (.cond (.seq (.reg []) .leaf) .leaf)))) (.reg []))))))) (.seq (.reg []) .leaf)))
theorem W.slices_IndexFunc_Sl_api_Rule_api_Rule_eq (s : Sl) (f : Fv) (w : World) (Q : Value → World → Prop) : W.slices_IndexFunc_Sl_api_Rule_api_Rule s f w Q = DF Tryz.prog tk A.slices_IndexFunc_Sl_api_Rule_api_Rule Tryz.f34 [.slice s.a s.len s.cap, .func (.func f.f) f.pre f.cap] w Q := by kernel_rfl
theorem W.slices_IndexFunc_Sl_api_Rule_api_Rule_ok (s : Sl) (f : Fv) (w : World) (Q : Value → World → Prop) (h : W.slices_IndexFunc_Sl_api_Rule_api_Rule s f w Q) : Calls Tryz.prog F.slices_IndexFunc_Sl_api_Rule_api_Rule #[.slice s.a s.len s.cap, .func (.func f.f) f.pre f.cap] w fun e w1 => ∃ v, e = .returned v ∧ Q v w1 :=
  calls_of_DF hmix Tryz.func34 (by kernel_rfl) (Eq.mp (W.slices_IndexFunc_Sl_api_Rule_api_Rule_eq s f w Q) h)

/-- internal/strconv.Itoa -/
def W.internal_strconv_Itoa (i : Int) (w : World) (Q : Value → World → Prop) : Prop :=
  Calls Tryz.prog F.internal_strconv_FormatInt #[.int .i64 i, .int .i64 10] w fun e2 w1 =>
  ∃ s3 : ByteArray, e2 = .returned (.string s3) ∧ Q (.string s3) w1
def A.internal_strconv_Itoa : AT := (.seq (.reg []) (.seq (.reg []) .leaf))
theorem W.internal_strconv_Itoa_eq (i : Int) (w : World) (Q : Value → World → Prop) : W.internal_strconv_Itoa i w Q = DF Tryz.prog tk A.internal_strconv_Itoa Tryz.f38 [.int .i64 i] w Q := by kernel_rfl
theorem W.internal_strconv_Itoa_ok (i : Int) (w : World) (Q : Value → World → Prop) (h : W.internal_strconv_Itoa i w Q) : Calls Tryz.prog F.internal_strconv_Itoa #[.int .i64 i] w fun e w1 => ∃ v, e = .returned v ∧ Q v w1 :=
  calls_of_DF hmix Tryz.func38 (by kernel_rfl) (Eq.mp (W.internal_strconv_Itoa_eq i w Q) h)

/-- (*strings.Builder).Grow -/
def W.strings_Builder_Grow (b : Option Addr) (n : Int) (w : World) (Q : Value → World → Prop) : Prop :=
  Calls Tryz.prog F.strings_Builder_copyCheck #[.pointer b] w fun e2 w1 => e2 = .returned (.tuple #[]) ∧
  Jn (
    fun k3 : World → Prop => ((decide ((n : Int) < 0)) = true → False) ∧ ((decide ((n : Int) < 0)) = false → k3 w1))
  (
    fun  (w4 : World) => Nx (w4.drew) fun w5 => ∃ a6 : Addr, b = some a6 ∧ ¬ False ∧
    ∃ s7 : Sl, w5.cell? (a6.add 1) = some (.slice s7.a s7.len s7.cap) ∧ ∃ a8 : Addr, b = some a8 ∧
    ¬ False ∧ ∃ s9 : Sl, w5.cell? (a8.add 1) = some (.slice s9.a s9.len s9.cap) ∧
    (
      (decide (((IntKind.wrap .i64 (((s7.cap : Nat) : Int) - ((s9.len : Nat) : Int))) : Int) < n)) = true →
      Calls Tryz.prog F.strings_Builder_grow #[.pointer b, .int .i64 n] w5 fun e11 w10 =>
      e11 = .returned (.tuple #[]) ∧ Q (.tuple #[]) w10)
    ∧ (
      (decide (((IntKind.wrap .i64 (((s7.cap : Nat) : Int) - ((s9.len : Nat) : Int))) : Int) < n)) = false →
      Q (.tuple #[]) w5)
    )
def A.strings_Builder_Grow : AT := (.seq (.reg []) (.seq (.jk [] [0, 1] (.seq (.reg []) (.cond (.reg []) .leaf))) (.seq (.drw 12 false ⟨[0, 1, 2, 4, 8, 0, 32, 64, 128, 256, 528, 0, 3072], [0, 1, 2, 4, 8, 0, 32, 64, 128, 256, 528, 0, 3072]⟩ [512, 1024, 2048, 4096, 8192, 16384, 32768, 65536, 131072, 262144, 524288, 1048576, 2097152] [1, 512, 1024, 2048, 4096, 1, 16384, 32768, 65536, 131072, 270336, 2, 1572864] (.take 0 (.take 1 (.take 2 (.take 3 (.take 4 (.take 5 (.take 6 (.take 7 (.take 8 (.take 9 (.take 10 (.take 11 (.tail [.run])))))))))))))) (.cond (.reg []) .leaf))))
theorem W.strings_Builder_Grow_eq (b : Option Addr) (n : Int) (w : World) (Q : Value → World → Prop) : W.strings_Builder_Grow b n w Q = DF Tryz.prog tk A.strings_Builder_Grow Tryz.f39 [.pointer b, .int .i64 n] w Q := by kernel_rfl
theorem W.strings_Builder_Grow_ok (b : Option Addr) (n : Int) (w : World) (Q : Value → World → Prop) (h : W.strings_Builder_Grow b n w Q) : Calls Tryz.prog F.strings_Builder_Grow #[.pointer b, .int .i64 n] w fun e w1 => ∃ v, e = .returned v ∧ Q v w1 :=
  calls_of_DF hmix Tryz.func39 (by kernel_rfl) (Eq.mp (W.strings_Builder_Grow_eq b n w Q) h)

/-- (*strings.Builder).WriteString -/
def W.strings_Builder_WriteString (b : Option Addr) (s : ByteArray) (w : World) (Q : Value → World → Prop) : Prop :=
  Calls Tryz.prog F.strings_Builder_copyCheck #[.pointer b] w fun e2 w1 => e2 = .returned (.tuple #[]) ∧
  ∃ a3 : Addr, b = some a3 ∧ ∃ s4 : Sl, w1.cell? (a3.add 1) = some (.slice s4.a s4.len s4.cap) ∧
  ∃ s5 : Sl, ∃ w6 : World, Sem.run Tryz.prog (Builtin.append_ #[Ty.Sl_uint8, Ty.string] Ty.Sl_uint8 #[.slice s4.a s4.len s4.cap, .string s]) w1 = .ok (.slice s5.a s5.len s5.cap) w6 ∧
  ∃ a7 : Addr, b = some a7 ∧ (∃ u : Value, w6.cell? (a7.add 1) = some u) ∧ w6.frozen? (a7.add 1) = false ∧
  Nx (w6.setCell (a7.add 1) (.slice s5.a s5.len s5.cap)) fun w8 => Q (.tuple #[.int .i64 ((ByteArray.size s : Nat) : Int), .nilIface]) w8
def A.strings_Builder_WriteString : AT := (.seq (.reg []) (.seq (.reg []) (.seq (.reg []) (.seq (.reg []) .leaf))))
theorem W.strings_Builder_WriteString_eq (b : Option Addr) (s : ByteArray) (w : World) (Q : Value → World → Prop) : W.strings_Builder_WriteString b s w Q = DF Tryz.prog tk A.strings_Builder_WriteString Tryz.f40 [.pointer b, .string s] w Q := by kernel_rfl
theorem W.strings_Builder_WriteString_ok (b : Option Addr) (s : ByteArray) (w : World) (Q : Value → World → Prop) (h : W.strings_Builder_WriteString b s w Q) : Calls Tryz.prog F.strings_Builder_WriteString #[.pointer b, .string s] w fun e w1 => ∃ v, e = .returned v ∧ Q v w1 :=
  calls_of_DF hmix Tryz.func40 (by kernel_rfl) (Eq.mp (W.strings_Builder_WriteString_eq b s w Q) h)

/-- (*strings.Builder).String -/
def W.strings_Builder_String (b : Option Addr) (w : World) (Q : Value → World → Prop) : Prop :=
  Nx (w.drew) fun w1 => ∃ W2 : Nat → Prop, ∃ a3 : Addr, b = some a3 ∧ ¬ W2 (a3.add 1).block ∧
  ∃ s4 : Sl, w1.cell? (a3.add 1) = some (.slice s4.a s4.len s4.cap) ∧ ∃ a5 : Addr, b = some a5 ∧
  ¬ W2 (a5.add 1).block ∧ ∃ s6 : Sl, w1.cell? (a5.add 1) = some (.slice s6.a s6.len s6.cap) ∧
  ∃ p7 : Option Addr, ∃ w8 : World, Sem.run Tryz.prog (Builtin.unsafeSliceData_ #[Ty.Sl_uint8] Ty.P_uint8 #[.slice s4.a s4.len s4.cap]) w1 = .ok (.pointer p7) w8 ∧
  Chg W2 w1 w8 ∧ ∃ s9 : ByteArray, ∃ w10 : World, Sem.run Tryz.prog (
    Builtin.unsafeString_ #[Ty.P_uint8, Ty.int] Ty.string #[.pointer p7, .int .i64 ((s6.len : Nat) : Int)])
  w8 = .ok (.string s9) w10 ∧ Q (.string s9) w10
def A.strings_Builder_String : AT := (.seq (.reg []) (.seq (.drw 10 true ⟨[0, 1, 2, 4, 8, 0, 32, 64, 128, 256, 528, 2047], [0, 1, 2, 4, 8, 0, 32, 64, 128, 256, 528, 1024]⟩ [8, 16, 32, 64, 128, 256, 512, 1024, 2048, 4096, 8192, 4] [1, 8, 16, 32, 64, 1, 256, 512, 1024, 2048, 4224, 8192] (.take 0 (.take 1 (.take 2 (.take 3 (.take 5 (.take 6 (.take 7 (.take 8 (.take 9 (.eff 4 (.tail [.run, .run])))))))))))) .leaf))
theorem W.strings_Builder_String_eq (b : Option Addr) (w : World) (Q : Value → World → Prop) : W.strings_Builder_String b w Q = DF Tryz.prog tk A.strings_Builder_String Tryz.f41 [.pointer b] w Q := by kernel_rfl
theorem W.strings_Builder_String_ok (b : Option Addr) (w : World) (Q : Value → World → Prop) (h : W.strings_Builder_String b w Q) : Calls Tryz.prog F.strings_Builder_String #[.pointer b] w fun e w1 => ∃ v, e = .returned v ∧ Q v w1 :=
  calls_of_DF hmix Tryz.func41 (by kernel_rfl) (Eq.mp (W.strings_Builder_String_eq b w Q) h)

/-- strings.explode -/
def W.strings_explode (s : ByteArray) (n : Int) (w : World) (Q : Value → World → Prop) : Prop :=
  Calls Tryz.prog F.unicode_utf8_RuneCountInString #[.string s] w fun e2 w1 =>
  ∃ n3 : Int, e2 = .returned (.int .i64 n3) ∧ Jn (
    fun k4 : Int → World → Prop => (((decide ((n : Int) < 0)) || (decide ((n : Int) > n3))) = true → k4 n3 w1) ∧
    (((decide ((n : Int) < 0)) || (decide ((n : Int) > n3))) = false → k4 n w1))
  (
    fun (n5 : Int) (w6 : World) => ((0 : Int) ≤ n5 ∧ n5 ≤ n5 ∧ n5 ≤ 9223372036854775807 ∧ ((16 : Nat) : Int) * n5 ≤ 140737488355328) ∧
    Nx (w6.alloc (.cells (zrow Tryz.prog Ty.string (Int.toNat n5)) Ty.string)) fun w7 =>
    ∃ (I8 : ByteArray → Int → World → Prop) (μ9 : ByteArray → Int → World → Nat), I8 s 0 w7 ∧
    ∀ (s10 : ByteArray) (n11 : Int) (w12 : World), I8 s10 n11 w12 → (
      (decide ((n11 : Int) < (IntKind.wrap .i64 (n5 - 1)))) = true → Calls Tryz.prog F.unicode_utf8_DecodeRuneInString #[.string s10] w12 fun e14 w13 =>
      ∃ n15 : Int, ∃ n16 : Int, e14 = .returned (.tuple #[.int .i32 n15, .int .i64 n16]) ∧
      ((0 : Int) ≤ n16 ∧ n16 ≤ (((ByteArray.size s10) : Nat) : Int)) ∧ ∃ a17 : Addr, (some ⟨w6.heap.size, 0, none⟩) = some a17 ∧
      ((0 : Int) ≤ n11 ∧ n11 < (((Int.toNat n5) : Nat) : Int)) ∧ (∃ u : Value, w13.cell? (a17.add (Int.toNat n11 * 1)) = some u) ∧
      w13.frozen? (a17.add (Int.toNat n11 * 1)) = false ∧ Nx (w13.setCell (a17.add (Int.toNat n11 * 1)) (.string (ByteArray.extract s10 0 (Int.toNat n16)))) fun w18 =>
      ((0 : Int) ≤ n16 ∧ n16 ≤ (((ByteArray.size s10) : Nat) : Int)) ∧ I8 (ByteArray.extract s10 (Int.toNat n16) (ByteArray.size s10)) (IntKind.wrap .i64 (n11 + 1)) w18 ∧
      μ9 (ByteArray.extract s10 (Int.toNat n16) (ByteArray.size s10)) (IntKind.wrap .i64 (n11 + 1)) w18 < μ9 s10 n11 w12)
    ∧ (
      (decide ((n11 : Int) < (IntKind.wrap .i64 (n5 - 1)))) = false → Jn (
        fun k19 : World → Prop => (
          (decide ((n5 : Int) > 0)) = true → ∃ a20 : Addr, (some ⟨w6.heap.size, 0, none⟩) = some a20 ∧
          (
            (0 : Int) ≤ (IntKind.wrap .i64 (n5 - 1)) ∧ (IntKind.wrap .i64 (n5 - 1)) < (((Int.toNat n5) : Nat) : Int))
          ∧ (∃ u : Value, w12.cell? (a20.add (Int.toNat (IntKind.wrap .i64 (n5 - 1)) * 1)) = some u) ∧
          w12.frozen? (a20.add (Int.toNat (IntKind.wrap .i64 (n5 - 1)) * 1)) = false ∧
          Nx (w12.setCell (a20.add (Int.toNat (IntKind.wrap .i64 (n5 - 1)) * 1)) (.string s10)) fun w21 =>
          k19 w21)
        ∧ ((decide ((n5 : Int) > 0)) = false → k19 w12))
      (fun  (w22 : World) => Q (.slice (some ⟨w6.heap.size, 0, none⟩) (Int.toNat n5) (Int.toNat n5)) w22))
    )
def A.strings_explode : AT := (.seq (.reg []) (.seq (.reg []) (.seq (.jk [(1, (.int .i64))] [0] (.seq (.reg [.run, .run, .run, .pure 3]) (.cond (.reg []) .leaf))) (.seq (.reg []) (.seq (.seq (.reg []) (.blk (.loop [(0, .str), (7, (.int .i64))] [1, 6] (.seq (.seq (.reg []) (.cond .leaf .leaf)) (.seq (.blk (.seq (.reg []) (.seq (.reg []) (.reg [])))) (.reg [])))))) (.seq (.jk [] [6] (.seq (.reg []) (.cond (.reg []) .leaf))) (.seq (.reg []) .leaf)))))))
theorem W.strings_explode_eq (s : ByteArray) (n : Int) (w : World) (Q : Value → World → Prop) : W.strings_explode s n w Q = DF Tryz.prog tk A.strings_explode Tryz.f42 [.string s, .int .i64 n] w Q := by kernel_rfl
theorem W.strings_explode_ok (s : ByteArray) (n : Int) (w : World) (Q : Value → World → Prop) (h : W.strings_explode s n w Q) : Calls Tryz.prog F.strings_explode #[.string s, .int .i64 n] w fun e w1 => ∃ v, e = .returned v ∧ Q v w1 :=
  calls_of_DF hmix Tryz.func42 (by kernel_rfl) (Eq.mp (W.strings_explode_eq s n w Q) h)

/-- strings.Count -/
def W.strings_Count (s : ByteArray) (substr : ByteArray) (w : World) (Q : Value → World → Prop) : Prop :=
  (
    ((((ByteArray.size substr : Nat) : Int) : Int) == 0) = true → Calls Tryz.prog F.unicode_utf8_RuneCountInString #[.string s] w fun e2 w1 =>
    ∃ n3 : Int, e2 = .returned (.int .i64 n3) ∧ Q (.int .i64 (IntKind.wrap .i64 (n3 + 1))) w1)
  ∧ (
    ((((ByteArray.size substr : Nat) : Int) : Int) == 0) = false → (
      ((((ByteArray.size substr : Nat) : Int) : Int) == 1) = true → (0 : Int) ≤ 0 ∧
      ∃ b4 : UInt8, byteAt substr (Int.toNat 0) = some b4 ∧ ∃ n5 : Int, ∃ w6 : World, Sem.run Tryz.prog (callFunc F.internal_bytealg_CountString #[.string s, .int .u8 ((b4.toNat : Nat) : Int)]) w = .ok (.value (.int .i64 n5)) w6 ∧
      Q (.int .i64 n5) w6)
    ∧ (
      ((((ByteArray.size substr : Nat) : Int) : Int) == 1) = false → ∃ (I7 : ByteArray → Int → World → Prop) (μ8 : ByteArray → Int → World → Nat), I7 s 0 w ∧
      ∀ (s9 : ByteArray) (n10 : Int) (w11 : World), I7 s9 n10 w11 → Calls Tryz.prog F.strings_Index #[.string s9, .string substr] w11 fun e13 w12 =>
      ∃ n14 : Int, e13 = .returned (.int .i64 n14) ∧ (((n14 : Int) == (-1)) = true → Q (.int .i64 n10) w12) ∧
      (
        ((n14 : Int) == (-1)) = false → (
          (0 : Int) ≤ (IntKind.wrap .i64 (n14 + ((ByteArray.size substr : Nat) : Int))) ∧
          (IntKind.wrap .i64 (n14 + ((ByteArray.size substr : Nat) : Int))) ≤ (((ByteArray.size s9) : Nat) : Int))
        ∧ I7 (
          ByteArray.extract s9 (Int.toNat (IntKind.wrap .i64 (n14 + ((ByteArray.size substr : Nat) : Int)))) (ByteArray.size s9))
        (IntKind.wrap .i64 (n10 + 1)) w12 ∧ μ8 (
          ByteArray.extract s9 (Int.toNat (IntKind.wrap .i64 (n14 + ((ByteArray.size substr : Nat) : Int)))) (ByteArray.size s9))
        (IntKind.wrap .i64 (n10 + 1)) w12 < μ8 s9 n10 w11)
      )
    )
def A.strings_Count : AT := (.seq (.reg []) (.seq (.seq (.reg []) (.cond (.seq (.reg []) .leaf) .leaf)) (.seq (.seq (.reg []) (.cond (.seq (.reg []) .leaf) .leaf)) (.seq (.reg []) (.blk (.loop [(0, .str), (5, (.int .i64))] [1] (.blk (.seq (.reg []) (.seq (.seq (.reg []) (.cond (.seq (.reg []) .leaf) .leaf)) (.seq (.reg []) (.reg [])))))))))))
theorem W.strings_Count_eq (s : ByteArray) (substr : ByteArray) (w : World) (Q : Value → World → Prop) : W.strings_Count s substr w Q = DF Tryz.prog tk A.strings_Count Tryz.f43 [.string s, .string substr] w Q := by kernel_rfl
theorem W.strings_Count_ok (s : ByteArray) (substr : ByteArray) (w : World) (Q : Value → World → Prop) (h : W.strings_Count s substr w Q) : Calls Tryz.prog F.strings_Count #[.string s, .string substr] w fun e w1 => ∃ v, e = .returned v ∧ Q v w1 :=
  calls_of_DF hmix Tryz.func43 (by kernel_rfl) (Eq.mp (W.strings_Count_eq s substr w Q) h)

/-- strings.Index -/
def W.strings_Index (s : ByteArray) (substr : ByteArray) (w : World) (Q : Value → World → Prop) : Prop :=
  Calls Tryz.prog F.internal_stringslite_Index #[.string s, .string substr] w fun e2 w1 =>
  ∃ n3 : Int, e2 = .returned (.int .i64 n3) ∧ Q (.int .i64 n3) w1
def A.strings_Index : AT := (.seq (.reg []) (.seq (.reg []) .leaf))
theorem W.strings_Index_eq (s : ByteArray) (substr : ByteArray) (w : World) (Q : Value → World → Prop) : W.strings_Index s substr w Q = DF Tryz.prog tk A.strings_Index Tryz.f44 [.string s, .string substr] w Q := by kernel_rfl
theorem W.strings_Index_ok (s : ByteArray) (substr : ByteArray) (w : World) (Q : Value → World → Prop) (h : W.strings_Index s substr w Q) : Calls Tryz.prog F.strings_Index #[.string s, .string substr] w fun e w1 => ∃ v, e = .returned v ∧ Q v w1 :=
  calls_of_DF hmix Tryz.func44 (by kernel_rfl) (Eq.mp (W.strings_Index_eq s substr w Q) h)

/-- strings.Contains -/
def W.strings_Contains (s : ByteArray) (substr : ByteArray) (w : World) (Q : Value → World → Prop) : Prop :=
  Calls Tryz.prog F.strings_Index #[.string s, .string substr] w fun e2 w1 =>
  ∃ n3 : Int, e2 = .returned (.int .i64 n3) ∧ Q (.bool (decide ((n3 : Int) ≥ 0))) w1
def A.strings_Contains : AT := (.seq (.reg []) (.seq (.reg []) .leaf))
theorem W.strings_Contains_eq (s : ByteArray) (substr : ByteArray) (w : World) (Q : Value → World → Prop) : W.strings_Contains s substr w Q = DF Tryz.prog tk A.strings_Contains Tryz.f45 [.string s, .string substr] w Q := by kernel_rfl
theorem W.strings_Contains_ok (s : ByteArray) (substr : ByteArray) (w : World) (Q : Value → World → Prop) (h : W.strings_Contains s substr w Q) : Calls Tryz.prog F.strings_Contains #[.string s, .string substr] w fun e w1 => ∃ v, e = .returned v ∧ Q v w1 :=
  calls_of_DF hmix Tryz.func45 (by kernel_rfl) (Eq.mp (W.strings_Contains_eq s substr w Q) h)

/-- internal/strconv.Atoi -/
def W.internal_strconv_Atoi (s : ByteArray) (w : World) (Q : Value → World → Prop) : Prop :=
  (
    (
      (
        false && (
          (decide ((0 : Int) < ((ByteArray.size s : Nat) : Int))) && (decide ((((ByteArray.size s : Nat) : Int) : Int) < 10)))
        )
      || (
        true && (
          (decide ((0 : Int) < ((ByteArray.size s : Nat) : Int))) && (decide ((((ByteArray.size s : Nat) : Int) : Int) < 19)))
        )
      )
    = true → Jn (
      fun k1 : ByteArray → World → Prop => (0 : Int) ≤ 0 ∧ ∃ b2 : UInt8, byteAt s (Int.toNat 0) = some b2 ∧
      Jn (
        fun k3 : Bool → World → Prop => (((((b2.toNat : Nat) : Int) : Int) == 45) = true → k3 true w) ∧
        (
          ((((b2.toNat : Nat) : Int) : Int) == 45) = false → (0 : Int) ≤ 0 ∧ ∃ b4 : UInt8, byteAt s (Int.toNat 0) = some b4 ∧
          k3 ((((b4.toNat : Nat) : Int) : Int) == 43) w)
        )
      (
        fun (b5 : Bool) (w6 : World) => (
          b5 = true → ((0 : Int) ≤ 1 ∧ 1 ≤ (((ByteArray.size s) : Nat) : Int)) ∧ (
            (
              decide ((((ByteArray.size (ByteArray.extract s (Int.toNat 1) (ByteArray.size s)) : Nat) : Int) : Int) < 1))
            = true → Q (.tuple #[.int .i64 0, .iface Ty.strconv_Error (.int .i64 2)]) w6)
          ∧ (
            (
              decide ((((ByteArray.size (ByteArray.extract s (Int.toNat 1) (ByteArray.size s)) : Nat) : Int) : Int) < 1))
            = false → k1 (ByteArray.extract s (Int.toNat 1) (ByteArray.size s)) w6)
          )
        ∧ (b5 = false → k1 s w6))
      )
    (
      fun (s7 : ByteArray) (w8 : World) => ∃ s9 : Sl, ∃ w10 : World, Sem.run Tryz.prog (convert Ty.string Ty.Sl_uint8 (.string s7)) w8 = .ok (.slice s9.a s9.len s9.cap) w10 ∧
      ∃ (I11 : Int → Int → World → Prop) (μ12 : Int → Int → World → Nat), I11 0 0 w10 ∧
      ∀ (n13 : Int) (n14 : Int) (w15 : World), I11 n13 n14 w15 → (
        (decide ((n14 : Int) < ((s9.len : Nat) : Int))) = true → ∃ a16 : Addr, s9.a = some a16 ∧
        ((0 : Int) ≤ n14 ∧ n14 < ((s9.len : Nat) : Int)) ∧ ∃ n17 : Int, w15.cell? (a16.add (Int.toNat n14 * 1)) = some (.int .u8 n17) ∧
        (
          (decide (((IntKind.wrap .u8 (n17 - 48)) : Int) > 9)) = true → Q (.tuple #[.int .i64 0, .iface Ty.strconv_Error (.int .i64 2)]) w15)
        ∧ (
          (decide (((IntKind.wrap .u8 (n17 - 48)) : Int) > 9)) = false → I11 (
            IntKind.wrap .i64 ((IntKind.wrap .i64 (n13 * 10)) + (IntKind.wrap .i64 (IntKind.wrap .u8 (n17 - 48)))))
          (IntKind.wrap .i64 (n14 + 1)) w15 ∧ μ12 (
            IntKind.wrap .i64 ((IntKind.wrap .i64 (n13 * 10)) + (IntKind.wrap .i64 (IntKind.wrap .u8 (n17 - 48)))))
          (IntKind.wrap .i64 (n14 + 1)) w15 < μ12 n13 n14 w15)
        )
      ∧ (
        (decide ((n14 : Int) < ((s9.len : Nat) : Int))) = false → Jn (
          fun k18 : Int → World → Prop => (0 : Int) ≤ 0 ∧ ∃ b19 : UInt8, byteAt s (Int.toNat 0) = some b19 ∧
          (((((b19.toNat : Nat) : Int) : Int) == 45) = true → k18 (IntKind.wrap .i64 (0 - n13)) w15) ∧
          (((((b19.toNat : Nat) : Int) : Int) == 45) = false → k18 n13 w15))
        (fun (n20 : Int) (w21 : World) => Q (.tuple #[.int .i64 n20, .nilIface]) w21))
      )
    )
  ∧ (
    (
      (
        false && (
          (decide ((0 : Int) < ((ByteArray.size s : Nat) : Int))) && (decide ((((ByteArray.size s : Nat) : Int) : Int) < 10)))
        )
      || (
        true && (
          (decide ((0 : Int) < ((ByteArray.size s : Nat) : Int))) && (decide ((((ByteArray.size s : Nat) : Int) : Int) < 19)))
        )
      )
    = false → Calls Tryz.prog F.internal_strconv_ParseInt #[.string s, .int .i64 10, .int .i64 0] w fun e23 w22 =>
    ∃ n24 : Int, ∃ v25 : Value, e23 = .returned (.tuple #[.int .i64 n24, v25]) ∧
    Q (.tuple #[.int .i64 n24, v25]) w22)
def A.internal_strconv_Atoi : AT := (.seq (.reg []) (.seq (.reg []) (.seq (.seq (.reg [.run, .pure 6, .run, .run, .pure 2, .run, .run, .run, .run, .pure 8, .pure 6, .run, .run, .pure 2]) (.cond (.seq (.reg []) (.seq (.jk [(0, .str)] [5] (.seq (.reg [.run, .run, .run, .run, .split 3]) (.cond (.seq (.reg []) (.seq (.reg []) (.cond (.seq (.reg []) .leaf) .leaf))) .leaf))) (.seq (.reg []) (.seq (.seq (.reg []) (.blk (.loop [(6, (.int .i64)), (49, (.int .i64))] [5, 47, 48] (.seq (.reg []) (.seq (.cond .leaf .leaf) (.seq (.blk (.seq (.reg []) (.seq (.reg []) (.seq (.seq (.reg []) (.cond (.seq (.reg []) .leaf) .leaf)) (.reg []))))) (.reg []))))))) (.seq (.jk [(6, (.int .i64))] [] (.seq (.reg []) (.cond (.reg []) .leaf))) (.seq (.reg []) .leaf)))))) .leaf)) (.seq (.reg []) (.seq (.reg []) .leaf)))))
theorem W.internal_strconv_Atoi_eq (s : ByteArray) (w : World) (Q : Value → World → Prop) : W.internal_strconv_Atoi s w Q = DF Tryz.prog tk A.internal_strconv_Atoi Tryz.f49 [.string s] w Q := by kernel_rfl
theorem W.internal_strconv_Atoi_ok (s : ByteArray) (w : World) (Q : Value → World → Prop) (h : W.internal_strconv_Atoi s w Q) : Calls Tryz.prog F.internal_strconv_Atoi #[.string s] w fun e w1 => ∃ v, e = .returned v ∧ Q v w1 :=
  calls_of_DF hmix Tryz.func49 (by kernel_rfl) (Eq.mp (W.internal_strconv_Atoi_eq s w Q) h)

/-- strconv.toError -/
def W.strconv_toError (fn : ByteArray) (s : ByteArray) (base : Int) (bitSize : Int) (err : Value) (w : World) (Q : Value → World → Prop) : Prop :=
  ∃ b1 : Bool, OpqEq Tryz.prog .eql Ty.error (.tmp 11) (.tmp 13) (err) (.iface Ty.strconv_Error (.int .i64 2)) b1 ∧
  (
    b1 = true → Calls Tryz.prog F.strconv_syntaxError #[.string fn, .string s] w fun e3 w2 =>
    ∃ p4 : Option Addr, e3 = .returned (.pointer p4) ∧ Q (.iface Ty.P_strconv_NumError (.pointer p4)) w2)
  ∧ (
    b1 = false → ∃ b5 : Bool, OpqEq Tryz.prog .eql Ty.error (.tmp 11) (.tmp 20) (err) (.iface Ty.strconv_Error (.int .i64 1)) b5 ∧
    (
      b5 = true → Calls Tryz.prog F.strconv_rangeError #[.string fn, .string s] w fun e7 w6 =>
      ∃ p8 : Option Addr, e7 = .returned (.pointer p8) ∧ Q (.iface Ty.P_strconv_NumError (.pointer p8)) w6)
    ∧ (
      b5 = false → ∃ b9 : Bool, OpqEq Tryz.prog .eql Ty.error (.tmp 11) (.tmp 27) (err) (.iface Ty.strconv_Error (.int .i64 3)) b9 ∧
      (
        b9 = true → Calls Tryz.prog F.strconv_baseError #[.string fn, .string s, .int .i64 base] w fun e11 w10 =>
        ∃ p12 : Option Addr, e11 = .returned (.pointer p12) ∧ Q (.iface Ty.P_strconv_NumError (.pointer p12)) w10)
      ∧ (
        b9 = false → ∃ b13 : Bool, OpqEq Tryz.prog .eql Ty.error (.tmp 11) (.tmp 35) (err) (.iface Ty.strconv_Error (.int .i64 4)) b13 ∧
        (
          b13 = true → Calls Tryz.prog F.strconv_bitSizeError #[.string fn, .string s, .int .i64 bitSize] w fun e15 w14 =>
          ∃ p16 : Option Addr, e15 = .returned (.pointer p16) ∧ Q (.iface Ty.P_strconv_NumError (.pointer p16)) w14)
        ∧ (b13 = false → Q (err) w))
      )
    )
def A.strconv_toError : AT := (.seq (.reg []) (.seq (.seq (.reg []) (.blk (.seq (.reg []) (.cond (.seq (.reg []) .leaf) (.seq (.reg []) (.cond (.seq (.reg []) .leaf) (.seq (.reg []) (.cond (.seq (.reg []) .leaf) (.seq (.reg []) (.cond (.seq (.reg []) .leaf) .leaf)))))))))) (.seq (.reg []) .leaf)))
theorem W.strconv_toError_eq (fn : ByteArray) (s : ByteArray) (base : Int) (bitSize : Int) (err : Value) (w : World) (Q : Value → World → Prop) : W.strconv_toError fn s base bitSize err w Q = DF Tryz.prog tk A.strconv_toError Tryz.f50 [.string fn, .string s, .int .i64 base, .int .i64 bitSize, err] w Q := by kernel_rfl
theorem W.strconv_toError_ok (fn : ByteArray) (s : ByteArray) (base : Int) (bitSize : Int) (err : Value) (w : World) (Q : Value → World → Prop) (h : W.strconv_toError fn s base bitSize err w Q) : Calls Tryz.prog F.strconv_toError #[.string fn, .string s, .int .i64 base, .int .i64 bitSize, err] w fun e w1 => ∃ v, e = .returned v ∧ Q v w1 :=
  calls_of_DF hmix Tryz.func50 (by kernel_rfl) (Eq.mp (W.strconv_toError_eq fn s base bitSize err w Q) h)

/-- internal/stringslite.Index -/
def W.internal_stringslite_Index (s : ByteArray) (substr : ByteArray) (w : World) (Q : Value → World → Prop) : Prop :=
  (
    (
      ((((ByteArray.size substr : Nat) : Int) : Int) == 0) || (ByteArray.toList substr == ByteArray.toList s))
    = true → Q (.int .i64 0) w)
  ∧ (
    (
      ((((ByteArray.size substr : Nat) : Int) : Int) == 0) || (ByteArray.toList substr == ByteArray.toList s))
    = false → (
      ((((ByteArray.size substr : Nat) : Int) : Int) == 1) = true → (0 : Int) ≤ 0 ∧
      ∃ b1 : UInt8, byteAt substr (Int.toNat 0) = some b1 ∧ Calls Tryz.prog F.internal_stringslite_IndexByte #[.string s, .int .u8 ((b1.toNat : Nat) : Int)] w fun e3 w2 =>
      ∃ n4 : Int, e3 = .returned (.int .i64 n4) ∧ Q (.int .i64 n4) w2)
    ∧ (
      ((((ByteArray.size substr : Nat) : Int) : Int) == 1) = false → (
        (decide ((((ByteArray.size substr : Nat) : Int) : Int) ≥ ((ByteArray.size s : Nat) : Int))) = true →
        Q (.int .i64 (-1)) w)
      ∧ (
        (decide ((((ByteArray.size substr : Nat) : Int) : Int) ≥ ((ByteArray.size s : Nat) : Int))) = false →
        ∃ n5 : Int, w.cell? ⟨0, 0, none⟩ = some (.int .i64 n5) ∧ (
          (
            (decide ((((ByteArray.size substr : Nat) : Int) : Int) ≤ n5)) && (decide ((((ByteArray.size s : Nat) : Int) : Int) ≤ 64)))
          = true → ∃ n6 : Int, ∃ w7 : World, Sem.run Tryz.prog (callFunc F.internal_bytealg_IndexString #[.string s, .string substr]) w = .ok (.value (.int .i64 n6)) w7 ∧
          Q (.int .i64 n6) w7)
        ∧ (
          (
            (decide ((((ByteArray.size substr : Nat) : Int) : Int) ≤ n5)) && (decide ((((ByteArray.size s : Nat) : Int) : Int) ≤ 64)))
          = false → (0 : Int) ≤ 0 ∧ ∃ b8 : UInt8, byteAt substr (Int.toNat 0) = some b8 ∧
          (0 : Int) ≤ 1 ∧ ∃ b9 : UInt8, byteAt substr (Int.toNat 1) = some b9 ∧ ∃ (I10 : Int → Int → World → Prop) (μ11 : Int → Int → World → Nat), I10 0 0 w ∧
          ∀ (n12 : Int) (n13 : Int) (w14 : World), I10 n12 n13 w14 → (
            (
              decide (
                (n12 : Int) < (
                  IntKind.wrap .i64 ((IntKind.wrap .i64 (((ByteArray.size s : Nat) : Int) - ((ByteArray.size substr : Nat) : Int))) + 1))
                )
              )
            = true → Jn (
              fun k15 : Int → World → Prop => (0 : Int) ≤ n12 ∧ ∃ b16 : UInt8, byteAt s (Int.toNat n12) = some b16 ∧
              (
                ((((b16.toNat : Nat) : Int) : Int) != ((b8.toNat : Nat) : Int)) = true → (
                  (0 : Int) ≤ (
                    IntKind.wrap .i64 ((IntKind.wrap .i64 (((ByteArray.size s : Nat) : Int) - ((ByteArray.size substr : Nat) : Int))) + 1))
                  ∧ (
                    IntKind.wrap .i64 ((IntKind.wrap .i64 (((ByteArray.size s : Nat) : Int) - ((ByteArray.size substr : Nat) : Int))) + 1))
                  ≤ (((ByteArray.size s) : Nat) : Int))
                ∧ (
                  (0 : Int) ≤ (IntKind.wrap .i64 (n12 + 1)) ∧ (IntKind.wrap .i64 (n12 + 1)) ≤ (
                    (
                      (
                        Int.toNat (
                          IntKind.wrap .i64 ((IntKind.wrap .i64 (((ByteArray.size s : Nat) : Int) - ((ByteArray.size substr : Nat) : Int))) + 1))
                        )
                      : Nat)
                    : Int)
                  )
                ∧ Calls Tryz.prog F.internal_stringslite_IndexByte #[.string (
                  ByteArray.extract s (Int.toNat (IntKind.wrap .i64 (n12 + 1))) (
                    Int.toNat (
                      IntKind.wrap .i64 ((IntKind.wrap .i64 (((ByteArray.size s : Nat) : Int) - ((ByteArray.size substr : Nat) : Int))) + 1))
                    )
                  )
                , .int .u8 ((b8.toNat : Nat) : Int)] w14 fun e18 w17 => ∃ n19 : Int, e18 = .returned (.int .i64 n19) ∧
                ((decide ((n19 : Int) < 0)) = true → Q (.int .i64 (-1)) w17) ∧ (
                  (decide ((n19 : Int) < 0)) = false → k15 (IntKind.wrap .i64 (n12 + (IntKind.wrap .i64 (n19 + 1)))) w17)
                )
              ∧ (((((b16.toNat : Nat) : Int) : Int) != ((b8.toNat : Nat) : Int)) = false → k15 n12 w14))
            (
              fun (n20 : Int) (w21 : World) => (0 : Int) ≤ (IntKind.wrap .i64 (n20 + 1)) ∧
              ∃ b22 : UInt8, byteAt s (Int.toNat (IntKind.wrap .i64 (n20 + 1))) = some b22 ∧
              Jn (
                fun k23 : Bool → World → Prop => (
                  ((((b22.toNat : Nat) : Int) : Int) == ((b9.toNat : Nat) : Int)) = true → (
                    (0 : Int) ≤ (IntKind.wrap .i64 (n20 + ((ByteArray.size substr : Nat) : Int))) ∧
                    (IntKind.wrap .i64 (n20 + ((ByteArray.size substr : Nat) : Int))) ≤ (((ByteArray.size s) : Nat) : Int))
                  ∧ (
                    (0 : Int) ≤ n20 ∧ n20 ≤ (((Int.toNat (IntKind.wrap .i64 (n20 + ((ByteArray.size substr : Nat) : Int)))) : Nat) : Int))
                  ∧ k23 (
                    ByteArray.toList (
                      ByteArray.extract s (Int.toNat n20) (Int.toNat (IntKind.wrap .i64 (n20 + ((ByteArray.size substr : Nat) : Int)))))
                    == ByteArray.toList substr)
                  w21)
                ∧ (((((b22.toNat : Nat) : Int) : Int) == ((b9.toNat : Nat) : Int)) = false → k23 false w21))
              (
                fun (b24 : Bool) (w25 : World) => (b24 = true → Q (.int .i64 n20) w25) ∧ (
                  b24 = false → ∃ n26 : Int, w25.cell? ⟨0, 0, none⟩ = some (.int .i64 n26) ∧
                  Jn (
                    fun k27 : Bool → World → Prop => (
                      (decide ((((ByteArray.size substr : Nat) : Int) : Int) ≤ n26)) = true → Calls Tryz.prog F.internal_bytealg_Cutover #[.int .i64 (IntKind.wrap .i64 (n20 + 1))] w25 fun e29 w28 =>
                      ∃ n30 : Int, e29 = .returned (.int .i64 n30) ∧ k27 (decide (((IntKind.wrap .i64 (n13 + 1)) : Int) > n30)) w28)
                    ∧ ((decide ((((ByteArray.size substr : Nat) : Int) : Int) ≤ n26)) = false → k27 false w25))
                  (
                    fun (b31 : Bool) (w32 : World) => (
                      b31 = true → (
                        (0 : Int) ≤ (IntKind.wrap .i64 (n20 + 1)) ∧ (IntKind.wrap .i64 (n20 + 1)) ≤ (((ByteArray.size s) : Nat) : Int))
                      ∧ ∃ n33 : Int, ∃ w34 : World, Sem.run Tryz.prog (
                        callFunc F.internal_bytealg_IndexString #[.string (ByteArray.extract s (Int.toNat (IntKind.wrap .i64 (n20 + 1))) (ByteArray.size s)), .string substr])
                      w32 = .ok (.value (.int .i64 n33)) w34 ∧ (
                        (decide ((n33 : Int) ≥ 0)) = true → Q (.int .i64 (IntKind.wrap .i64 (n33 + (IntKind.wrap .i64 (n20 + 1))))) w34)
                      ∧ ((decide ((n33 : Int) ≥ 0)) = false → Q (.int .i64 (-1)) w34))
                    ∧ (
                      b31 = false → ∃ n35 : Int, w32.cell? ⟨0, 0, none⟩ = some (.int .i64 n35) ∧
                      Jn (
                        fun k36 : Bool → World → Prop => (
                          (decide ((((ByteArray.size substr : Nat) : Int) : Int) > n35)) = true → (0 : Int) ≤ 4 ∧
                          k36 (
                            decide (
                              ((IntKind.wrap .i64 (n13 + 1)) : Int) ≥ (IntKind.wrap .i64 (4 + (Int.fdiv (IntKind.wrap .i64 (n20 + 1)) (2 ^ (min (Int.toNat 4) 64))))))
                            )
                          w32)
                        ∧ ((decide ((((ByteArray.size substr : Nat) : Int) : Int) > n35)) = false → k36 false w32))
                      (
                        fun (b37 : Bool) (w38 : World) => (
                          (
                            b37 && (
                              decide (
                                ((IntKind.wrap .i64 (n20 + 1)) : Int) < (
                                  IntKind.wrap .i64 ((IntKind.wrap .i64 (((ByteArray.size s : Nat) : Int) - ((ByteArray.size substr : Nat) : Int))) + 1))
                                )
                              )
                            )
                          = true → (
                            (0 : Int) ≤ (IntKind.wrap .i64 (n20 + 1)) ∧ (IntKind.wrap .i64 (n20 + 1)) ≤ (((ByteArray.size s) : Nat) : Int))
                          ∧ Calls Tryz.prog F.internal_bytealg_IndexRabinKarp_string #[.string (ByteArray.extract s (Int.toNat (IntKind.wrap .i64 (n20 + 1))) (ByteArray.size s)), .string substr] w38 fun e40 w39 =>
                          ∃ n41 : Int, e40 = .returned (.int .i64 n41) ∧ ((decide ((n41 : Int) < 0)) = true → Q (.int .i64 (-1)) w39) ∧
                          (
                            (decide ((n41 : Int) < 0)) = false → Q (.int .i64 (IntKind.wrap .i64 ((IntKind.wrap .i64 (n20 + 1)) + n41))) w39)
                          )
                        ∧ (
                          (
                            b37 && (
                              decide (
                                ((IntKind.wrap .i64 (n20 + 1)) : Int) < (
                                  IntKind.wrap .i64 ((IntKind.wrap .i64 (((ByteArray.size s : Nat) : Int) - ((ByteArray.size substr : Nat) : Int))) + 1))
                                )
                              )
                            )
                          = false → I10 (IntKind.wrap .i64 (n20 + 1)) (IntKind.wrap .i64 (n13 + 1)) w38 ∧
                          μ11 (IntKind.wrap .i64 (n20 + 1)) (IntKind.wrap .i64 (n13 + 1)) w38 < μ11 n12 n13 w14)
                        )
                      )
                    )
                  )
                )
              )
            )
          ∧ (
            (
              decide (
                (n12 : Int) < (
                  IntKind.wrap .i64 ((IntKind.wrap .i64 (((ByteArray.size s : Nat) : Int) - ((ByteArray.size substr : Nat) : Int))) + 1))
                )
              )
            = false → Q (.int .i64 (-1)) w14)
          )
        )
      )
    )
def A.internal_stringslite_Index : AT := (.seq (.reg []) (.seq (.reg []) (.seq (.blk (.seq (.reg [.run, .run, .run, .pure 3]) (.cond (.seq (.reg []) .leaf) (.seq (.reg []) (.cond (.seq (.reg []) .leaf) (.seq (.reg []) (.cond (.seq (.reg []) .leaf) (.seq (.reg [.run, .run, .run, .run, .pure 3]) (.cond (.seq (.reg []) .leaf) .leaf))))))))) (.seq (.reg []) (.seq (.reg []) (.seq (.reg []) (.seq (.reg []) (.seq (.reg []) (.seq (.blk (.loop [(8, (.int .i64)), (10, (.int .i64))] [0, 1, 5, 6, 7, 9] (.seq (.seq (.reg []) (.cond .leaf .leaf)) (.blk (.seq (.jk [(8, (.int .i64))] [0, 1, 5, 6, 7, 9, 10] (.seq (.reg []) (.cond (.seq (.reg []) (.seq (.seq (.reg []) (.cond (.seq (.reg []) .leaf) .leaf)) (.reg []))) .leaf))) (.seq (.seq (.reg [.run, .run, .run, .run, .run, .run, .run, .split 8]) (.cond (.seq (.reg []) .leaf) .leaf)) (.seq (.reg []) (.seq (.reg []) (.seq (.reg [.run, .run, .run, .run, .split 4]) (.cond (.seq (.reg []) (.seq (.seq (.reg []) (.cond (.seq (.reg []) .leaf) .leaf)) (.seq (.reg []) .leaf))) (.seq (.reg [.run, .run, .run, .run, .split 5, .run, .run, .run, .run, .run, .run, .pure 3]) (.cond (.seq (.reg []) (.seq (.seq (.reg []) (.cond (.seq (.reg []) .leaf) .leaf)) (.seq (.reg []) .leaf))) .leaf)))))))))))) (.seq (.reg []) .leaf))))))))))
theorem W.internal_stringslite_Index_eq (s : ByteArray) (substr : ByteArray) (w : World) (Q : Value → World → Prop) : W.internal_stringslite_Index s substr w Q = DF Tryz.prog tk A.internal_stringslite_Index Tryz.f52 [.string s, .string substr] w Q := by kernel_rfl
theorem W.internal_stringslite_Index_ok (s : ByteArray) (substr : ByteArray) (w : World) (Q : Value → World → Prop) (h : W.internal_stringslite_Index s substr w Q) : Calls Tryz.prog F.internal_stringslite_Index #[.string s, .string substr] w fun e w1 => ∃ v, e = .returned v ∧ Q v w1 :=
  calls_of_DF hmix Tryz.func52 (by kernel_rfl) (Eq.mp (W.internal_stringslite_Index_eq s substr w Q) h)

/-- internal/strconv.ParseUint -/
def W.internal_strconv_ParseUint (s : ByteArray) (base : Int) (bitSize : Int) (w : World) (Q : Value → World → Prop) : Prop :=
  (
    (ByteArray.toList s == ByteArray.toList (ByteArray.mk #[])) = true → Q (.tuple #[.int .u64 0, .iface Ty.strconv_Error (.int .i64 2)]) w)
  ∧ (
    (ByteArray.toList s == ByteArray.toList (ByteArray.mk #[])) = false → Jn (
      fun k1 : ByteArray → Int → World → Prop => (((decide ((2 : Int) ≤ base)) && (decide ((base : Int) ≤ 36))) = true → k1 s base w) ∧
      (
        ((decide ((2 : Int) ≤ base)) && (decide ((base : Int) ≤ 36))) = false → (
          ((base : Int) == 0) = true → (0 : Int) ≤ 0 ∧ ∃ b2 : UInt8, byteAt s (Int.toNat 0) = some b2 ∧
          (
            ((((b2.toNat : Nat) : Int) : Int) == 48) = true → Jn (
              fun k3 : Bool → World → Prop => (
                (decide ((((ByteArray.size s : Nat) : Int) : Int) ≥ 3)) = true → (0 : Int) ≤ 1 ∧
                ∃ b4 : UInt8, byteAt s (Int.toNat 1) = some b4 ∧ Calls Tryz.prog F.internal_strconv_lower #[.int .u8 ((b4.toNat : Nat) : Int)] w fun e6 w5 =>
                ∃ n7 : Int, e6 = .returned (.int .u8 n7) ∧ k3 ((n7 : Int) == 98) w5)
              ∧ ((decide ((((ByteArray.size s : Nat) : Int) : Int) ≥ 3)) = false → k3 false w))
            (
              fun (b8 : Bool) (w9 : World) => (
                b8 = true → ((0 : Int) ≤ 2 ∧ 2 ≤ (((ByteArray.size s) : Nat) : Int)) ∧ k1 (ByteArray.extract s (Int.toNat 2) (ByteArray.size s)) 2 w9)
              ∧ (
                b8 = false → Jn (
                  fun k10 : Bool → World → Prop => (
                    (decide ((((ByteArray.size s : Nat) : Int) : Int) ≥ 3)) = true → (0 : Int) ≤ 1 ∧
                    ∃ b11 : UInt8, byteAt s (Int.toNat 1) = some b11 ∧ Calls Tryz.prog F.internal_strconv_lower #[.int .u8 ((b11.toNat : Nat) : Int)] w9 fun e13 w12 =>
                    ∃ n14 : Int, e13 = .returned (.int .u8 n14) ∧ k10 ((n14 : Int) == 111) w12)
                  ∧ ((decide ((((ByteArray.size s : Nat) : Int) : Int) ≥ 3)) = false → k10 false w9))
                (
                  fun (b15 : Bool) (w16 : World) => (
                    b15 = true → ((0 : Int) ≤ 2 ∧ 2 ≤ (((ByteArray.size s) : Nat) : Int)) ∧ k1 (ByteArray.extract s (Int.toNat 2) (ByteArray.size s)) 8 w16)
                  ∧ (
                    b15 = false → Jn (
                      fun k17 : Bool → World → Prop => (
                        (decide ((((ByteArray.size s : Nat) : Int) : Int) ≥ 3)) = true → (0 : Int) ≤ 1 ∧
                        ∃ b18 : UInt8, byteAt s (Int.toNat 1) = some b18 ∧ Calls Tryz.prog F.internal_strconv_lower #[.int .u8 ((b18.toNat : Nat) : Int)] w16 fun e20 w19 =>
                        ∃ n21 : Int, e20 = .returned (.int .u8 n21) ∧ k17 ((n21 : Int) == 120) w19)
                      ∧ ((decide ((((ByteArray.size s : Nat) : Int) : Int) ≥ 3)) = false → k17 false w16))
                    (
                      fun (b22 : Bool) (w23 : World) => (
                        b22 = true → ((0 : Int) ≤ 2 ∧ 2 ≤ (((ByteArray.size s) : Nat) : Int)) ∧ k1 (ByteArray.extract s (Int.toNat 2) (ByteArray.size s)) 16 w23)
                      ∧ (
                        b22 = false → ((0 : Int) ≤ 1 ∧ 1 ≤ (((ByteArray.size s) : Nat) : Int)) ∧ k1 (ByteArray.extract s (Int.toNat 1) (ByteArray.size s)) 8 w23)
                      )
                    )
                  )
                )
              )
            )
          ∧ (((((b2.toNat : Nat) : Int) : Int) == 48) = false → k1 s 10 w))
        ∧ (((base : Int) == 0) = false → Q (.tuple #[.int .u64 0, .iface Ty.strconv_Error (.int .i64 3)]) w))
      )
    (
      fun (s24 : ByteArray) (n25 : Int) (w26 : World) => Jn (
        fun k27 : Int → World → Prop => (((bitSize : Int) == 0) = true → k27 64 w26) ∧
        (
          ((bitSize : Int) == 0) = false → (
            ((decide ((bitSize : Int) < 0)) || (decide ((bitSize : Int) > 64))) = true →
            Q (.tuple #[.int .u64 0, .iface Ty.strconv_Error (.int .i64 4)]) w26)
          ∧ (((decide ((bitSize : Int) < 0)) || (decide ((bitSize : Int) > 64))) = false → k27 bitSize w26))
        )
      (
        fun (n28 : Int) (w29 : World) => Jn (
          fun k30 : Int → World → Prop => (((n25 : Int) == 10) = true → k30 1844674407370955162 w29) ∧
          (
            ((n25 : Int) == 10) = false → (((n25 : Int) == 16) = true → k30 1152921504606846976 w29) ∧
            (
              ((n25 : Int) == 16) = false → ((IntKind.wrap .u64 n25) : Int) ≠ 0 ∧ k30 (IntKind.wrap .u64 ((IntKind.wrap .u64 (Int.tdiv 18446744073709551615 (IntKind.wrap .u64 n25))) + 1)) w29)
            )
          )
        (
          fun (n31 : Int) (w32 : World) => (0 : Int) ≤ (IntKind.wrap .u64 n28) ∧ ∃ s33 : Sl, ∃ w34 : World, Sem.run Tryz.prog (convert Ty.string Ty.Sl_uint8 (.string s24)) w32 = .ok (.slice s33.a s33.len s33.cap) w34 ∧
          ∃ (I35 : Bool → Int → Int → World → Prop) (μ36 : Bool → Int → Int → World → Nat), I35 false 0 0 w34 ∧
          ∀ (b37 : Bool) (n38 : Int) (n39 : Int) (w40 : World), I35 b37 n38 n39 w40 →
          (
            (decide ((n39 : Int) < ((s33.len : Nat) : Int))) = true → Jn (
              fun k41 : Bool → Int → World → Prop => ∃ a42 : Addr, s33.a = some a42 ∧ ((0 : Int) ≤ n39 ∧ n39 < ((s33.len : Nat) : Int)) ∧
              ∃ n43 : Int, w40.cell? (a42.add (Int.toNat n39 * 1)) = some (.int .u8 n43) ∧
              Jn (
                fun k44 : Bool → Int → World → Prop => ((((n43 : Int) == 95) && ((base : Int) == 0)) = true → k41 true n38 w40) ∧
                (
                  (((n43 : Int) == 95) && ((base : Int) == 0)) = false → (
                    ((decide ((48 : Int) ≤ n43)) && (decide ((n43 : Int) ≤ 57))) = true → k44 b37 (IntKind.wrap .u8 (n43 - 48)) w40)
                  ∧ (
                    ((decide ((48 : Int) ≤ n43)) && (decide ((n43 : Int) ≤ 57))) = false → Calls Tryz.prog F.internal_strconv_lower #[.int .u8 n43] w40 fun e46 w45 =>
                    ∃ n47 : Int, e46 = .returned (.int .u8 n47) ∧ Jn (
                      fun k48 : Bool → World → Prop => (
                        (decide ((97 : Int) ≤ n47)) = true → Calls Tryz.prog F.internal_strconv_lower #[.int .u8 n43] w45 fun e50 w49 =>
                        ∃ n51 : Int, e50 = .returned (.int .u8 n51) ∧ k48 (decide ((n51 : Int) ≤ 122)) w49)
                      ∧ ((decide ((97 : Int) ≤ n47)) = false → k48 false w45))
                    (
                      fun (b52 : Bool) (w53 : World) => (
                        b52 = true → Calls Tryz.prog F.internal_strconv_lower #[.int .u8 n43] w53 fun e55 w54 =>
                        ∃ n56 : Int, e55 = .returned (.int .u8 n56) ∧ k44 b37 (IntKind.wrap .u8 ((IntKind.wrap .u8 (n56 - 97)) + 10)) w54)
                      ∧ (b52 = false → Q (.tuple #[.int .u64 0, .iface Ty.strconv_Error (.int .i64 2)]) w53))
                    )
                  )
                )
              (
                fun (b57 : Bool) (n58 : Int) (w59 : World) => (
                  (decide ((n58 : Int) ≥ (IntKind.wrap .u8 n25))) = true → Q (.tuple #[.int .u64 0, .iface Ty.strconv_Error (.int .i64 2)]) w59)
                ∧ (
                  (decide ((n58 : Int) ≥ (IntKind.wrap .u8 n25))) = false → (
                    (decide ((n38 : Int) ≥ n31)) = true → Q (
                      .tuple #[.int .u64 (IntKind.wrap .u64 ((IntKind.wrap .u64 (1 * 2 ^ (min (Int.toNat (IntKind.wrap .u64 n28)) 64))) - 1)), .iface Ty.strconv_Error (.int .i64 1)])
                    w59)
                  ∧ (
                    (decide ((n38 : Int) ≥ n31)) = false → (
                      (
                        (
                          decide (
                            (
                              (IntKind.wrap .u64 ((IntKind.wrap .u64 (n38 * (IntKind.wrap .u64 n25))) + (IntKind.wrap .u64 n58))) : Int)
                            < (IntKind.wrap .u64 (n38 * (IntKind.wrap .u64 n25))))
                          )
                        || (
                          decide (
                            (
                              (IntKind.wrap .u64 ((IntKind.wrap .u64 (n38 * (IntKind.wrap .u64 n25))) + (IntKind.wrap .u64 n58))) : Int)
                            > (IntKind.wrap .u64 ((IntKind.wrap .u64 (1 * 2 ^ (min (Int.toNat (IntKind.wrap .u64 n28)) 64))) - 1)))
                          )
                        )
                      = true → Q (
                        .tuple #[.int .u64 (IntKind.wrap .u64 ((IntKind.wrap .u64 (1 * 2 ^ (min (Int.toNat (IntKind.wrap .u64 n28)) 64))) - 1)), .iface Ty.strconv_Error (.int .i64 1)])
                      w59)
                    ∧ (
                      (
                        (
                          decide (
                            (
                              (IntKind.wrap .u64 ((IntKind.wrap .u64 (n38 * (IntKind.wrap .u64 n25))) + (IntKind.wrap .u64 n58))) : Int)
                            < (IntKind.wrap .u64 (n38 * (IntKind.wrap .u64 n25))))
                          )
                        || (
                          decide (
                            (
                              (IntKind.wrap .u64 ((IntKind.wrap .u64 (n38 * (IntKind.wrap .u64 n25))) + (IntKind.wrap .u64 n58))) : Int)
                            > (IntKind.wrap .u64 ((IntKind.wrap .u64 (1 * 2 ^ (min (Int.toNat (IntKind.wrap .u64 n28)) 64))) - 1)))
                          )
                        )
                      = false → k41 b57 (IntKind.wrap .u64 ((IntKind.wrap .u64 (n38 * (IntKind.wrap .u64 n25))) + (IntKind.wrap .u64 n58))) w59)
                    )
                  )
                )
              )
            (
              fun (b60 : Bool) (n61 : Int) (w62 : World) => I35 b60 n61 (IntKind.wrap .i64 (n39 + 1)) w62 ∧
              μ36 b60 n61 (IntKind.wrap .i64 (n39 + 1)) w62 < μ36 b37 n38 n39 w40)
            )
          ∧ (
            (decide ((n39 : Int) < ((s33.len : Nat) : Int))) = false → Jn (
              fun k63 : Bool → World → Prop => (
                b37 = true → Calls Tryz.prog F.internal_strconv_underscoreOK #[.string s] w40 fun e65 w64 =>
                ∃ b66 : Bool, e65 = .returned (.bool b66) ∧ k63 (!b66) w64)
              ∧ (b37 = false → k63 false w40))
            (
              fun (b67 : Bool) (w68 : World) => (b67 = true → Q (.tuple #[.int .u64 0, .iface Ty.strconv_Error (.int .i64 2)]) w68) ∧
              (b67 = false → Q (.tuple #[.int .u64 n38, .nilIface]) w68))
            )
          )
        )
      )
    )
def A.internal_strconv_ParseUint : AT := (.seq (.reg []) (.seq (.seq (.reg []) (.cond (.seq (.reg []) .leaf) .leaf)) (.seq (.reg []) (.seq (.reg []) (.seq (.jk [(0, .str), (1, (.int .i64))] [2, 8, 9] (.blk (.seq (.reg [.run, .run, .run, .pure 2]) (.cond .leaf (.seq (.reg []) (.cond (.seq (.reg []) (.seq (.reg []) (.cond (.blk (.seq (.reg [.run, .run, .run, .run, .split 4]) (.cond (.seq (.reg []) (.reg [])) (.seq (.reg [.run, .run, .run, .run, .split 4]) (.cond (.seq (.reg []) (.reg [])) (.seq (.reg [.run, .run, .run, .run, .split 4]) (.cond (.seq (.reg []) (.reg [])) (.seq (.reg []) (.reg []))))))))) .leaf))) (.seq (.reg []) .leaf))))))) (.seq (.jk [(2, (.int .i64))] [0, 1, 8, 9] (.seq (.reg []) (.cond (.reg []) (.seq (.reg [.run, .run, .run, .pure 2]) (.cond (.seq (.reg []) .leaf) .leaf))))) (.seq (.reg []) (.seq (.jk [(10, (.int .u64))] [0, 1, 2, 8, 9] (.seq (.reg []) (.blk (.seq (.reg []) (.cond (.reg []) (.seq (.reg []) (.cond (.reg []) (.reg [])))))))) (.seq (.reg []) (.seq (.reg []) (.seq (.reg []) (.seq (.seq (.reg []) (.blk (.loop [(12, .bool), (13, (.int .u64)), (101, (.int .i64))] [1, 8, 9, 10, 11, 99, 100] (.seq (.reg []) (.seq (.cond .leaf .leaf) (.seq (.jk [(12, .bool), (13, (.int .u64))] [1, 8, 9, 10, 11, 99, 100, 101] (.blk (.seq (.reg []) (.seq (.reg []) (.seq (.jk [(12, .bool), (16, (.int .u8))] [1, 8, 9, 10, 11, 13, 99, 100, 101] (.blk (.seq (.reg [.run, .run, .run, .pure 1]) (.cond (.seq (.reg []) .leaf) (.seq (.reg [.run, .run, .run, .pure 2]) (.cond (.reg []) (.seq (.reg [.run, .run, .run, .run, .split 3]) (.cond (.reg []) (.seq (.reg []) .leaf))))))))) (.seq (.seq (.reg []) (.cond (.seq (.reg []) .leaf) .leaf)) (.seq (.seq (.reg []) (.cond (.seq (.reg []) .leaf) .leaf)) (.seq (.reg []) (.seq (.reg []) (.seq (.seq (.reg [.run, .run, .run, .run, .pure 3]) (.cond (.seq (.reg []) .leaf) .leaf)) (.reg []))))))))))) (.reg []))))))) (.seq (.seq (.reg [.run, .run, .split 3]) (.cond (.seq (.reg []) .leaf) .leaf)) (.seq (.reg []) .leaf))))))))))))))
theorem W.internal_strconv_ParseUint_eq (s : ByteArray) (base : Int) (bitSize : Int) (w : World) (Q : Value → World → Prop) : W.internal_strconv_ParseUint s base bitSize w Q = DF Tryz.prog tk A.internal_strconv_ParseUint Tryz.f53 [.string s, .int .i64 base, .int .i64 bitSize] w Q := by kernel_rfl
theorem W.internal_strconv_ParseUint_ok (s : ByteArray) (base : Int) (bitSize : Int) (w : World) (Q : Value → World → Prop) (h : W.internal_strconv_ParseUint s base bitSize w Q) : Calls Tryz.prog F.internal_strconv_ParseUint #[.string s, .int .i64 base, .int .i64 bitSize] w fun e w1 => ∃ v, e = .returned v ∧ Q v w1 :=
  calls_of_DF hmix Tryz.func53 (by kernel_rfl) (Eq.mp (W.internal_strconv_ParseUint_eq s base bitSize w Q) h)

/-- internal/strconv.FormatInt -/
def W.internal_strconv_FormatInt (i : Int) (base : Int) (w : World) (Q : Value → World → Prop) : Prop :=
  (
    ((base : Int) == 10) = true → (
      ((decide ((0 : Int) ≤ i)) && (decide ((i : Int) < 100))) = true → Calls Tryz.prog F.internal_strconv_small #[.int .i64 i] w fun e2 w1 =>
      ∃ s3 : ByteArray, e2 = .returned (.string s3) ∧ Q (.string s3) w1)
    ∧ (
      ((decide ((0 : Int) ≤ i)) && (decide ((i : Int) < 100))) = false → Nx (
        w.alloc (
          .cells #[.int .u8 0, .int .u8 0, .int .u8 0, .int .u8 0, .int .u8 0, .int .u8 0, .int .u8 0, .int .u8 0, .int .u8 0, .int .u8 0, .int .u8 0, .int .u8 0, .int .u8 0, .int .u8 0, .int .u8 0, .int .u8 0, .int .u8 0, .int .u8 0, .int .u8 0, .int .u8 0, .int .u8 0, .int .u8 0, .int .u8 0, .int .u8 0] Ty.n24_uint8)
        )
      fun w4 => Jn (
        fun k5 : Int → World → Prop => ((decide ((i : Int) < 0)) = true → k5 (IntKind.wrap .u64 (0 - (IntKind.wrap .u64 i))) w4) ∧
        ((decide ((i : Int) < 0)) = false → k5 (IntKind.wrap .u64 i) w4))
      (
        fun (n6 : Int) (w7 : World) => Calls Tryz.prog F.internal_strconv_numDigits #[.int .u64 n6] w7 fun e9 w8 =>
        ∃ n10 : Int, e9 = .returned (.int .i64 n10) ∧ ((0 : Int) ≤ (IntKind.wrap .i64 (1 + n10)) ∧ (IntKind.wrap .i64 (1 + n10)) ≤ ((24 : Nat) : Int)) ∧
        ((0 : Int) ≤ 1 ∧ 1 ≤ (((Int.toNat (IntKind.wrap .i64 (1 + n10))) : Nat) : Int)) ∧
        Calls Tryz.prog F.internal_strconv_formatBase10 #[.slice (cutA (some ⟨w.heap.size, 0, none⟩) 1 (Int.toNat 1) 24) ((Int.toNat (IntKind.wrap .i64 (1 + n10))) - (Int.toNat 1)) (24 - (Int.toNat 1)), .int .u64 n6] w8 fun e12 w11 =>
        e12 = .returned (.tuple #[]) ∧ (
          (decide ((i : Int) < 0)) = true → ((0 : Int) ≤ 0 ∧ 0 < ((24 : Nat) : Int)) ∧
          (∃ u : Value, w11.cell? (Addr.add ⟨w.heap.size, 0, none⟩ (Int.toNat 0 * 1)) = some u) ∧
          w11.frozen? (Addr.add ⟨w.heap.size, 0, none⟩ (Int.toNat 0 * 1)) = false ∧
          Nx (w11.setCell (Addr.add ⟨w.heap.size, 0, none⟩ (Int.toNat 0 * 1)) (.int .u8 45)) fun w13 =>
          ((0 : Int) ≤ (IntKind.wrap .i64 (1 + n10)) ∧ (IntKind.wrap .i64 (1 + n10)) ≤ ((24 : Nat) : Int)) ∧
          ∃ s14 : ByteArray, ∃ w15 : World, Sem.run Tryz.prog (
            convert Ty.Sl_uint8 Ty.string (
              .slice (cutA (some ⟨w.heap.size, 0, none⟩) 1 0 24) ((Int.toNat (IntKind.wrap .i64 (1 + n10))) - 0) (24 - 0))
            )
          w13 = .ok (.string s14) w15 ∧ Q (.string s14) w15)
        ∧ (
          (decide ((i : Int) < 0)) = false → ((0 : Int) ≤ (IntKind.wrap .i64 (1 + n10)) ∧ (IntKind.wrap .i64 (1 + n10)) ≤ ((24 : Nat) : Int)) ∧
          ((0 : Int) ≤ 1 ∧ 1 ≤ (((Int.toNat (IntKind.wrap .i64 (1 + n10))) : Nat) : Int)) ∧
          ∃ s16 : ByteArray, ∃ w17 : World, Sem.run Tryz.prog (
            convert Ty.Sl_uint8 Ty.string (
              .slice (cutA (some ⟨w.heap.size, 0, none⟩) 1 (Int.toNat 1) 24) ((Int.toNat (IntKind.wrap .i64 (1 + n10))) - (Int.toNat 1)) (24 - (Int.toNat 1)))
            )
          w11 = .ok (.string s16) w17 ∧ Q (.string s16) w17)
        )
      )
    )
  ∧ (
    ((base : Int) == 10) = false → Calls Tryz.prog F.internal_strconv_formatBits #[.slice none 0 0, .int .u64 (IntKind.wrap .u64 i), .int .i64 base, .bool (decide ((i : Int) < 0)), .bool false] w fun e19 w18 =>
    ∃ s20 : Sl, ∃ s21 : ByteArray, e19 = .returned (.tuple #[.slice s20.a s20.len s20.cap, .string s21]) ∧
    Q (.string s21) w18)
def A.internal_strconv_FormatInt : AT := (.seq (.reg []) (.seq (.seq (.reg []) (.cond (.seq (.seq (.reg [.run, .run, .run, .pure 2]) (.cond (.seq (.reg []) .leaf) .leaf)) (.seq (.reg []) (.seq (.reg []) (.seq (.jk [(6, (.int .u64))] [0, 5] (.seq (.reg []) (.cond (.reg []) .leaf))) (.seq (.reg []) (.seq (.reg []) (.seq (.seq (.reg []) (.cond (.seq (.reg []) (.seq (.reg []) .leaf)) .leaf)) (.seq (.reg []) .leaf)))))))) .leaf)) (.seq (.reg []) (.seq (.reg []) .leaf))))
theorem W.internal_strconv_FormatInt_eq (i : Int) (base : Int) (w : World) (Q : Value → World → Prop) : W.internal_strconv_FormatInt i base w Q = DF Tryz.prog tk A.internal_strconv_FormatInt Tryz.f57 [.int .i64 i, .int .i64 base] w Q := by kernel_rfl
theorem W.internal_strconv_FormatInt_ok (i : Int) (base : Int) (w : World) (Q : Value → World → Prop) (h : W.internal_strconv_FormatInt i base w Q) : Calls Tryz.prog F.internal_strconv_FormatInt #[.int .i64 i, .int .i64 base] w fun e w1 => ∃ v, e = .returned v ∧ Q v w1 :=
  calls_of_DF hmix Tryz.func57 (by kernel_rfl) (Eq.mp (W.internal_strconv_FormatInt_eq i base w Q) h)

/-- (*strings.Builder).copyCheck -/
def W.strings_Builder_copyCheck (b : Option Addr) (w : World) (Q : Value → World → Prop) : Prop :=
  ∃ a1 : Addr, b = some a1 ∧ ∃ p2 : Option Addr, w.cell? a1 = some (.pointer p2) ∧
  (
    (Option.isNone p2) = true → ∃ p3 : Option Addr, ∃ w4 : World, Sem.run Tryz.prog (convert Ty.P_strings_Builder Ty.unsafe_Pointer (.pointer b)) w = .ok (.pointer p3) w4 ∧
    ∃ p5 : Option Addr, ∃ w6 : World, Sem.run Tryz.prog (callFunc F.internal_abi_NoEscape #[.pointer p3]) w4 = .ok (.value (.pointer p5)) w6 ∧
    ∃ p7 : Option Addr, ∃ w8 : World, Sem.run Tryz.prog (convert Ty.unsafe_Pointer Ty.P_strings_Builder (.pointer p5)) w6 = .ok (.pointer p7) w8 ∧
    ∃ a9 : Addr, b = some a9 ∧ (∃ u : Value, w8.cell? a9 = some u) ∧ w8.frozen? a9 = false ∧
    Nx (w8.setCell a9 (.pointer p7)) fun w10 => Q (.tuple #[]) w10)
  ∧ (
    (Option.isNone p2) = false → ∃ a11 : Addr, b = some a11 ∧ ∃ p12 : Option Addr, w.cell? a11 = some (.pointer p12) ∧
    ∃ b13 : Bool, OpqEq Tryz.prog .neq Ty.P_strings_Builder (.tmp 17) (.tmp 18) (.pointer p12) (.pointer b) b13 ∧
    (b13 = true → False) ∧ (b13 = false → Q (.tuple #[]) w))
def A.strings_Builder_copyCheck : AT := (.seq (.reg []) (.cond (.reg []) (.seq (.reg []) (.cond .leaf .leaf))))
theorem W.strings_Builder_copyCheck_eq (b : Option Addr) (w : World) (Q : Value → World → Prop) : W.strings_Builder_copyCheck b w Q = DF Tryz.prog tk A.strings_Builder_copyCheck Tryz.f58 [.pointer b] w Q := by kernel_rfl
theorem W.strings_Builder_copyCheck_ok (b : Option Addr) (w : World) (Q : Value → World → Prop) (h : W.strings_Builder_copyCheck b w Q) : Calls Tryz.prog F.strings_Builder_copyCheck #[.pointer b] w fun e w1 => ∃ v, e = .returned v ∧ Q v w1 :=
  calls_of_DF hmix Tryz.func58 (by kernel_rfl) (Eq.mp (W.strings_Builder_copyCheck_eq b w Q) h)

/-- (*strings.Builder).grow -/
def W.strings_Builder_grow (b : Option Addr) (n : Int) (w : World) (Q : Value → World → Prop) : Prop :=
  Nx (w.drew) fun w1 => ∃ W2 : Nat → Prop, ∃ a3 : Addr, b = some a3 ∧ ¬ W2 (a3.add 1).block ∧
  ∃ s4 : Sl, w1.cell? (a3.add 1) = some (.slice s4.a s4.len s4.cap) ∧ ∃ a5 : Addr, b = some a5 ∧
  ¬ W2 (a5.add 1).block ∧ ∃ s6 : Sl, w1.cell? (a5.add 1) = some (.slice s6.a s6.len s6.cap) ∧
  ∃ s7 : Sl, ∃ w8 : World, Sem.run Tryz.prog (
    callFunc F.internal_bytealg_MakeNoZero #[.int .i64 (IntKind.wrap .i64 ((IntKind.wrap .i64 (2 * ((s4.cap : Nat) : Int))) + n))])
  w1 = .ok (.value (.slice s7.a s7.len s7.cap)) w8 ∧ Chg W2 w1 w8 ∧ ((0 : Int) ≤ ((s6.len : Nat) : Int) ∧ ((s6.len : Nat) : Int) ≤ ((s7.cap : Nat) : Int)) ∧
  ∃ a9 : Addr, b = some a9 ∧ ∃ s10 : Sl, w8.cell? (a9.add 1) = some (.slice s10.a s10.len s10.cap) ∧
  ∃ n11 : Int, ∃ w12 : World, Sem.run Tryz.prog (
    Builtin.copy_ #[Ty.Sl_uint8, Ty.Sl_uint8] Ty.int #[.slice (cutA s7.a 1 0 s7.cap) ((Int.toNat ((s6.len : Nat) : Int)) - 0) (s7.cap - 0), .slice s10.a s10.len s10.cap])
  w8 = .ok (.int .i64 n11) w12 ∧ ∃ a13 : Addr, b = some a13 ∧ (∃ u : Value, w12.cell? (a13.add 1) = some u) ∧
  w12.frozen? (a13.add 1) = false ∧ Nx (
    w12.setCell (a13.add 1) (.slice (cutA s7.a 1 0 s7.cap) ((Int.toNat ((s6.len : Nat) : Int)) - 0) (s7.cap - 0)))
  fun w14 => Q (.tuple #[]) w14
def A.strings_Builder_grow : AT := (.seq (.drw 14 true ⟨[0, 1, 2, 4, 8, 16, 0, 96, 128, 0, 512, 1024, 2048, 4096, 8448, 32767], [0, 1, 2, 4, 8, 16, 0, 96, 128, 0, 512, 1024, 2048, 4096, 8448, 16384]⟩ [32, 64, 128, 256, 512, 1024, 2048, 4096, 8192, 16384, 32768, 65536, 131072, 262144, 524288, 16] [1, 32, 64, 128, 256, 512, 2, 3072, 4096, 1, 16384, 32768, 65536, 131072, 270336, 524288] (.take 0 (.take 1 (.take 2 (.take 3 (.take 4 (.take 5 (.take 6 (.take 7 (.take 9 (.take 10 (.take 11 (.take 12 (.take 13 (.eff 8 (.tail [.run, .run])))))))))))))))) (.seq (.reg []) (.reg [])))
theorem W.strings_Builder_grow_eq (b : Option Addr) (n : Int) (w : World) (Q : Value → World → Prop) : W.strings_Builder_grow b n w Q = DF Tryz.prog tk A.strings_Builder_grow Tryz.f59 [.pointer b, .int .i64 n] w Q := by kernel_rfl
theorem W.strings_Builder_grow_ok (b : Option Addr) (n : Int) (w : World) (Q : Value → World → Prop) (h : W.strings_Builder_grow b n w Q) : Calls Tryz.prog F.strings_Builder_grow #[.pointer b, .int .i64 n] w fun e w1 => ∃ v, e = .returned v ∧ Q v w1 :=
  calls_of_DF hmix Tryz.func59 (by kernel_rfl) (Eq.mp (W.strings_Builder_grow_eq b n w Q) h)

/-- unicode/utf8.DecodeRuneInString -/
def W.unicode_utf8_DecodeRuneInString (s : ByteArray) (w : World) (Q : Value → World → Prop) : Prop :=
  Jn (
    fun k1 : Bool → World → Prop => (
      (!(ByteArray.toList s == ByteArray.toList (ByteArray.mk #[]))) = true → (0 : Int) ≤ 0 ∧
      ∃ b2 : UInt8, byteAt s (Int.toNat 0) = some b2 ∧ k1 (decide ((((b2.toNat : Nat) : Int) : Int) < 128)) w)
    ∧ ((!(ByteArray.toList s == ByteArray.toList (ByteArray.mk #[]))) = false → k1 false w))
  (
    fun (b3 : Bool) (w4 : World) => (
      b3 = true → (0 : Int) ≤ 0 ∧ ∃ b5 : UInt8, byteAt s (Int.toNat 0) = some b5 ∧
      Q (.tuple #[.int .i32 (IntKind.wrap .i32 ((b5.toNat : Nat) : Int)), .int .i64 1]) w4)
    ∧ (
      b3 = false → Calls Tryz.prog F.unicode_utf8_decodeRuneInStringSlow #[.string s] w4 fun e7 w6 =>
      ∃ n8 : Int, ∃ n9 : Int, e7 = .returned (.tuple #[.int .i32 n8, .int .i64 n9]) ∧
      Q (.tuple #[.int .i32 n8, .int .i64 n9]) w6)
    )
def A.unicode_utf8_DecodeRuneInString : AT := (.seq (.reg []) (.seq (.seq (.reg [.run, .run, .run, .split 3]) (.cond (.seq (.reg []) .leaf) (.reg []))) .leaf))
theorem W.unicode_utf8_DecodeRuneInString_eq (s : ByteArray) (w : World) (Q : Value → World → Prop) : W.unicode_utf8_DecodeRuneInString s w Q = DF Tryz.prog tk A.unicode_utf8_DecodeRuneInString Tryz.f61 [.string s] w Q := by kernel_rfl
theorem W.unicode_utf8_DecodeRuneInString_ok (s : ByteArray) (w : World) (Q : Value → World → Prop) (h : W.unicode_utf8_DecodeRuneInString s w Q) : Calls Tryz.prog F.unicode_utf8_DecodeRuneInString #[.string s] w fun e w1 => ∃ v, e = .returned v ∧ Q v w1 :=
  calls_of_DF hmix Tryz.func61 (by kernel_rfl) (Eq.mp (W.unicode_utf8_DecodeRuneInString_eq s w Q) h)

/-- strconv.FormatUint -/
def W.strconv_FormatUint (i : Int) (base : Int) (w : World) (Q : Value → World → Prop) : Prop :=
  Calls Tryz.prog F.internal_strconv_FormatUint #[.int .u64 i, .int .i64 base] w fun e2 w1 =>
  ∃ s3 : ByteArray, e2 = .returned (.string s3) ∧ Q (.string s3) w1
def A.strconv_FormatUint : AT := (.seq (.reg []) (.seq (.reg []) .leaf))
theorem W.strconv_FormatUint_eq (i : Int) (base : Int) (w : World) (Q : Value → World → Prop) : W.strconv_FormatUint i base w Q = DF Tryz.prog tk A.strconv_FormatUint Tryz.f68 [.int .u64 i, .int .i64 base] w Q := by kernel_rfl
theorem W.strconv_FormatUint_ok (i : Int) (base : Int) (w : World) (Q : Value → World → Prop) (h : W.strconv_FormatUint i base w Q) : Calls Tryz.prog F.strconv_FormatUint #[.int .u64 i, .int .i64 base] w fun e w1 => ∃ v, e = .returned v ∧ Q v w1 :=
  calls_of_DF hmix Tryz.func68 (by kernel_rfl) (Eq.mp (W.strconv_FormatUint_eq i base w Q) h)

/-- internal/strconv.ParseInt -/
def W.internal_strconv_ParseInt (s : ByteArray) (base : Int) (bitSize : Int) (w : World) (Q : Value → World → Prop) : Prop :=
  (
    (ByteArray.toList s == ByteArray.toList (ByteArray.mk #[])) = true → Q (.tuple #[.int .i64 0, .iface Ty.strconv_Error (.int .i64 2)]) w)
  ∧ (
    (ByteArray.toList s == ByteArray.toList (ByteArray.mk #[])) = false → Jn (
      fun k1 : ByteArray → Bool → World → Prop => (0 : Int) ≤ 0 ∧ ∃ b2 : UInt8, byteAt s (Int.toNat 0) = some b2 ∧
      (
        ((((b2.toNat : Nat) : Int) : Int) == 43) = true → ((0 : Int) ≤ 1 ∧ 1 ≤ (((ByteArray.size s) : Nat) : Int)) ∧
        k1 (ByteArray.extract s (Int.toNat 1) (ByteArray.size s)) false w)
      ∧ (
        ((((b2.toNat : Nat) : Int) : Int) == 43) = false → (
          ((((b2.toNat : Nat) : Int) : Int) == 45) = true → ((0 : Int) ≤ 1 ∧ 1 ≤ (((ByteArray.size s) : Nat) : Int)) ∧
          k1 (ByteArray.extract s (Int.toNat 1) (ByteArray.size s)) true w)
        ∧ (((((b2.toNat : Nat) : Int) : Int) == 45) = false → k1 s false w))
      )
    (
      fun (s3 : ByteArray) (b4 : Bool) (w5 : World) => Calls Tryz.prog F.internal_strconv_ParseUint #[.string s3, .int .i64 base, .int .i64 bitSize] w5 fun e7 w6 =>
      ∃ n8 : Int, ∃ v9 : Value, e7 = .returned (.tuple #[.int .u64 n8, v9]) ∧ ∃ b10 : Bool, ifaceNil v9 = some b10 ∧
      Jn (
        fun k11 : Bool → World → Prop => (
          (!b10) = true → ∃ b12 : Bool, OpqEq Tryz.prog .neq Ty.error (.tmp 35) (.tmp 36) (v9) (.iface Ty.strconv_Error (.int .i64 1)) b12 ∧
          k11 b12 w6)
        ∧ ((!b10) = false → k11 false w6))
      (
        fun (b13 : Bool) (w14 : World) => (b13 = true → Q (.tuple #[.int .i64 0, v9]) w14) ∧
        (
          b13 = false → Jn (
            fun k15 : Int → World → Prop => (((bitSize : Int) == 0) = true → k15 64 w14) ∧
            (((bitSize : Int) == 0) = false → k15 bitSize w14))
          (
            fun (n16 : Int) (w17 : World) => (0 : Int) ≤ (IntKind.wrap .u64 (IntKind.wrap .i64 (n16 - 1))) ∧
            (
              (
                (!b4) && (
                  decide (
                    (n8 : Int) ≥ (IntKind.wrap .u64 (1 * 2 ^ (min (Int.toNat (IntKind.wrap .u64 (IntKind.wrap .i64 (n16 - 1)))) 64))))
                  )
                )
              = true → Q (
                .tuple #[.int .i64 (
                  IntKind.wrap .i64 (
                    IntKind.wrap .u64 (
                      (IntKind.wrap .u64 (1 * 2 ^ (min (Int.toNat (IntKind.wrap .u64 (IntKind.wrap .i64 (n16 - 1)))) 64))) - 1)
                    )
                  )
                , .iface Ty.strconv_Error (.int .i64 1)])
              w17)
            ∧ (
              (
                (!b4) && (
                  decide (
                    (n8 : Int) ≥ (IntKind.wrap .u64 (1 * 2 ^ (min (Int.toNat (IntKind.wrap .u64 (IntKind.wrap .i64 (n16 - 1)))) 64))))
                  )
                )
              = false → (
                (
                  b4 && (
                    decide (
                      (n8 : Int) > (IntKind.wrap .u64 (1 * 2 ^ (min (Int.toNat (IntKind.wrap .u64 (IntKind.wrap .i64 (n16 - 1)))) 64))))
                    )
                  )
                = true → Q (
                  .tuple #[.int .i64 (
                    IntKind.wrap .i64 (
                      0 - (
                        IntKind.wrap .i64 (IntKind.wrap .u64 (1 * 2 ^ (min (Int.toNat (IntKind.wrap .u64 (IntKind.wrap .i64 (n16 - 1)))) 64))))
                      )
                    )
                  , .iface Ty.strconv_Error (.int .i64 1)])
                w17)
              ∧ (
                (
                  b4 && (
                    decide (
                      (n8 : Int) > (IntKind.wrap .u64 (1 * 2 ^ (min (Int.toNat (IntKind.wrap .u64 (IntKind.wrap .i64 (n16 - 1)))) 64))))
                    )
                  )
                = false → Jn (
                  fun k18 : Int → World → Prop => (b4 = true → k18 (IntKind.wrap .i64 (0 - (IntKind.wrap .i64 n8))) w17) ∧
                  (b4 = false → k18 (IntKind.wrap .i64 n8) w17))
                (fun (n19 : Int) (w20 : World) => Q (.tuple #[.int .i64 n19, .nilIface]) w20))
              )
            )
          )
        )
      )
    )
def A.internal_strconv_ParseInt : AT := (.seq (.reg []) (.seq (.seq (.reg []) (.cond (.seq (.reg []) .leaf) .leaf)) (.seq (.reg []) (.seq (.jk [(0, .str), (8, .bool)] [1, 2] (.seq (.reg []) (.blk (.seq (.reg []) (.cond (.reg []) (.seq (.reg []) (.cond (.seq (.reg []) (.reg [])) .leaf))))))) (.seq (.reg []) (.seq (.reg []) (.seq (.seq (.reg [.run, .run, .run, .split 3]) (.cond (.seq (.reg []) .leaf) .leaf)) (.seq (.jk [(2, (.int .i64))] [8, 9] (.seq (.reg []) (.cond (.reg []) .leaf))) (.seq (.reg []) (.seq (.seq (.reg [.run, .run, .run, .pure 3]) (.cond (.seq (.reg []) .leaf) .leaf)) (.seq (.seq (.reg [.run, .run, .pure 3]) (.cond (.seq (.reg []) .leaf) .leaf)) (.seq (.reg []) (.seq (.jk [(11, (.int .i64))] [] (.seq (.reg []) (.cond (.reg []) .leaf))) (.seq (.reg []) .leaf))))))))))))))
theorem W.internal_strconv_ParseInt_eq (s : ByteArray) (base : Int) (bitSize : Int) (w : World) (Q : Value → World → Prop) : W.internal_strconv_ParseInt s base bitSize w Q = DF Tryz.prog tk A.internal_strconv_ParseInt Tryz.f69 [.string s, .int .i64 base, .int .i64 bitSize] w Q := by kernel_rfl
theorem W.internal_strconv_ParseInt_ok (s : ByteArray) (base : Int) (bitSize : Int) (w : World) (Q : Value → World → Prop) (h : W.internal_strconv_ParseInt s base bitSize w Q) : Calls Tryz.prog F.internal_strconv_ParseInt #[.string s, .int .i64 base, .int .i64 bitSize] w fun e w1 => ∃ v, e = .returned v ∧ Q v w1 :=
  calls_of_DF hmix Tryz.func69 (by kernel_rfl) (Eq.mp (W.internal_strconv_ParseInt_eq s base bitSize w Q) h)

/-- strconv.syntaxError -/
def W.strconv_syntaxError (fn : ByteArray) (str : ByteArray) (w : World) (Q : Value → World → Prop) : Prop :=
  Nx (w.drew) fun w1 => ∃ W2 : Nat → Prop, ¬ W2 (⟨1, 0, none⟩ : Addr).block ∧
  ∃ v3 : Value, w1.cell? ⟨1, 0, none⟩ = some (v3) ∧ Calls Tryz.prog F.internal_stringslite_Clone #[.string str] w1 fun e5 w4 =>
  ∃ s6 : ByteArray, e5 = .returned (.string s6) ∧ Chg W2 w1 w4 ∧ ∃ c7 : Array Value, Sem.run Tryz.prog (Instr.build Ty.strconv_NumError #[(0, .string fn), (1, .string s6), (2, v3)]) w4 = .ok (.agg c7) w4 ∧
  Nx (w4.alloc (.cells c7 Ty.strconv_NumError)) fun w8 => Q (.pointer (some ⟨w4.heap.size, 0, none⟩)) w8
def A.strconv_syntaxError : AT := (.seq (.reg []) (.seq (.drw 4 true ⟨[0, 0, 2, 0, 13, 16, 63], [0, 0, 2, 0, 13, 16, 32]⟩ [32, 64, 128, 256, 512, 1024, 16] [1, 2, 64, 0, 416, 512, 1024] (.take 0 (.take 1 (.take 3 (.eff 2 (.tail [.run, .run, .run])))))) .leaf))
theorem W.strconv_syntaxError_eq (fn : ByteArray) (str : ByteArray) (w : World) (Q : Value → World → Prop) : W.strconv_syntaxError fn str w Q = DF Tryz.prog tk A.strconv_syntaxError Tryz.f70 [.string fn, .string str] w Q := by kernel_rfl
theorem W.strconv_syntaxError_ok (fn : ByteArray) (str : ByteArray) (w : World) (Q : Value → World → Prop) (h : W.strconv_syntaxError fn str w Q) : Calls Tryz.prog F.strconv_syntaxError #[.string fn, .string str] w fun e w1 => ∃ v, e = .returned v ∧ Q v w1 :=
  calls_of_DF hmix Tryz.func70 (by kernel_rfl) (Eq.mp (W.strconv_syntaxError_eq fn str w Q) h)

/-- strconv.rangeError -/
def W.strconv_rangeError (fn : ByteArray) (str : ByteArray) (w : World) (Q : Value → World → Prop) : Prop :=
  Nx (w.drew) fun w1 => ∃ W2 : Nat → Prop, ¬ W2 (⟨2, 0, none⟩ : Addr).block ∧
  ∃ v3 : Value, w1.cell? ⟨2, 0, none⟩ = some (v3) ∧ Calls Tryz.prog F.internal_stringslite_Clone #[.string str] w1 fun e5 w4 =>
  ∃ s6 : ByteArray, e5 = .returned (.string s6) ∧ Chg W2 w1 w4 ∧ ∃ c7 : Array Value, Sem.run Tryz.prog (Instr.build Ty.strconv_NumError #[(0, .string fn), (1, .string s6), (2, v3)]) w4 = .ok (.agg c7) w4 ∧
  Nx (w4.alloc (.cells c7 Ty.strconv_NumError)) fun w8 => Q (.pointer (some ⟨w4.heap.size, 0, none⟩)) w8
def A.strconv_rangeError : AT := (.seq (.reg []) (.seq (.drw 4 true ⟨[0, 0, 2, 0, 13, 16, 63], [0, 0, 2, 0, 13, 16, 32]⟩ [32, 64, 128, 256, 512, 1024, 16] [1, 2, 64, 0, 416, 512, 1024] (.take 0 (.take 1 (.take 3 (.eff 2 (.tail [.run, .run, .run])))))) .leaf))
theorem W.strconv_rangeError_eq (fn : ByteArray) (str : ByteArray) (w : World) (Q : Value → World → Prop) : W.strconv_rangeError fn str w Q = DF Tryz.prog tk A.strconv_rangeError Tryz.f71 [.string fn, .string str] w Q := by kernel_rfl
theorem W.strconv_rangeError_ok (fn : ByteArray) (str : ByteArray) (w : World) (Q : Value → World → Prop) (h : W.strconv_rangeError fn str w Q) : Calls Tryz.prog F.strconv_rangeError #[.string fn, .string str] w fun e w1 => ∃ v, e = .returned v ∧ Q v w1 :=
  calls_of_DF hmix Tryz.func71 (by kernel_rfl) (Eq.mp (W.strconv_rangeError_eq fn str w Q) h)

/-- strconv.baseError -/
def W.strconv_baseError (fn : ByteArray) (str : ByteArray) (base : Int) (w : World) (Q : Value → World → Prop) : Prop :=
  Calls Tryz.prog F.internal_stringslite_Clone #[.string str] w fun e2 w1 =>
  ∃ s3 : ByteArray, e2 = .returned (.string s3) ∧ Calls Tryz.prog F.strconv_Itoa #[.int .i64 base] w1 fun e5 w4 =>
  ∃ s6 : ByteArray, e5 = .returned (.string s6) ∧ (
    (
      ByteArray.size (ByteArray.mk #[105, 110, 118, 97, 108, 105, 100, 32, 98, 97, 115, 101, 32]) + ByteArray.size s6 : Nat)
    : Int)
  ≤ 9223372036854775807 ∧ Calls Tryz.prog F.errors_New #[.string ((ByteArray.mk #[105, 110, 118, 97, 108, 105, 100, 32, 98, 97, 115, 101, 32]) ++ s6)] w4 fun e8 w7 =>
  ∃ v9 : Value, e8 = .returned (v9) ∧ ∃ c10 : Array Value, Sem.run Tryz.prog (Instr.build Ty.strconv_NumError #[(0, .string fn), (1, .string s3), (2, v9)]) w7 = .ok (.agg c10) w7 ∧
  Nx (w7.alloc (.cells c10 Ty.strconv_NumError)) fun w11 => Q (.pointer (some ⟨w7.heap.size, 0, none⟩)) w11
def A.strconv_baseError : AT := (.seq (.reg []) (.seq (.reg []) .leaf))
theorem W.strconv_baseError_eq (fn : ByteArray) (str : ByteArray) (base : Int) (w : World) (Q : Value → World → Prop) : W.strconv_baseError fn str base w Q = DF Tryz.prog tk A.strconv_baseError Tryz.f72 [.string fn, .string str, .int .i64 base] w Q := by kernel_rfl
theorem W.strconv_baseError_ok (fn : ByteArray) (str : ByteArray) (base : Int) (w : World) (Q : Value → World → Prop) (h : W.strconv_baseError fn str base w Q) : Calls Tryz.prog F.strconv_baseError #[.string fn, .string str, .int .i64 base] w fun e w1 => ∃ v, e = .returned v ∧ Q v w1 :=
  calls_of_DF hmix Tryz.func72 (by kernel_rfl) (Eq.mp (W.strconv_baseError_eq fn str base w Q) h)

/-- strconv.bitSizeError -/
def W.strconv_bitSizeError (fn : ByteArray) (str : ByteArray) (bitSize : Int) (w : World) (Q : Value → World → Prop) : Prop :=
  Calls Tryz.prog F.internal_stringslite_Clone #[.string str] w fun e2 w1 =>
  ∃ s3 : ByteArray, e2 = .returned (.string s3) ∧ Calls Tryz.prog F.strconv_Itoa #[.int .i64 bitSize] w1 fun e5 w4 =>
  ∃ s6 : ByteArray, e5 = .returned (.string s6) ∧ (
    (
      ByteArray.size (ByteArray.mk #[105, 110, 118, 97, 108, 105, 100, 32, 98, 105, 116, 32, 115, 105, 122, 101, 32]) + ByteArray.size s6 : Nat)
    : Int)
  ≤ 9223372036854775807 ∧ Calls Tryz.prog F.errors_New #[.string (
    (ByteArray.mk #[105, 110, 118, 97, 108, 105, 100, 32, 98, 105, 116, 32, 115, 105, 122, 101, 32]) ++ s6)
  ] w4 fun e8 w7 => ∃ v9 : Value, e8 = .returned (v9) ∧ ∃ c10 : Array Value, Sem.run Tryz.prog (Instr.build Ty.strconv_NumError #[(0, .string fn), (1, .string s3), (2, v9)]) w7 = .ok (.agg c10) w7 ∧
  Nx (w7.alloc (.cells c10 Ty.strconv_NumError)) fun w11 => Q (.pointer (some ⟨w7.heap.size, 0, none⟩)) w11
def A.strconv_bitSizeError : AT := (.seq (.reg []) (.seq (.reg []) .leaf))
theorem W.strconv_bitSizeError_eq (fn : ByteArray) (str : ByteArray) (bitSize : Int) (w : World) (Q : Value → World → Prop) : W.strconv_bitSizeError fn str bitSize w Q = DF Tryz.prog tk A.strconv_bitSizeError Tryz.f73 [.string fn, .string str, .int .i64 bitSize] w Q := by kernel_rfl
theorem W.strconv_bitSizeError_ok (fn : ByteArray) (str : ByteArray) (bitSize : Int) (w : World) (Q : Value → World → Prop) (h : W.strconv_bitSizeError fn str bitSize w Q) : Calls Tryz.prog F.strconv_bitSizeError #[.string fn, .string str, .int .i64 bitSize] w fun e w1 => ∃ v, e = .returned v ∧ Q v w1 :=
  calls_of_DF hmix Tryz.func73 (by kernel_rfl) (Eq.mp (W.strconv_bitSizeError_eq fn str bitSize w Q) h)

/-- internal/stringslite.IndexByte -/
def W.internal_stringslite_IndexByte (s : ByteArray) (c : Int) (w : World) (Q : Value → World → Prop) : Prop :=
  ∃ n1 : Int, ∃ w2 : World, Sem.run Tryz.prog (callFunc F.internal_bytealg_IndexByteString #[.string s, .int .u8 c]) w = .ok (.value (.int .i64 n1)) w2 ∧
  Q (.int .i64 n1) w2
def A.internal_stringslite_IndexByte : AT := (.seq (.reg []) (.seq (.reg []) .leaf))
theorem W.internal_stringslite_IndexByte_eq (s : ByteArray) (c : Int) (w : World) (Q : Value → World → Prop) : W.internal_stringslite_IndexByte s c w Q = DF Tryz.prog tk A.internal_stringslite_IndexByte Tryz.f75 [.string s, .int .u8 c] w Q := by kernel_rfl
theorem W.internal_stringslite_IndexByte_ok (s : ByteArray) (c : Int) (w : World) (Q : Value → World → Prop) (h : W.internal_stringslite_IndexByte s c w Q) : Calls Tryz.prog F.internal_stringslite_IndexByte #[.string s, .int .u8 c] w fun e w1 => ∃ v, e = .returned v ∧ Q v w1 :=
  calls_of_DF hmix Tryz.func75 (by kernel_rfl) (Eq.mp (W.internal_stringslite_IndexByte_eq s c w Q) h)

/-- internal/bytealg.Cutover -/
def W.internal_bytealg_Cutover (n : Int) (w : World) (Q : Value → World → Prop) : Prop :=
  (8 : Int) ≠ 0 ∧ Q (.int .i64 (IntKind.wrap .i64 (Int.tdiv (IntKind.wrap .i64 (n + 16)) 8))) w
def A.internal_bytealg_Cutover : AT := (.seq (.reg []) (.seq (.reg []) .leaf))
theorem W.internal_bytealg_Cutover_eq (n : Int) (w : World) (Q : Value → World → Prop) : W.internal_bytealg_Cutover n w Q = DF Tryz.prog tk A.internal_bytealg_Cutover Tryz.f77 [.int .i64 n] w Q := by kernel_rfl
theorem W.internal_bytealg_Cutover_ok (n : Int) (w : World) (Q : Value → World → Prop) (h : W.internal_bytealg_Cutover n w Q) : Calls Tryz.prog F.internal_bytealg_Cutover #[.int .i64 n] w fun e w1 => ∃ v, e = .returned v ∧ Q v w1 :=
  calls_of_DF hmix Tryz.func77 (by kernel_rfl) (Eq.mp (W.internal_bytealg_Cutover_eq n w Q) h)

/-- internal/bytealg.IndexRabinKarp[string] -/
def W.internal_bytealg_IndexRabinKarp_string (s : ByteArray) (sep : ByteArray) (w : World) (Q : Value → World → Prop) : Prop :=
  Calls Tryz.prog F.internal_bytealg_hashStr_string #[.string sep] w fun e2 w1 =>
  ∃ n3 : Int, ∃ n4 : Int, e2 = .returned (.tuple #[.int .u32 n3, .int .u32 n4]) ∧
  ∃ (I5 : Int → Int → World → Prop) (μ6 : Int → Int → World → Nat), I5 0 0 w1 ∧
  ∀ (n7 : Int) (n8 : Int) (w9 : World), I5 n7 n8 w9 → (
    (decide ((n8 : Int) < ((ByteArray.size sep : Nat) : Int))) = true → (0 : Int) ≤ n8 ∧
    ∃ b10 : UInt8, byteAt s (Int.toNat n8) = some b10 ∧ I5 (
      IntKind.wrap .u32 ((IntKind.wrap .u32 (n7 * 16777619)) + (IntKind.wrap .u32 ((b10.toNat : Nat) : Int))))
    (IntKind.wrap .i64 (n8 + 1)) w9 ∧ μ6 (
      IntKind.wrap .u32 ((IntKind.wrap .u32 (n7 * 16777619)) + (IntKind.wrap .u32 ((b10.toNat : Nat) : Int))))
    (IntKind.wrap .i64 (n8 + 1)) w9 < μ6 n7 n8 w9)
  ∧ (
    (decide ((n8 : Int) < ((ByteArray.size sep : Nat) : Int))) = false → Jn (
      fun k11 : Bool → World → Prop => (
        ((n7 : Int) == n3) = true → (
          (0 : Int) ≤ ((ByteArray.size sep : Nat) : Int) ∧ ((ByteArray.size sep : Nat) : Int) ≤ (((ByteArray.size s) : Nat) : Int))
        ∧ k11 (
          ByteArray.toList (ByteArray.extract s 0 (Int.toNat ((ByteArray.size sep : Nat) : Int))) == ByteArray.toList sep)
        w9)
      ∧ (((n7 : Int) == n3) = false → k11 false w9))
    (
      fun (b12 : Bool) (w13 : World) => (b12 = true → Q (.int .i64 0) w13) ∧ (
        b12 = false → ∃ (I14 : Int → Int → World → Prop) (μ15 : Int → Int → World → Nat), I14 n7 ((ByteArray.size sep : Nat) : Int) w13 ∧
        ∀ (n16 : Int) (n17 : Int) (w18 : World), I14 n16 n17 w18 → (
          (decide ((n17 : Int) < ((ByteArray.size s : Nat) : Int))) = true → (0 : Int) ≤ n17 ∧
          ∃ b19 : UInt8, byteAt s (Int.toNat n17) = some b19 ∧ (0 : Int) ≤ (IntKind.wrap .i64 (n17 - ((ByteArray.size sep : Nat) : Int))) ∧
          ∃ b20 : UInt8, byteAt s (Int.toNat (IntKind.wrap .i64 (n17 - ((ByteArray.size sep : Nat) : Int)))) = some b20 ∧
          Jn (
            fun k21 : Bool → World → Prop => (
              (
                (
                  (
                    IntKind.wrap .u32 (
                      (
                        IntKind.wrap .u32 ((IntKind.wrap .u32 (n16 * 16777619)) + (IntKind.wrap .u32 ((b19.toNat : Nat) : Int))))
                      - (IntKind.wrap .u32 (n4 * (IntKind.wrap .u32 ((b20.toNat : Nat) : Int)))))
                    )
                  : Int)
                == n3)
              = true → (
                (0 : Int) ≤ (IntKind.wrap .i64 (n17 + 1)) ∧ (IntKind.wrap .i64 (n17 + 1)) ≤ (((ByteArray.size s) : Nat) : Int))
              ∧ (
                (0 : Int) ≤ (IntKind.wrap .i64 ((IntKind.wrap .i64 (n17 + 1)) - ((ByteArray.size sep : Nat) : Int))) ∧
                (IntKind.wrap .i64 ((IntKind.wrap .i64 (n17 + 1)) - ((ByteArray.size sep : Nat) : Int))) ≤ (((Int.toNat (IntKind.wrap .i64 (n17 + 1))) : Nat) : Int))
              ∧ k21 (
                ByteArray.toList (
                  ByteArray.extract s (Int.toNat (IntKind.wrap .i64 ((IntKind.wrap .i64 (n17 + 1)) - ((ByteArray.size sep : Nat) : Int)))) (Int.toNat (IntKind.wrap .i64 (n17 + 1))))
                == ByteArray.toList sep)
              w18)
            ∧ (
              (
                (
                  (
                    IntKind.wrap .u32 (
                      (
                        IntKind.wrap .u32 ((IntKind.wrap .u32 (n16 * 16777619)) + (IntKind.wrap .u32 ((b19.toNat : Nat) : Int))))
                      - (IntKind.wrap .u32 (n4 * (IntKind.wrap .u32 ((b20.toNat : Nat) : Int)))))
                    )
                  : Int)
                == n3)
              = false → k21 false w18)
            )
          (
            fun (b22 : Bool) (w23 : World) => (
              b22 = true → Q (.int .i64 (IntKind.wrap .i64 ((IntKind.wrap .i64 (n17 + 1)) - ((ByteArray.size sep : Nat) : Int)))) w23)
            ∧ (
              b22 = false → I14 (
                IntKind.wrap .u32 (
                  (
                    IntKind.wrap .u32 ((IntKind.wrap .u32 (n16 * 16777619)) + (IntKind.wrap .u32 ((b19.toNat : Nat) : Int))))
                  - (IntKind.wrap .u32 (n4 * (IntKind.wrap .u32 ((b20.toNat : Nat) : Int)))))
                )
              (IntKind.wrap .i64 (n17 + 1)) w23 ∧ μ15 (
                IntKind.wrap .u32 (
                  (
                    IntKind.wrap .u32 ((IntKind.wrap .u32 (n16 * 16777619)) + (IntKind.wrap .u32 ((b19.toNat : Nat) : Int))))
                  - (IntKind.wrap .u32 (n4 * (IntKind.wrap .u32 ((b20.toNat : Nat) : Int)))))
                )
              (IntKind.wrap .i64 (n17 + 1)) w23 < μ15 n16 n17 w18)
            )
          )
        ∧ ((decide ((n17 : Int) < ((ByteArray.size s : Nat) : Int))) = false → Q (.int .i64 (-1)) w18))
      )
    )
def A.internal_bytealg_IndexRabinKarp_string : AT := (.seq (.reg []) (.seq (.reg []) (.seq (.reg []) (.seq (.reg []) (.seq (.seq (.reg []) (.blk (.loop [(8, (.int .u32)), (9, (.int .i64))] [0, 1, 5, 6, 7] (.seq (.seq (.reg []) (.cond .leaf .leaf)) (.seq (.blk (.reg [])) (.reg [])))))) (.seq (.seq (.reg [.run, .run, .run, .run, .split 5]) (.cond (.seq (.reg []) .leaf) .leaf)) (.seq (.seq (.reg []) (.blk (.loop [(8, (.int .u32)), (10, (.int .i64))] [0, 1, 5, 6, 7] (.seq (.seq (.reg []) (.cond .leaf .leaf)) (.blk (.seq (.reg []) (.seq (.reg []) (.seq (.reg []) (.seq (.reg []) (.seq (.reg [.run, .run, .run, .run, .split 8]) (.cond (.seq (.reg []) .leaf) .leaf))))))))))) (.seq (.reg []) .leaf))))))))
theorem W.internal_bytealg_IndexRabinKarp_string_eq (s : ByteArray) (sep : ByteArray) (w : World) (Q : Value → World → Prop) : W.internal_bytealg_IndexRabinKarp_string s sep w Q = DF Tryz.prog tk A.internal_bytealg_IndexRabinKarp_string Tryz.f78 [.string s, .string sep] w Q := by kernel_rfl
theorem W.internal_bytealg_IndexRabinKarp_string_ok (s : ByteArray) (sep : ByteArray) (w : World) (Q : Value → World → Prop) (h : W.internal_bytealg_IndexRabinKarp_string s sep w Q) : Calls Tryz.prog F.internal_bytealg_IndexRabinKarp_string #[.string s, .string sep] w fun e w1 => ∃ v, e = .returned v ∧ Q v w1 :=
  calls_of_DF hmix Tryz.func78 (by kernel_rfl) (Eq.mp (W.internal_bytealg_IndexRabinKarp_string_eq s sep w Q) h)

/-- internal/strconv.lower -/
def W.internal_strconv_lower (c : Int) (w : World) (Q : Value → World → Prop) : Prop :=
  Q (.int .u8 (bOr .u8 c 32)) w
def A.internal_strconv_lower : AT := (.seq (.reg []) (.seq (.reg []) .leaf))
theorem W.internal_strconv_lower_eq (c : Int) (w : World) (Q : Value → World → Prop) : W.internal_strconv_lower c w Q = DF Tryz.prog tk A.internal_strconv_lower Tryz.f79 [.int .u8 c] w Q := by kernel_rfl
theorem W.internal_strconv_lower_ok (c : Int) (w : World) (Q : Value → World → Prop) (h : W.internal_strconv_lower c w Q) : Calls Tryz.prog F.internal_strconv_lower #[.int .u8 c] w fun e w1 => ∃ v, e = .returned v ∧ Q v w1 :=
  calls_of_DF hmix Tryz.func79 (by kernel_rfl) (Eq.mp (W.internal_strconv_lower_eq c w Q) h)

/-- internal/strconv.underscoreOK -/
def W.internal_strconv_underscoreOK (s : ByteArray) (w : World) (Q : Value → World → Prop) : Prop :=
  Jn (
    fun k1 : ByteArray → World → Prop => Jn (
      fun k2 : Bool → World → Prop => (
        (decide ((((ByteArray.size s : Nat) : Int) : Int) ≥ 1)) = true → (0 : Int) ≤ 0 ∧
        ∃ b3 : UInt8, byteAt s (Int.toNat 0) = some b3 ∧ Jn (
          fun k4 : Bool → World → Prop => (((((b3.toNat : Nat) : Int) : Int) == 45) = true → k4 true w) ∧
          (
            ((((b3.toNat : Nat) : Int) : Int) == 45) = false → (0 : Int) ≤ 0 ∧ ∃ b5 : UInt8, byteAt s (Int.toNat 0) = some b5 ∧
            k4 ((((b5.toNat : Nat) : Int) : Int) == 43) w)
          )
        (fun (b6 : Bool) (w7 : World) => k2 b6 w7))
      ∧ ((decide ((((ByteArray.size s : Nat) : Int) : Int) ≥ 1)) = false → k2 false w))
    (
      fun (b8 : Bool) (w9 : World) => (
        b8 = true → ((0 : Int) ≤ 1 ∧ 1 ≤ (((ByteArray.size s) : Nat) : Int)) ∧ k1 (ByteArray.extract s (Int.toNat 1) (ByteArray.size s)) w9)
      ∧ (b8 = false → k1 s w9))
    )
  (
    fun (s10 : ByteArray) (w11 : World) => Jn (
      fun k12 : Int → Int → Bool → World → Prop => Jn (
        fun k13 : Bool → World → Prop => (
          (decide ((((ByteArray.size s10 : Nat) : Int) : Int) ≥ 2)) = true → (0 : Int) ≤ 0 ∧
          ∃ b14 : UInt8, byteAt s10 (Int.toNat 0) = some b14 ∧ k13 ((((b14.toNat : Nat) : Int) : Int) == 48) w11)
        ∧ ((decide ((((ByteArray.size s10 : Nat) : Int) : Int) ≥ 2)) = false → k13 false w11))
      (
        fun (b15 : Bool) (w16 : World) => Jn (
          fun k17 : Bool → World → Prop => (
            b15 = true → (0 : Int) ≤ 1 ∧ ∃ b18 : UInt8, byteAt s10 (Int.toNat 1) = some b18 ∧
            Calls Tryz.prog F.internal_strconv_lower #[.int .u8 ((b18.toNat : Nat) : Int)] w16 fun e20 w19 =>
            ∃ n21 : Int, e20 = .returned (.int .u8 n21) ∧ Jn (
              fun k22 : Bool → World → Prop => (((n21 : Int) == 98) = true → k22 true w19) ∧
              (
                ((n21 : Int) == 98) = false → (0 : Int) ≤ 1 ∧ ∃ b23 : UInt8, byteAt s10 (Int.toNat 1) = some b23 ∧
                Calls Tryz.prog F.internal_strconv_lower #[.int .u8 ((b23.toNat : Nat) : Int)] w19 fun e25 w24 =>
                ∃ n26 : Int, e25 = .returned (.int .u8 n26) ∧ k22 ((n26 : Int) == 111) w24)
              )
            (
              fun (b27 : Bool) (w28 : World) => Jn (
                fun k29 : Bool → World → Prop => (b27 = true → k29 true w28) ∧ (
                  b27 = false → (0 : Int) ≤ 1 ∧ ∃ b30 : UInt8, byteAt s10 (Int.toNat 1) = some b30 ∧
                  Calls Tryz.prog F.internal_strconv_lower #[.int .u8 ((b30.toNat : Nat) : Int)] w28 fun e32 w31 =>
                  ∃ n33 : Int, e32 = .returned (.int .u8 n33) ∧ k29 ((n33 : Int) == 120) w31)
                )
              (fun (b34 : Bool) (w35 : World) => k17 b34 w35))
            )
          ∧ (b15 = false → k17 false w16))
        (
          fun (b36 : Bool) (w37 : World) => (
            b36 = true → (0 : Int) ≤ 1 ∧ ∃ b38 : UInt8, byteAt s10 (Int.toNat 1) = some b38 ∧
            Calls Tryz.prog F.internal_strconv_lower #[.int .u8 ((b38.toNat : Nat) : Int)] w37 fun e40 w39 =>
            ∃ n41 : Int, e40 = .returned (.int .u8 n41) ∧ k12 48 2 ((n41 : Int) == 120) w39)
          ∧ (b36 = false → k12 94 0 false w37))
        )
      )
    (
      fun (n42 : Int) (n43 : Int) (b44 : Bool) (w45 : World) => ∃ (I46 : Int → Int → World → Prop) (μ47 : Int → Int → World → Nat), I46 n42 n43 w45 ∧
      ∀ (n48 : Int) (n49 : Int) (w50 : World), I46 n48 n49 w50 → (
        (decide ((n49 : Int) < ((ByteArray.size s10 : Nat) : Int))) = true → Jn (
          fun k51 : Int → World → Prop => (0 : Int) ≤ n49 ∧ ∃ b52 : UInt8, byteAt s10 (Int.toNat n49) = some b52 ∧
          Jn (
            fun k53 : Bool → World → Prop => (
              (decide ((48 : Int) ≤ ((b52.toNat : Nat) : Int))) = true → (0 : Int) ≤ n49 ∧
              ∃ b54 : UInt8, byteAt s10 (Int.toNat n49) = some b54 ∧ k53 (decide ((((b54.toNat : Nat) : Int) : Int) ≤ 57)) w50)
            ∧ ((decide ((48 : Int) ≤ ((b52.toNat : Nat) : Int))) = false → k53 false w50))
          (
            fun (b55 : Bool) (w56 : World) => Jn (
              fun k57 : Bool → World → Prop => (b55 = true → k57 true w56) ∧ (
                b55 = false → Jn (
                  fun k58 : Bool → World → Prop => (
                    b44 = true → (0 : Int) ≤ n49 ∧ ∃ b59 : UInt8, byteAt s10 (Int.toNat n49) = some b59 ∧
                    Calls Tryz.prog F.internal_strconv_lower #[.int .u8 ((b59.toNat : Nat) : Int)] w56 fun e61 w60 =>
                    ∃ n62 : Int, e61 = .returned (.int .u8 n62) ∧ k58 (decide ((97 : Int) ≤ n62)) w60)
                  ∧ (b44 = false → k58 false w56))
                (
                  fun (b63 : Bool) (w64 : World) => Jn (
                    fun k65 : Bool → World → Prop => (
                      b63 = true → (0 : Int) ≤ n49 ∧ ∃ b66 : UInt8, byteAt s10 (Int.toNat n49) = some b66 ∧
                      Calls Tryz.prog F.internal_strconv_lower #[.int .u8 ((b66.toNat : Nat) : Int)] w64 fun e68 w67 =>
                      ∃ n69 : Int, e68 = .returned (.int .u8 n69) ∧ k65 (decide ((n69 : Int) ≤ 102)) w67)
                    ∧ (b63 = false → k65 false w64))
                  (fun (b70 : Bool) (w71 : World) => k57 b70 w71))
                )
              )
            (
              fun (b72 : Bool) (w73 : World) => (b72 = true → k51 48 w73) ∧ (
                b72 = false → (0 : Int) ≤ n49 ∧ ∃ b74 : UInt8, byteAt s10 (Int.toNat n49) = some b74 ∧
                (
                  ((((b74.toNat : Nat) : Int) : Int) == 95) = true → (((n48 : Int) != 48) = true → Q (.bool false) w73) ∧
                  (((n48 : Int) != 48) = false → k51 95 w73))
                ∧ (
                  ((((b74.toNat : Nat) : Int) : Int) == 95) = false → (((n48 : Int) == 95) = true → Q (.bool false) w73) ∧
                  (((n48 : Int) == 95) = false → k51 33 w73))
                )
              )
            )
          )
        (
          fun (n75 : Int) (w76 : World) => I46 n75 (IntKind.wrap .i64 (n49 + 1)) w76 ∧
          μ47 n75 (IntKind.wrap .i64 (n49 + 1)) w76 < μ47 n48 n49 w50)
        )
      ∧ (
        (decide ((n49 : Int) < ((ByteArray.size s10 : Nat) : Int))) = false → Q (.bool ((n48 : Int) != 95)) w50)
      )
    )
def A.internal_strconv_underscoreOK : AT := (.seq (.reg []) (.seq (.reg []) (.seq (.reg []) (.seq (.jk [(0, .str)] [3, 4] (.seq (.reg [.run, .run, .run, .run, .split 8, .run, .run, .run, .split 3]) (.cond (.reg []) .leaf))) (.seq (.reg []) (.seq (.jk [(3, (.int .i32)), (4, (.int .i64)), (5, .bool)] [0] (.seq (.reg [.run, .run, .run, .run, .split 3, .run, .run, .run, .run, .split 16, .run, .run, .run, .run, .split 4, .run, .run, .run, .run, .run, .split 4]) (.cond (.seq (.reg []) (.seq (.reg []) (.reg []))) .leaf))) (.seq (.blk (.loop [(3, (.int .i32)), (4, (.int .i64))] [0, 5] (.seq (.seq (.reg []) (.cond .leaf .leaf)) (.seq (.jk [(3, (.int .i32))] [0, 4, 5] (.blk (.seq (.seq (.reg [.run, .run, .run, .run, .run, .split 4, .run, .run, .run, .run, .run, .split 15, .run, .split 5, .run, .run, .run, .run, .run, .run, .split 5]) (.cond (.seq (.reg []) .leaf) .leaf)) (.seq (.seq (.reg []) (.cond (.seq (.seq (.reg []) (.cond (.seq (.reg []) .leaf) .leaf)) (.seq (.reg []) .leaf)) .leaf)) (.seq (.seq (.reg []) (.cond (.seq (.reg []) .leaf) .leaf)) (.reg [])))))) (.reg []))))) (.seq (.reg []) .leaf))))))))
theorem W.internal_strconv_underscoreOK_eq (s : ByteArray) (w : World) (Q : Value → World → Prop) : W.internal_strconv_underscoreOK s w Q = DF Tryz.prog tk A.internal_strconv_underscoreOK Tryz.f80 [.string s] w Q := by kernel_rfl
theorem W.internal_strconv_underscoreOK_ok (s : ByteArray) (w : World) (Q : Value → World → Prop) (h : W.internal_strconv_underscoreOK s w Q) : Calls Tryz.prog F.internal_strconv_underscoreOK #[.string s] w fun e w1 => ∃ v, e = .returned v ∧ Q v w1 :=
  calls_of_DF hmix Tryz.func80 (by kernel_rfl) (Eq.mp (W.internal_strconv_underscoreOK_eq s w Q) h)

/-- internal/strconv.small -/
def W.internal_strconv_small (i : Int) (w : World) (Q : Value → World → Prop) : Prop :=
  (
    (decide ((i : Int) < 10)) = true → (
      (0 : Int) ≤ (IntKind.wrap .i64 (i + 1)) ∧ (IntKind.wrap .i64 (i + 1)) ≤ (
        (
          (
            ByteArray.size (
              ByteArray.mk #[48, 49, 50, 51, 52, 53, 54, 55, 56, 57, 97, 98, 99, 100, 101, 102, 103, 104, 105, 106, 107, 108, 109, 110, 111, 112, 113, 114, 115, 116, 117, 118, 119, 120, 121, 122])
            )
          : Nat)
        : Int)
      )
    ∧ ((0 : Int) ≤ i ∧ i ≤ (((Int.toNat (IntKind.wrap .i64 (i + 1))) : Nat) : Int)) ∧
    Q (
      .string (
        ByteArray.extract (
          ByteArray.mk #[48, 49, 50, 51, 52, 53, 54, 55, 56, 57, 97, 98, 99, 100, 101, 102, 103, 104, 105, 106, 107, 108, 109, 110, 111, 112, 113, 114, 115, 116, 117, 118, 119, 120, 121, 122])
        (Int.toNat i) (Int.toNat (IntKind.wrap .i64 (i + 1))))
      )
    w)
  ∧ (
    (decide ((i : Int) < 10)) = false → (
      (0 : Int) ≤ (IntKind.wrap .i64 ((IntKind.wrap .i64 (i * 2)) + 2)) ∧ (IntKind.wrap .i64 ((IntKind.wrap .i64 (i * 2)) + 2)) ≤ (
        (
          (
            ByteArray.size (
              ByteArray.mk #[48, 48, 48, 49, 48, 50, 48, 51, 48, 52, 48, 53, 48, 54, 48, 55, 48, 56, 48, 57, 49, 48, 49, 49, 49, 50, 49, 51, 49, 52, 49, 53, 49, 54, 49, 55, 49, 56, 49, 57, 50, 48, 50, 49, 50, 50, 50, 51, 50, 52, 50, 53, 50, 54, 50, 55, 50, 56, 50, 57, 51, 48, 51, 49, 51, 50, 51, 51, 51, 52, 51, 53, 51, 54, 51, 55, 51, 56, 51, 57, 52, 48, 52, 49, 52, 50, 52, 51, 52, 52, 52, 53, 52, 54, 52, 55, 52, 56, 52, 57, 53, 48, 53, 49, 53, 50, 53, 51, 53, 52, 53, 53, 53, 54, 53, 55, 53, 56, 53, 57, 54, 48, 54, 49, 54, 50, 54, 51, 54, 52, 54, 53, 54, 54, 54, 55, 54, 56, 54, 57, 55, 48, 55, 49, 55, 50, 55, 51, 55, 52, 55, 53, 55, 54, 55, 55, 55, 56, 55, 57, 56, 48, 56, 49, 56, 50, 56, 51, 56, 52, 56, 53, 56, 54, 56, 55, 56, 56, 56, 57, 57, 48, 57, 49, 57, 50, 57, 51, 57, 52, 57, 53, 57, 54, 57, 55, 57, 56, 57, 57])
            )
          : Nat)
        : Int)
      )
    ∧ (
      (0 : Int) ≤ (IntKind.wrap .i64 (i * 2)) ∧ (IntKind.wrap .i64 (i * 2)) ≤ (((Int.toNat (IntKind.wrap .i64 ((IntKind.wrap .i64 (i * 2)) + 2))) : Nat) : Int))
    ∧ Q (
      .string (
        ByteArray.extract (
          ByteArray.mk #[48, 48, 48, 49, 48, 50, 48, 51, 48, 52, 48, 53, 48, 54, 48, 55, 48, 56, 48, 57, 49, 48, 49, 49, 49, 50, 49, 51, 49, 52, 49, 53, 49, 54, 49, 55, 49, 56, 49, 57, 50, 48, 50, 49, 50, 50, 50, 51, 50, 52, 50, 53, 50, 54, 50, 55, 50, 56, 50, 57, 51, 48, 51, 49, 51, 50, 51, 51, 51, 52, 51, 53, 51, 54, 51, 55, 51, 56, 51, 57, 52, 48, 52, 49, 52, 50, 52, 51, 52, 52, 52, 53, 52, 54, 52, 55, 52, 56, 52, 57, 53, 48, 53, 49, 53, 50, 53, 51, 53, 52, 53, 53, 53, 54, 53, 55, 53, 56, 53, 57, 54, 48, 54, 49, 54, 50, 54, 51, 54, 52, 54, 53, 54, 54, 54, 55, 54, 56, 54, 57, 55, 48, 55, 49, 55, 50, 55, 51, 55, 52, 55, 53, 55, 54, 55, 55, 55, 56, 55, 57, 56, 48, 56, 49, 56, 50, 56, 51, 56, 52, 56, 53, 56, 54, 56, 55, 56, 56, 56, 57, 57, 48, 57, 49, 57, 50, 57, 51, 57, 52, 57, 53, 57, 54, 57, 55, 57, 56, 57, 57])
        (Int.toNat (IntKind.wrap .i64 (i * 2))) (Int.toNat (IntKind.wrap .i64 ((IntKind.wrap .i64 (i * 2)) + 2))))
      )
    w)
def A.internal_strconv_small : AT := (.seq (.reg []) (.seq (.seq (.reg []) (.cond (.seq (.reg []) .leaf) .leaf)) (.seq (.reg []) .leaf)))
theorem W.internal_strconv_small_eq (i : Int) (w : World) (Q : Value → World → Prop) : W.internal_strconv_small i w Q = DF Tryz.prog tk A.internal_strconv_small Tryz.f81 [.int .i64 i] w Q := by kernel_rfl
theorem W.internal_strconv_small_ok (i : Int) (w : World) (Q : Value → World → Prop) (h : W.internal_strconv_small i w Q) : Calls Tryz.prog F.internal_strconv_small #[.int .i64 i] w fun e w1 => ∃ v, e = .returned v ∧ Q v w1 :=
  calls_of_DF hmix Tryz.func81 (by kernel_rfl) (Eq.mp (W.internal_strconv_small_eq i w Q) h)

/-- internal/strconv.numDigits -/
def W.internal_strconv_numDigits (d : Int) (w : World) (Q : Value → World → Prop) : Prop :=
  Calls Tryz.prog F.math_bits_Len64 #[.int .u64 d] w fun e2 w1 => ∃ n3 : Int, e2 = .returned (.int .i64 n3) ∧
  Calls Tryz.prog F.internal_strconv_log10Pow2 #[.int .i64 n3] w1 fun e5 w4 =>
  ∃ n6 : Int, e5 = .returned (.int .i64 n6) ∧ ((0 : Int) ≤ n6 ∧ n6 < ((20 : Nat) : Int)) ∧
  ∃ n7 : Int, w4.cell? (Addr.add ⟨3, 0, none⟩ (Int.toNat n6 * 1)) = some (.int .u64 n7) ∧
  Calls Tryz.prog F.internal_strconv_bool2_int #[.bool (decide ((d : Int) ≥ n7))] w4 fun e9 w8 =>
  ∃ n10 : Int, e9 = .returned (.int .i64 n10) ∧ Q (.int .i64 (IntKind.wrap .i64 (n6 + n10))) w8
def A.internal_strconv_numDigits : AT := (.seq (.reg []) (.seq (.reg []) (.seq (.reg []) .leaf)))
theorem W.internal_strconv_numDigits_eq (d : Int) (w : World) (Q : Value → World → Prop) : W.internal_strconv_numDigits d w Q = DF Tryz.prog tk A.internal_strconv_numDigits Tryz.f82 [.int .u64 d] w Q := by kernel_rfl
theorem W.internal_strconv_numDigits_ok (d : Int) (w : World) (Q : Value → World → Prop) (h : W.internal_strconv_numDigits d w Q) : Calls Tryz.prog F.internal_strconv_numDigits #[.int .u64 d] w fun e w1 => ∃ v, e = .returned v ∧ Q v w1 :=
  calls_of_DF hmix Tryz.func82 (by kernel_rfl) (Eq.mp (W.internal_strconv_numDigits_eq d w Q) h)

end Go.Proofs.YtcjpgabpihkcjaaGreatDoor
