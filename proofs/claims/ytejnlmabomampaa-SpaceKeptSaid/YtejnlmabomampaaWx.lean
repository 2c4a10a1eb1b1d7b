/- Printed by gen.py: each function of the program as what must be shown of it. -/
import Derived.Test.YtejnlmabomampaaGb
namespace Go.Proofs.Ytejnlmabomampaa
open Go Gx
set_option maxRecDepth 100000
/-- stanchion/stanchionlaw06.SpaceAll -/
def W.law06_SpaceAll (n : Int) (first : Int) (w : World) (Q : Value → World → Prop) : Prop :=
  ((IntKind.wrap .i64 ((IntKind.wrap .i64 (1 + (IntKind.wrap .i64 n))) + 1)) : Int) ≠ 0 ∧
  Calls Try.prog F.space_New #[.int .i64 (IntKind.wrap .i64 (1 + (IntKind.wrap .i64 n))), .int .i64 (
    Int.tmod (IntKind.wrap .i64 first) (IntKind.wrap .i64 ((IntKind.wrap .i64 (1 + (IntKind.wrap .i64 n))) + 1)))
  ] w fun e2 w1 => ∃ p3 : Option Addr, ∃ n4 : Int, e2 = .returned (.tuple #[.pointer p3, .int .i64 n4]) ∧
  Jn (
    fun k5 : Bool → World → Prop => (((Option.isNone p3) || ((n4 : Int) != 0)) = true → k5 true w1) ∧
    (
      ((Option.isNone p3) || ((n4 : Int) != 0)) = false → Calls Try.prog F.space_Space_Room #[.pointer p3] w1 fun e7 w6 =>
      ∃ n8 : Int, e7 = .returned (.int .i64 n8) ∧ k5 (
        (n8 : Int) != (
          IntKind.wrap .i64 (
            (IntKind.wrap .i64 (1 + (IntKind.wrap .i64 n))) - (
              Int.tmod (IntKind.wrap .i64 first) (IntKind.wrap .i64 ((IntKind.wrap .i64 (1 + (IntKind.wrap .i64 n))) + 1)))
            )
          )
        )
      w6)
    )
  (
    fun (b9 : Bool) (w10 : World) => (b9 = true → Q (.bool false) w10) ∧ (
      b9 = false → ∃ (I11 : Int → World → Prop) (μ12 : Int → World → Nat), I11 (
        Int.tmod (IntKind.wrap .i64 first) (IntKind.wrap .i64 ((IntKind.wrap .i64 (1 + (IntKind.wrap .i64 n))) + 1)))
      w10 ∧ ∀ (n13 : Int) (w14 : World), I11 n13 w14 → (
        (decide ((n13 : Int) < (IntKind.wrap .i64 (1 + (IntKind.wrap .i64 n))))) = true →
        Calls Try.prog F.space_Space_Alloc #[.pointer p3] w14 fun e16 w15 => ∃ n17 : Int, ∃ n18 : Int, e16 = .returned (.tuple #[.int .i64 n17, .int .i64 n18]) ∧
        ((((n17 : Int) != n13) || ((n18 : Int) != 0)) = true → Q (.bool false) w15) ∧
        (
          (((n17 : Int) != n13) || ((n18 : Int) != 0)) = false → I11 (IntKind.wrap .i64 (n13 + 1)) w15 ∧
          μ12 (IntKind.wrap .i64 (n13 + 1)) w15 < μ12 n13 w14)
        )
      ∧ (
        (decide ((n13 : Int) < (IntKind.wrap .i64 (1 + (IntKind.wrap .i64 n))))) = false →
        Calls Try.prog F.space_Space_Alloc #[.pointer p3] w14 fun e20 w19 => ∃ n21 : Int, ∃ n22 : Int, e20 = .returned (.tuple #[.int .i64 n21, .int .i64 n22]) ∧
        Jn (
          fun k23 : Bool → World → Prop => (
            (((n21 : Int) == (-1)) && ((n22 : Int) == 2)) = true → Calls Try.prog F.space_Space_Room #[.pointer p3] w19 fun e25 w24 =>
            ∃ n26 : Int, e25 = .returned (.int .i64 n26) ∧ k23 ((n26 : Int) == 0) w24)
          ∧ ((((n21 : Int) == (-1)) && ((n22 : Int) == 2)) = false → k23 false w19))
        (
          fun (b27 : Bool) (w28 : World) => Jn (
            fun k29 : Bool → World → Prop => (
              b27 = true → Calls Try.prog F.law06_lives #[] w28 fun e31 w30 => ∃ b32 : Bool, e31 = .returned (.bool b32) ∧
              k29 b32 w30)
            ∧ (b27 = false → k29 false w28))
          (fun (b33 : Bool) (w34 : World) => Q (.bool b33) w34))
        )
      )
    )
def A.law06_SpaceAll : AT := (.seq (.reg []) (.seq (.reg []) (.seq (.reg []) (.seq (.reg []) (.seq (.seq (.reg [.run, .run, .run, .pure 2, .run, .run, .run, .split 6]) (.cond (.seq (.reg []) .leaf) .leaf)) (.seq (.seq (.reg []) (.blk (.loop [(9, (.int .i64))] [5, 7] (.seq (.seq (.reg []) (.cond .leaf .leaf)) (.seq (.blk (.seq (.reg []) (.seq (.reg [.run, .run, .run, .run, .pure 2]) (.cond (.seq (.reg []) .leaf) .leaf)))) (.reg [])))))) (.seq (.reg []) (.seq (.reg [.run, .run, .run, .pure 2, .run, .run, .run, .split 3, .run, .run, .run, .run, .split 1]) .leaf))))))))
theorem W.law06_SpaceAll_eq (n : Int) (first : Int) (w : World) (Q : Value → World → Prop) : W.law06_SpaceAll n first w Q = DF Try.prog tk A.law06_SpaceAll Try.f3 [.int .u8 n, .int .u8 first] w Q := by kernel_rfl
theorem W.law06_SpaceAll_ok (n : Int) (first : Int) (w : World) (Q : Value → World → Prop) (h : W.law06_SpaceAll n first w Q) : Calls Try.prog F.law06_SpaceAll #[.int .u8 n, .int .u8 first] w fun e w1 => ∃ v, e = .returned v ∧ Q v w1 :=
  calls_of_DF hmix Try.func3 (by kernel_rfl) (Eq.mp (W.law06_SpaceAll_eq n first w Q) h)

/-- stanchion/stanchionlaw22.ConnNexts -/
def W.law22_ConnNexts (state : Int) (flags : Int) (client : Bool) (w : World) (Q : Value → World → Prop) : Prop :=
  Calls Try.prog F.conn_Next #[.int .i64 state, .int .u8 flags, .bool client] w fun e2 w1 =>
  ∃ n3 : Int, e2 = .returned (.int .i64 n3) ∧ Calls Try.prog F.ref22_Next #[.int .i64 state, .int .u8 flags, .bool client] w1 fun e5 w4 =>
  ∃ n6 : Int, e5 = .returned (.int .i64 n6) ∧ Jn (
    fun k7 : Bool → World → Prop => (
      ((n3 : Int) == n6) = true → Calls Try.prog F.law22_lives #[] w4 fun e9 w8 =>
      ∃ b10 : Bool, e9 = .returned (.bool b10) ∧ k7 b10 w8)
    ∧ (((n3 : Int) == n6) = false → k7 false w4))
  (fun (b11 : Bool) (w12 : World) => Q (.bool b11) w12)
def A.law22_ConnNexts : AT := (.seq (.reg []) (.seq (.reg [.run, .run, .run, .run, .run, .run, .run, .run, .run, .run, .split 1]) .leaf))
theorem W.law22_ConnNexts_eq (state : Int) (flags : Int) (client : Bool) (w : World) (Q : Value → World → Prop) : W.law22_ConnNexts state flags client w Q = DF Try.prog tk A.law22_ConnNexts Try.f4 [.int .i64 state, .int .u8 flags, .bool client] w Q := by kernel_rfl
theorem W.law22_ConnNexts_ok (state : Int) (flags : Int) (client : Bool) (w : World) (Q : Value → World → Prop) (h : W.law22_ConnNexts state flags client w Q) : Calls Try.prog F.law22_ConnNexts #[.int .i64 state, .int .u8 flags, .bool client] w fun e w1 => ∃ v, e = .returned v ∧ Q v w1 :=
  calls_of_DF hmix Try.func4 (by kernel_rfl) (Eq.mp (W.law22_ConnNexts_eq state flags client w Q) h)

/-- stanchion/stanchionlaw22.ConnLasts -/
def W.law22_ConnLasts (state : Int) (w : World) (Q : Value → World → Prop) : Prop :=
  Calls Try.prog F.conn_Lasts #[.int .i64 state] w fun e2 w1 => ∃ n3 : Int, e2 = .returned (.int .u64 n3) ∧
  Calls Try.prog F.ref22_Lasts #[.int .i64 state] w1 fun e5 w4 => ∃ n6 : Int, e5 = .returned (.int .u64 n6) ∧
  Jn (
    fun k7 : Bool → World → Prop => (
      ((n3 : Int) == n6) = true → Calls Try.prog F.conn_Open #[.int .i64 state] w4 fun e9 w8 =>
      ∃ b10 : Bool, e9 = .returned (.bool b10) ∧ k7 (b10 == (((decide ((state : Int) ≥ 1)) && (decide ((state : Int) ≤ 6))) && ((state : Int) != 5))) w8)
    ∧ (((n3 : Int) == n6) = false → k7 false w4))
  (
    fun (b11 : Bool) (w12 : World) => Jn (
      fun k13 : Bool → World → Prop => (
        b11 = true → Calls Try.prog F.conn_UDP #[.int .i64 state] w12 fun e15 w14 =>
        ∃ n16 : Int, e15 = .returned (.int .i64 n16) ∧ k13 ((n16 : Int) == 6) w14)
      ∧ (b11 = false → k13 false w12))
    (
      fun (b17 : Bool) (w18 : World) => Jn (
        fun k19 : Bool → World → Prop => (
          b17 = true → Calls Try.prog F.law22_lives #[] w18 fun e21 w20 => ∃ b22 : Bool, e21 = .returned (.bool b22) ∧
          k19 b22 w20)
        ∧ (b17 = false → k19 false w18))
      (fun (b23 : Bool) (w24 : World) => Q (.bool b23) w24))
    )
def A.law22_ConnLasts : AT := (.seq (.reg []) (.seq (.reg [.run, .run, .run, .run, .run, .run, .split 13, .run, .run, .run, .run, .pure 2, .run, .run, .run, .pure 2, .run, .run, .run, .run, .run, .split 3, .run, .run, .run, .run, .split 1]) .leaf))
theorem W.law22_ConnLasts_eq (state : Int) (w : World) (Q : Value → World → Prop) : W.law22_ConnLasts state w Q = DF Try.prog tk A.law22_ConnLasts Try.f5 [.int .i64 state] w Q := by kernel_rfl
theorem W.law22_ConnLasts_ok (state : Int) (w : World) (Q : Value → World → Prop) (h : W.law22_ConnLasts state w Q) : Calls Try.prog F.law22_ConnLasts #[.int .i64 state] w fun e w1 => ∃ v, e = .returned v ∧ Q v w1 :=
  calls_of_DF hmix Try.func5 (by kernel_rfl) (Eq.mp (W.law22_ConnLasts_eq state w Q) h)

/-- stanchion/stanchionlaw22.ConnWalks -/
def W.law22_ConnWalks (l : Sl) (who : Sl) (w : World) (Q : Value → World → Prop) : Prop :=
  ∃ (I1 : Int → Int → Int → World → Prop) (μ2 : Int → Int → Int → World → Nat), I1 0 0 0 w ∧
  ∀ (n3 : Int) (n4 : Int) (n5 : Int) (w6 : World), I1 n3 n4 n5 w6 → (
    ((decide ((n5 : Int) < ((l.len : Nat) : Int))) && (decide ((n5 : Int) < 60))) = true →
    Jn (
      fun k7 : Bool → World → Prop => (
        (decide ((n5 : Int) < ((who.len : Nat) : Int))) = true → ∃ a8 : Addr, who.a = some a8 ∧
        ((0 : Int) ≤ n5 ∧ n5 < ((who.len : Nat) : Int)) ∧ ∃ b9 : Bool, w6.cell? (a8.add (Int.toNat n5 * 1)) = some (.bool b9) ∧
        k7 b9 w6)
      ∧ ((decide ((n5 : Int) < ((who.len : Nat) : Int))) = false → k7 false w6))
    (
      fun (b10 : Bool) (w11 : World) => Nx (w11.drew) fun w12 => ∃ W13 : Nat → Prop, ∃ a14 : Addr, l.a = some a14 ∧
      ((0 : Int) ≤ n5 ∧ n5 < ((l.len : Nat) : Int)) ∧ ¬ W13 (a14.add (Int.toNat n5 * 1)).block ∧
      ∃ n15 : Int, w12.cell? (a14.add (Int.toNat n5 * 1)) = some (.int .u8 n15) ∧
      ∃ a16 : Addr, l.a = some a16 ∧ ((0 : Int) ≤ n5 ∧ n5 < ((l.len : Nat) : Int)) ∧
      ¬ W13 (a16.add (Int.toNat n5 * 1)).block ∧ ∃ n17 : Int, w12.cell? (a16.add (Int.toNat n5 * 1)) = some (.int .u8 n17) ∧
      Calls Try.prog F.conn_Next #[.int .i64 n3, .int .u8 n15, .bool b10] w12 fun e19 w18 =>
      ∃ n20 : Int, e19 = .returned (.int .i64 n20) ∧ Chg W13 w12 w18 ∧ Calls Try.prog F.ref22_Next #[.int .i64 n4, .int .u8 n17, .bool b10] w18 fun e22 w21 =>
      ∃ n23 : Int, e22 = .returned (.int .i64 n23) ∧ Jn (
        fun k24 : Bool → World → Prop => (
          b10 = true → ∃ a25 : Addr, l.a = some a25 ∧ ((0 : Int) ≤ n5 ∧ n5 < ((l.len : Nat) : Int)) ∧
          ∃ n26 : Int, w21.cell? (a25.add (Int.toNat n5 * 1)) = some (.int .u8 n26) ∧
          (2 : Int) ≠ 0 ∧ (2 : Int) ≠ 0 ∧ k24 (((Int.tmod (IntKind.wrap .u8 (Int.tdiv n26 2)) 2) : Int) == 1) w21)
        ∧ (b10 = false → k24 false w21))
      (
        fun (b27 : Bool) (w28 : World) => Jn (
          fun k29 : Bool → World → Prop => (
            b27 = true → ∃ a30 : Addr, l.a = some a30 ∧ ((0 : Int) ≤ n5 ∧ n5 < ((l.len : Nat) : Int)) ∧
            ∃ n31 : Int, w28.cell? (a30.add (Int.toNat n5 * 1)) = some (.int .u8 n31) ∧
            (4 : Int) ≠ 0 ∧ (2 : Int) ≠ 0 ∧ k29 (((Int.tmod (IntKind.wrap .u8 (Int.tdiv n31 4)) 2) : Int) == 0) w28)
          ∧ (b27 = false → k29 false w28))
        (
          fun (b32 : Bool) (w33 : World) => Jn (
            fun k34 : Bool → World → Prop => (
              b32 = true → ∃ a35 : Addr, l.a = some a35 ∧ ((0 : Int) ≤ n5 ∧ n5 < ((l.len : Nat) : Int)) ∧
              ∃ n36 : Int, w33.cell? (a35.add (Int.toNat n5 * 1)) = some (.int .u8 n36) ∧
              (16 : Int) ≠ 0 ∧ (2 : Int) ≠ 0 ∧ k34 (((Int.tmod (IntKind.wrap .u8 (Int.tdiv n36 16)) 2) : Int) == 0) w33)
            ∧ (b32 = false → k34 false w33))
          (
            fun (b37 : Bool) (w38 : World) => (
              (
                ((((n20 : Int) != n23) || (decide ((n20 : Int) < 0))) || (decide ((n20 : Int) > 5))) || ((((n3 : Int) == 5) && ((n20 : Int) != 5)) && (!b37)))
              = true → Q (.bool false) w38)
            ∧ (
              (
                ((((n20 : Int) != n23) || (decide ((n20 : Int) < 0))) || (decide ((n20 : Int) > 5))) || ((((n3 : Int) == 5) && ((n20 : Int) != 5)) && (!b37)))
              = false → I1 n20 n23 (IntKind.wrap .i64 (n5 + 1)) w38 ∧ μ2 n20 n23 (IntKind.wrap .i64 (n5 + 1)) w38 < μ2 n3 n4 n5 w6)
            )
          )
        )
      )
    )
  ∧ (
    ((decide ((n5 : Int) < ((l.len : Nat) : Int))) && (decide ((n5 : Int) < 60))) = false →
    Calls Try.prog F.law22_lives #[] w6 fun e40 w39 => ∃ b41 : Bool, e40 = .returned (.bool b41) ∧
    Q (.bool b41) w39)
def A.law22_ConnWalks : AT := (.seq (.reg []) (.seq (.reg []) (.seq (.seq (.reg []) (.blk (.loop [(5, (.int .i64)), (6, (.int .i64)), (7, (.int .i64))] [0, 1] (.seq (.seq (.reg [.run, .run, .run, .run, .run, .pure 2]) (.cond .leaf .leaf)) (.seq (.blk (.seq (.reg [.run, .run, .run, .run, .run, .split 4]) (.seq (.reg []) (.seq (.drw 13 true ⟨[0, 0, 0, 6, 8, 0, 49, 0, 0, 0, 768, 1024, 0, 6336, 8319, 32767], [0, 0, 0, 6, 8, 0, 49, 0, 0, 0, 768, 1024, 0, 6272, 65, 8320]⟩ [4294967296, 8589934592, 17179869184, 34359738368, 68719476736, 137438953472, 274877906944, 549755813888, 1099511627776, 2199023255552, 4398046511104, 8796093022208, 17592186044416, 35184372088832, 32, 64] [32, 1, 128, 25769803776, 34359738368, 256, 210453397504, 64, 1, 128, 3298534883328, 4398046511104, 256, 26938034880512, 274877906944, 35184372088832] (.take 0 (.take 1 (.take 2 (.take 3 (.take 4 (.take 5 (.take 7 (.take 8 (.take 9 (.take 10 (.take 11 (.take 12 (.eff 6 (.tail [.run, .run, .run]))))))))))))))) (.seq (.reg [.run, .run, .split 7, .run, .run, .run, .run, .run, .run, .run, .run, .split 7, .run, .run, .run, .run, .run, .run, .run, .run, .split 7]) (.seq (.reg [.run, .run, .run, .run, .pure 2, .run, .run, .run, .pure 2, .run, .run, .run, .pure 10, .run, .run, .pure 2, .run, .run, .run, .pure 2]) (.cond (.seq (.reg []) .leaf) .leaf))))))) (.reg [])))))) (.seq (.reg []) .leaf))))
theorem W.law22_ConnWalks_eq (l : Sl) (who : Sl) (w : World) (Q : Value → World → Prop) : W.law22_ConnWalks l who w Q = DF Try.prog tk A.law22_ConnWalks Try.f6 [.slice l.a l.len l.cap, .slice who.a who.len who.cap] w Q := by kernel_rfl
theorem W.law22_ConnWalks_ok (l : Sl) (who : Sl) (w : World) (Q : Value → World → Prop) (h : W.law22_ConnWalks l who w Q) : Calls Try.prog F.law22_ConnWalks #[.slice l.a l.len l.cap, .slice who.a who.len who.cap] w fun e w1 => ∃ v, e = .returned v ∧ Q v w1 :=
  calls_of_DF hmix Try.func6 (by kernel_rfl) (Eq.mp (W.law22_ConnWalks_eq l who w Q) h)

/-- stanchion/stanchionlaw06.SpaceKept -/
def W.law06_SpaceKept (l : Sl) (w : World) (Q : Value → World → Prop) : Prop :=
  Calls Try.prog F.space_New #[.int .i64 60, .int .i64 3] w fun e2 w1 => ∃ p3 : Option Addr, ∃ n4 : Int, e2 = .returned (.tuple #[.pointer p3, .int .i64 n4]) ∧
  (((Option.isNone p3) || ((n4 : Int) != 0)) = true → Q (.bool false) w1) ∧
  (
    ((Option.isNone p3) || ((n4 : Int) != 0)) = false → ∃ c5 : Array Value, Sem.run Try.prog (Instr.build Ty.n60_bool #[(0, .bool true), (1, .bool true), (2, .bool true)]) w1 = .ok (.agg c5) w1 ∧
    ∃ c6 : Array Value, Sem.run Try.prog (Instr.build Ty.n60_bool #[(0, .bool true), (1, .bool true), (2, .bool true)]) w1 = .ok (.agg c6) w1 ∧
    Nx (
      w1.alloc (
        .cells #[.bool false, .bool false, .bool false, .bool false, .bool false, .bool false, .bool false, .bool false, .bool false, .bool false, .bool false, .bool false, .bool false, .bool false, .bool false, .bool false, .bool false, .bool false, .bool false, .bool false, .bool false, .bool false, .bool false, .bool false, .bool false, .bool false, .bool false, .bool false, .bool false, .bool false, .bool false, .bool false, .bool false, .bool false, .bool false, .bool false, .bool false, .bool false, .bool false, .bool false, .bool false, .bool false, .bool false, .bool false, .bool false, .bool false, .bool false, .bool false, .bool false, .bool false, .bool false, .bool false, .bool false, .bool false, .bool false, .bool false, .bool false, .bool false, .bool false, .bool false] Ty.n60_bool)
      )
    fun w7 => Nx (
      w7.alloc (
        .cells #[.bool false, .bool false, .bool false, .bool false, .bool false, .bool false, .bool false, .bool false, .bool false, .bool false, .bool false, .bool false, .bool false, .bool false, .bool false, .bool false, .bool false, .bool false, .bool false, .bool false, .bool false, .bool false, .bool false, .bool false, .bool false, .bool false, .bool false, .bool false, .bool false, .bool false, .bool false, .bool false, .bool false, .bool false, .bool false, .bool false, .bool false, .bool false, .bool false, .bool false, .bool false, .bool false, .bool false, .bool false, .bool false, .bool false, .bool false, .bool false, .bool false, .bool false, .bool false, .bool false, .bool false, .bool false, .bool false, .bool false, .bool false, .bool false, .bool false, .bool false] Ty.n60_bool)
      )
    fun w8 => StoreOk w8 ⟨w1.heap.size, 0, none⟩ (Array.toList c5) ∧ Array.size c5 = 60 ∧
    Nx (setCells w8 ⟨w1.heap.size, 0, none⟩ 0 (Array.toList c5)) fun w9 => StoreOk w9 ⟨w7.heap.size, 0, none⟩ (Array.toList c6) ∧
    Array.size c6 = 60 ∧ Nx (setCells w9 ⟨w7.heap.size, 0, none⟩ 0 (Array.toList c6)) fun w10 =>
    ∃ (I11 : Int → World → Prop) (μ12 : Int → World → Nat), I11 0 w10 ∧ ∀ (n13 : Int) (w14 : World), I11 n13 w14 →
    (
      ((decide ((n13 : Int) < ((l.len : Nat) : Int))) && (decide ((n13 : Int) < 80))) = true →
      Jn (
        fun k15 : World → Prop => ∃ a16 : Addr, l.a = some a16 ∧ ((0 : Int) ≤ n13 ∧ n13 < ((l.len : Nat) : Int)) ∧
        ∃ n17 : Int, w14.cell? (a16.add (Int.toNat n13 * 2)) = some (.int .i64 n17) ∧
        (
          ((n17 : Int) == 1) = true → ∃ a18 : Addr, l.a = some a18 ∧ ((0 : Int) ≤ n13 ∧ n13 < ((l.len : Nat) : Int)) ∧
          ∃ n19 : Int, w14.cell? ((a18.add (Int.toNat n13 * 2)).add 1) = some (.int .i64 n19) ∧
          Calls Try.prog F.space_Space_Free #[.pointer p3, .int .i64 n19] w14 fun e21 w20 =>
          ∃ n22 : Int, e21 = .returned (.int .i64 n22) ∧ (
            ((n22 : Int) == 0) = true → ∃ a23 : Addr, l.a = some a23 ∧ ((0 : Int) ≤ n13 ∧ n13 < ((l.len : Nat) : Int)) ∧
            ∃ n24 : Int, w20.cell? ((a23.add (Int.toNat n13 * 2)).add 1) = some (.int .i64 n24) ∧
            Jn (
              fun k25 : Bool → World → Prop => ((decide ((n24 : Int) < 0)) = true → k25 true w20) ∧
              (
                (decide ((n24 : Int) < 0)) = false → ∃ a26 : Addr, l.a = some a26 ∧ ((0 : Int) ≤ n13 ∧ n13 < ((l.len : Nat) : Int)) ∧
                ∃ n27 : Int, w20.cell? ((a26.add (Int.toNat n13 * 2)).add 1) = some (.int .i64 n27) ∧
                k25 (decide ((n27 : Int) ≥ 60)) w20)
              )
            (
              fun (b28 : Bool) (w29 : World) => Jn (
                fun k30 : Bool → World → Prop => (b28 = true → k30 true w29) ∧ (
                  b28 = false → ∃ a31 : Addr, l.a = some a31 ∧ ((0 : Int) ≤ n13 ∧ n13 < ((l.len : Nat) : Int)) ∧
                  ∃ n32 : Int, w29.cell? ((a31.add (Int.toNat n13 * 2)).add 1) = some (.int .i64 n32) ∧
                  ((0 : Int) ≤ n32 ∧ n32 < ((60 : Nat) : Int)) ∧ ∃ b33 : Bool, w29.cell? (Addr.add ⟨w7.heap.size, 0, none⟩ (Int.toNat n32 * 1)) = some (.bool b33) ∧
                  k30 (!b33) w29)
                )
              (
                fun (b34 : Bool) (w35 : World) => (b34 = true → Q (.bool false) w35) ∧ (
                  b34 = false → ∃ a36 : Addr, l.a = some a36 ∧ ((0 : Int) ≤ n13 ∧ n13 < ((l.len : Nat) : Int)) ∧
                  ∃ n37 : Int, w35.cell? ((a36.add (Int.toNat n13 * 2)).add 1) = some (.int .i64 n37) ∧
                  ((0 : Int) ≤ n37 ∧ n37 < ((60 : Nat) : Int)) ∧ (∃ u : Value, w35.cell? (Addr.add ⟨w7.heap.size, 0, none⟩ (Int.toNat n37 * 1)) = some u) ∧
                  w35.frozen? (Addr.add ⟨w7.heap.size, 0, none⟩ (Int.toNat n37 * 1)) = false ∧
                  Nx (w35.setCell (Addr.add ⟨w7.heap.size, 0, none⟩ (Int.toNat n37 * 1)) (.bool false)) fun w38 =>
                  k15 w38)
                )
              )
            )
          ∧ (((n22 : Int) == 0) = false → k15 w20))
        ∧ (
          ((n17 : Int) == 1) = false → (
            ((n17 : Int) == 2) = true → Calls Try.prog F.space_Space_Commit #[.pointer p3] w14 fun e40 w39 =>
            e40 = .returned (.tuple #[]) ∧ ∃ l41 : List Value, rdCells w39 ⟨w7.heap.size, 0, none⟩ 0 60 = some l41 ∧
            StoreOk w39 ⟨w1.heap.size, 0, none⟩ (Array.toList l41.toArray) ∧ Array.size l41.toArray = 60 ∧
            Nx (setCells w39 ⟨w1.heap.size, 0, none⟩ 0 (Array.toList l41.toArray)) fun w42 =>
            k15 w42)
          ∧ (
            ((n17 : Int) == 2) = false → (
              ((n17 : Int) == 3) = true → Calls Try.prog F.space_Space_Abort #[.pointer p3] w14 fun e44 w43 =>
              e44 = .returned (.tuple #[]) ∧ ∃ l45 : List Value, rdCells w43 ⟨w1.heap.size, 0, none⟩ 0 60 = some l45 ∧
              StoreOk w43 ⟨w7.heap.size, 0, none⟩ (Array.toList l45.toArray) ∧ Array.size l45.toArray = 60 ∧
              Nx (setCells w43 ⟨w7.heap.size, 0, none⟩ 0 (Array.toList l45.toArray)) fun w46 =>
              k15 w46)
            ∧ (
              ((n17 : Int) == 3) = false → Calls Try.prog F.space_Space_Alloc #[.pointer p3] w14 fun e48 w47 =>
              ∃ n49 : Int, ∃ n50 : Int, e48 = .returned (.tuple #[.int .i64 n49, .int .i64 n50]) ∧
              (
                ((n50 : Int) == 0) = true → Jn (
                  fun k51 : Bool → World → Prop => (((decide ((n49 : Int) < 0)) || (decide ((n49 : Int) ≥ 60))) = true → k51 true w47) ∧
                  (
                    ((decide ((n49 : Int) < 0)) || (decide ((n49 : Int) ≥ 60))) = false → ((0 : Int) ≤ n49 ∧ n49 < ((60 : Nat) : Int)) ∧
                    ∃ b52 : Bool, w47.cell? (Addr.add ⟨w1.heap.size, 0, none⟩ (Int.toNat n49 * 1)) = some (.bool b52) ∧
                    k51 b52 w47)
                  )
                (
                  fun (b53 : Bool) (w54 : World) => Jn (
                    fun k55 : Bool → World → Prop => (b53 = true → k55 true w54) ∧ (
                      b53 = false → ((0 : Int) ≤ n49 ∧ n49 < ((60 : Nat) : Int)) ∧ ∃ b56 : Bool, w54.cell? (Addr.add ⟨w7.heap.size, 0, none⟩ (Int.toNat n49 * 1)) = some (.bool b56) ∧
                      k55 b56 w54)
                    )
                  (
                    fun (b57 : Bool) (w58 : World) => (b57 = true → Q (.bool false) w58) ∧ (
                      b57 = false → ((0 : Int) ≤ n49 ∧ n49 < ((60 : Nat) : Int)) ∧ (∃ u : Value, w58.cell? (Addr.add ⟨w7.heap.size, 0, none⟩ (Int.toNat n49 * 1)) = some u) ∧
                      w58.frozen? (Addr.add ⟨w7.heap.size, 0, none⟩ (Int.toNat n49 * 1)) = false ∧
                      Nx (w58.setCell (Addr.add ⟨w7.heap.size, 0, none⟩ (Int.toNat n49 * 1)) (.bool true)) fun w59 =>
                      k15 w59)
                    )
                  )
                )
              ∧ (((n50 : Int) == 0) = false → k15 w47))
            )
          )
        )
      (
        fun  (w60 : World) => I11 (IntKind.wrap .i64 (n13 + 1)) w60 ∧ μ12 (IntKind.wrap .i64 (n13 + 1)) w60 < μ12 n13 w14)
      )
    ∧ (
      ((decide ((n13 : Int) < ((l.len : Nat) : Int))) && (decide ((n13 : Int) < 80))) = false →
      Calls Try.prog F.law06_lives #[] w14 fun e62 w61 => ∃ b63 : Bool, e62 = .returned (.bool b63) ∧
      Q (.bool b63) w61)
    )
def A.law06_SpaceKept : AT := (.seq (.reg []) (.seq (.reg []) (.seq (.seq (.reg [.run, .run, .run, .pure 2]) (.cond (.seq (.reg []) .leaf) .leaf)) (.seq (.reg []) (.seq (.seq (.reg []) (.blk (.loop [(7, (.int .i64))] [0, 3, 5, 6] (.seq (.seq (.reg [.run, .run, .run, .run, .run, .pure 2]) (.cond .leaf .leaf)) (.seq (.jk [] [0, 3, 5, 6, 7] (.blk (.seq (.reg []) (.blk (.seq (.reg []) (.cond (.seq (.reg []) (.cond (.seq (.seq (.reg [.run, .run, .run, .run, .run, .run, .run, .split 6, .run, .run, .run, .run, .run, .run, .run, .split 8]) (.cond (.seq (.reg []) .leaf) .leaf)) (.reg [])) .leaf)) (.seq (.reg []) (.cond (.seq (.reg []) (.reg [])) (.seq (.reg []) (.cond (.seq (.reg []) (.reg [])) (.seq (.reg []) (.seq (.reg []) (.cond (.seq (.seq (.reg [.run, .run, .run, .pure 2, .run, .run, .run, .split 3, .run, .run, .run, .run, .split 3]) (.cond (.seq (.reg []) .leaf) .leaf)) (.reg [])) .leaf))))))))))))) (.reg [])))))) (.seq (.reg []) .leaf))))))
theorem W.law06_SpaceKept_eq (l : Sl) (w : World) (Q : Value → World → Prop) : W.law06_SpaceKept l w Q = DF Try.prog tk A.law06_SpaceKept Try.f7 [.slice l.a l.len l.cap] w Q := by kernel_rfl
theorem W.law06_SpaceKept_ok (l : Sl) (w : World) (Q : Value → World → Prop) (h : W.law06_SpaceKept l w Q) : Calls Try.prog F.law06_SpaceKept #[.slice l.a l.len l.cap] w fun e w1 => ∃ v, e = .returned v ∧ Q v w1 :=
  calls_of_DF hmix Try.func7 (by kernel_rfl) (Eq.mp (W.law06_SpaceKept_eq l w Q) h)

/-- stanchion/stanchionlaw06.SpaceLoads -/
def W.law06_SpaceLoads (b : Sl) (n : Int) (w : World) (Q : Value → World → Prop) : Prop :=
  Calls Try.prog F.law01_Few #[.slice b.a b.len b.cap, .int .i64 210] w fun e2 w1 =>
  ∃ s3 : Sl, e2 = .returned (.slice s3.a s3.len s3.cap) ∧ Nx (w1.alloc (.cells #[] Ty.uint8)) fun w4 =>
  ∃ s5 : Sl, ∃ w6 : World, Sem.run Try.prog (
    Builtin.append_ #[Ty.Sl_uint8, Ty.Sl_uint8] Ty.Sl_uint8 #[.slice (some ⟨w1.heap.size, 0, none⟩) 0 0, .slice s3.a s3.len s3.cap])
  w4 = .ok (.slice s5.a s5.len s5.cap) w6 ∧ Calls Try.prog F.space_Load #[.slice s5.a s5.len s5.cap, .int .i64 n] w6 fun e8 w7 =>
  ∃ p9 : Option Addr, ∃ n10 : Int, e8 = .returned (.tuple #[.pointer p9, .int .i64 n10]) ∧
  (
    ((decide ((n : Int) < 1)) || (decide ((n : Int) > 1600))) = true → Jn (
      fun k11 : Bool → World → Prop => (
        ((Option.isNone p9) && ((n10 : Int) == 1)) = true → Calls Try.prog F.law06_lives #[] w7 fun e13 w12 =>
        ∃ b14 : Bool, e13 = .returned (.bool b14) ∧ k11 b14 w12)
      ∧ (((Option.isNone p9) && ((n10 : Int) == 1)) = false → k11 false w7))
    (fun (b15 : Bool) (w16 : World) => Q (.bool b15) w16))
  ∧ (
    ((decide ((n : Int) < 1)) || (decide ((n : Int) > 1600))) = false → Calls Try.prog F.ref06_Load #[.slice s3.a s3.len s3.cap, .int .i64 n] w7 fun e18 w17 =>
    ∃ p19 : Option Addr, e18 = .returned (.pointer p19) ∧ (
      (Option.isNone p19) = true → Jn (
        fun k20 : Bool → World → Prop => (
          ((Option.isNone p9) && ((n10 : Int) == 4)) = true → Calls Try.prog F.law06_lives #[] w17 fun e22 w21 =>
          ∃ b23 : Bool, e22 = .returned (.bool b23) ∧ k20 b23 w21)
        ∧ (((Option.isNone p9) && ((n10 : Int) == 4)) = false → k20 false w17))
      (fun (b24 : Bool) (w25 : World) => Q (.bool b24) w25))
    ∧ (
      (Option.isNone p19) = false → Nx (w17.drew) fun w26 => ∃ W27 : Nat → Prop, (
        (!(Option.isNone p9)) = true → (
          ((n10 : Int) == 0) = true → Calls Try.prog F.law06_alike #[.pointer p9, .pointer p19, .int .i64 0] w26 fun e29 w28 =>
          ∃ b30 : Bool, e29 = .returned (.bool b30) ∧ ∃ W31 : Nat → Prop, (
            b30 = true → ∃ s33 : ByteArray, (
              ∀ w32 : World, Chg W31 w28 w32 → Sem.run Try.prog (convert Ty.Sl_uint8 Ty.string (.slice s3.a s3.len s3.cap)) w32 = .ok (.string s33) w32)
            ∧ Calls Try.prog F.space_Space_Bytes #[.pointer p9] w28 fun e35 w34 => ∃ s36 : Sl, e35 = .returned (.slice s36.a s36.len s36.cap) ∧
            Chg W31 w28 w34 ∧ ∃ s38 : ByteArray, (
              ∀ w37 : World, Chg W31 w34 w37 → Sem.run Try.prog (convert Ty.Sl_uint8 Ty.string (.slice s36.a s36.len s36.cap)) w37 = .ok (.string s38) w37)
            ∧ Jn (
              fun k39 : Bool → World → Prop => (
                (ByteArray.toList s38 == ByteArray.toList s33) = true → Calls Try.prog F.law06_lives #[] w34 fun e41 w40 =>
                ∃ b42 : Bool, e41 = .returned (.bool b42) ∧ k39 b42 w40)
              ∧ ((ByteArray.toList s38 == ByteArray.toList s33) = false → k39 false w34))
            (fun (b43 : Bool) (w44 : World) => Q (.bool b43) w44))
          ∧ (
            b30 = false → Jn (
              fun k45 : Bool → World → Prop => (
                false = true → Calls Try.prog F.law06_lives #[] w28 fun e47 w46 => ∃ b48 : Bool, e47 = .returned (.bool b48) ∧
                k45 b48 w46)
              ∧ (false = false → k45 false w28))
            (fun (b49 : Bool) (w50 : World) => Q (.bool b49) w50))
          )
        ∧ (
          ((n10 : Int) == 0) = false → Jn (
            fun k51 : Bool → World → Prop => (
              false = true → Calls Try.prog F.law06_lives #[] w26 fun e53 w52 => ∃ b54 : Bool, e53 = .returned (.bool b54) ∧
              k51 b54 w52)
            ∧ (false = false → k51 false w26))
          (fun (b55 : Bool) (w56 : World) => Q (.bool b55) w56))
        )
      ∧ (
        (!(Option.isNone p9)) = false → Jn (
          fun k57 : Bool → World → Prop => (
            false = true → Calls Try.prog F.law06_lives #[] w26 fun e59 w58 => ∃ b60 : Bool, e59 = .returned (.bool b60) ∧
            k57 b60 w58)
          ∧ (false = false → k57 false w26))
        (fun (b61 : Bool) (w62 : World) => Q (.bool b61) w62))
      )
    )
def A.law06_SpaceLoads : AT := (.seq (.reg []) (.seq (.reg []) (.seq (.reg []) (.seq (.seq (.reg [.run, .run, .run, .pure 2]) (.cond (.seq (.reg [.run, .run, .run, .pure 2, .run, .run, .run, .split 1]) .leaf) .leaf)) (.seq (.reg []) (.seq (.seq (.reg []) (.cond (.seq (.reg [.run, .run, .run, .pure 2, .run, .run, .run, .split 1]) .leaf) .leaf)) (.seq (.drw 17 true ⟨[0, 1, 2, 4, 12, 20, 36, 64, 64, 448, 576, 1536, 2048, 6144, 10240, 2048, 34816, 83968, 133120, 270336, 524288, 1572864, 4194303], [0, 1, 2, 4, 12, 20, 32, 64, 64, 448, 576, 1024, 2048, 6144, 10240, 2048, 34816, 83968, 133120, 262144, 524288, 1572864, 2097152]⟩ [140737488355328, 281474976710656, 562949953421312, 1125899906842624, 2251799813685248, 4503599627370496, 9007199254740992, 18014398509481984, 36028797018963968, 72057594037927936, 144115188075855872, 288230376151711744, 576460752303423488, 1152921504606846976, 2305843009213693952, 4611686018427387904, 9223372036854775808, 18446744073709551616, 36893488147419103232, 73786976294838206464, 147573952589676412928, 295147905179352825856, 16] [32, 140737488355328, 281474976710656, 562949953421376, 1688849860263936, 2814749767106560, 4503599627370496, 9007199254741024, 9007199254741120, 63050394783186944, 81064793292668928, 144115188075855872, 288230376151711776, 864691128455135232, 1441151880758558720, 288230376151711745, 4899916394579099648, 11817445422220181504, 18734974449861263360, 36893488147419103232, 73786976294838206464, 221360928884514619392, 295147905179352825856] (.take 0 (.take 1 (.take 2 (.sp 49 (.take 3 (.take 4 (.take 5 (.take 6 (.sp 53 (.take 7 (.take 8 (.out 9 true (.take 10 (.take 11 (.sp 58 (.take 12 (.take 15 (.take 16 (.eff 13 (.take 14 (.tail [.run, .run, .run, .split 1, .run, .run])))))) (.take 12 (.take 13 (.take 14 (.take 15 (.take 16 (.tail [.run, .run, .run, .split 1, .run, .run])))))))))))) (.take 7 (.take 8 (.take 9 (.take 10 (.take 11 (.take 12 (.take 13 (.take 14 (.take 15 (.take 16 (.tail [.run, .run, .run, .split 1, .run, .run])))))))))))))))) (.take 3 (.take 4 (.take 5 (.take 6 (.take 7 (.take 8 (.take 9 (.take 10 (.take 11 (.take 12 (.take 13 (.take 14 (.take 15 (.take 16 (.tail [.run, .run, .run, .split 1, .run, .run])))))))))))))))))))) .leaf)))))))
theorem W.law06_SpaceLoads_eq (b : Sl) (n : Int) (w : World) (Q : Value → World → Prop) : W.law06_SpaceLoads b n w Q = DF Try.prog tk A.law06_SpaceLoads Try.f8 [.slice b.a b.len b.cap, .int .i64 n] w Q := by kernel_rfl
theorem W.law06_SpaceLoads_ok (b : Sl) (n : Int) (w : World) (Q : Value → World → Prop) (h : W.law06_SpaceLoads b n w Q) : Calls Try.prog F.law06_SpaceLoads #[.slice b.a b.len b.cap, .int .i64 n] w fun e w1 => ∃ v, e = .returned v ∧ Q v w1 :=
  calls_of_DF hmix Try.func8 (by kernel_rfl) (Eq.mp (W.law06_SpaceLoads_eq b n w Q) h)

/-- stanchion/stanchionlaw06.SpacePlays -/
def W.law06_SpacePlays (n : Int) (first : Int) (l : Sl) (w : World) (Q : Value → World → Prop) : Prop :=
  Jn (
    fun k1 : Int → World → Prop => ((decide ((n : Int) > 80)) = true → k1 80 w) ∧
    ((decide ((n : Int) > 80)) = false → k1 n w))
  (
    fun (n2 : Int) (w3 : World) => Calls Try.prog F.space_New #[.int .i64 n2, .int .i64 first] w3 fun e5 w4 =>
    ∃ p6 : Option Addr, ∃ n7 : Int, e5 = .returned (.tuple #[.pointer p6, .int .i64 n7]) ∧
    (
      (((decide ((n2 : Int) < 1)) || (decide ((first : Int) < 0))) || (decide ((first : Int) > n2))) = true →
      Jn (
        fun k8 : Bool → World → Prop => (
          ((Option.isNone p6) && ((n7 : Int) == 1)) = true → Calls Try.prog F.law06_lives #[] w4 fun e10 w9 =>
          ∃ b11 : Bool, e10 = .returned (.bool b11) ∧ k8 b11 w9)
        ∧ (((Option.isNone p6) && ((n7 : Int) == 1)) = false → k8 false w4))
      (fun (b12 : Bool) (w13 : World) => Q (.bool b12) w13))
    ∧ (
      (((decide ((n2 : Int) < 1)) || (decide ((first : Int) < 0))) || (decide ((first : Int) > n2))) = false →
      (((Option.isNone p6) || ((n7 : Int) != 0)) = true → Q (.bool false) w4) ∧
      (
        ((Option.isNone p6) || ((n7 : Int) != 0)) = false → Calls Try.prog F.ref06_New #[.int .i64 n2, .int .i64 first] w4 fun e15 w14 =>
        ∃ p16 : Option Addr, e15 = .returned (.pointer p16) ∧ ∃ (I17 : Int → World → Prop) (μ18 : Int → World → Nat), I17 0 w14 ∧
        ∀ (n19 : Int) (w20 : World), I17 n19 w20 → (
          ((decide ((n19 : Int) < ((l.len : Nat) : Int))) && (decide ((n19 : Int) < 60))) = true →
          Jn (
            fun k21 : World → Prop => ∃ a22 : Addr, l.a = some a22 ∧ ((0 : Int) ≤ n19 ∧ n19 < ((l.len : Nat) : Int)) ∧
            ∃ n23 : Int, w20.cell? (a22.add (Int.toNat n19 * 2)) = some (.int .i64 n23) ∧
            (
              ((n23 : Int) == 1) = true → Nx (w20.drew) fun w24 => ∃ W25 : Nat → Prop, ∃ a26 : Addr, l.a = some a26 ∧
              ((0 : Int) ≤ n19 ∧ n19 < ((l.len : Nat) : Int)) ∧ ¬ W25 ((a26.add (Int.toNat n19 * 2)).add 1).block ∧
              ∃ n27 : Int, w24.cell? ((a26.add (Int.toNat n19 * 2)).add 1) = some (.int .i64 n27) ∧
              ∃ a28 : Addr, l.a = some a28 ∧ ((0 : Int) ≤ n19 ∧ n19 < ((l.len : Nat) : Int)) ∧
              ¬ W25 ((a28.add (Int.toNat n19 * 2)).add 1).block ∧ ∃ n29 : Int, w24.cell? ((a28.add (Int.toNat n19 * 2)).add 1) = some (.int .i64 n29) ∧
              Calls Try.prog F.space_Space_Free #[.pointer p6, .int .i64 n27] w24 fun e31 w30 =>
              ∃ n32 : Int, e31 = .returned (.int .i64 n32) ∧ Chg W25 w24 w30 ∧ Calls Try.prog F.ref06_Space_Free #[.pointer p16, .int .i64 n29] w30 fun e34 w33 =>
              ∃ n35 : Int, e34 = .returned (.int .i64 n35) ∧ (((n32 : Int) != n35) = true → Q (.bool false) w33) ∧
              (((n32 : Int) != n35) = false → k21 w33))
            ∧ (
              ((n23 : Int) == 1) = false → (
                ((n23 : Int) == 2) = true → Calls Try.prog F.space_Space_Commit #[.pointer p6] w20 fun e37 w36 =>
                e37 = .returned (.tuple #[]) ∧ Calls Try.prog F.ref06_Space_Commit #[.pointer p16] w36 fun e39 w38 =>
                e39 = .returned (.tuple #[]) ∧ k21 w38)
              ∧ (
                ((n23 : Int) == 2) = false → (
                  ((n23 : Int) == 3) = true → Calls Try.prog F.space_Space_Abort #[.pointer p6] w20 fun e41 w40 =>
                  e41 = .returned (.tuple #[]) ∧ Calls Try.prog F.ref06_Space_Abort #[.pointer p16] w40 fun e43 w42 =>
                  e43 = .returned (.tuple #[]) ∧ k21 w42)
                ∧ (
                  ((n23 : Int) == 3) = false → Calls Try.prog F.space_Space_Alloc #[.pointer p6] w20 fun e45 w44 =>
                  ∃ n46 : Int, ∃ n47 : Int, e45 = .returned (.tuple #[.int .i64 n46, .int .i64 n47]) ∧
                  Calls Try.prog F.ref06_Space_Alloc #[.pointer p16] w44 fun e49 w48 => ∃ n50 : Int, ∃ n51 : Int, e49 = .returned (.tuple #[.int .i64 n50, .int .i64 n51]) ∧
                  ((((n46 : Int) != n50) || ((n47 : Int) != n51)) = true → Q (.bool false) w48) ∧
                  ((((n46 : Int) != n50) || ((n47 : Int) != n51)) = false → k21 w48))
                )
              )
            )
          (
            fun  (w52 : World) => ∃ a53 : Addr, l.a = some a53 ∧ ((0 : Int) ≤ n19 ∧ n19 < ((l.len : Nat) : Int)) ∧
            ∃ n54 : Int, w52.cell? ((a53.add (Int.toNat n19 * 2)).add 1) = some (.int .i64 n54) ∧
            Calls Try.prog F.law06_alike #[.pointer p6, .pointer p16, .int .i64 n54] w52 fun e56 w55 =>
            ∃ b57 : Bool, e56 = .returned (.bool b57) ∧ ((!b57) = true → Q (.bool false) w55) ∧
            (
              (!b57) = false → I17 (IntKind.wrap .i64 (n19 + 1)) w55 ∧ μ18 (IntKind.wrap .i64 (n19 + 1)) w55 < μ18 n19 w20)
            )
          )
        ∧ (
          ((decide ((n19 : Int) < ((l.len : Nat) : Int))) && (decide ((n19 : Int) < 60))) = false →
          Calls Try.prog F.law06_lives #[] w20 fun e59 w58 => ∃ b60 : Bool, e59 = .returned (.bool b60) ∧
          Q (.bool b60) w58)
        )
      )
    )
def A.law06_SpacePlays : AT := (.seq (.reg []) (.seq (.jk [(0, (.int .i64))] [1, 2] (.seq (.reg []) (.cond (.reg []) .leaf))) (.seq (.reg []) (.seq (.seq (.reg [.run, .run, .run, .pure 2, .run, .run, .run, .pure 3]) (.cond (.seq (.reg [.run, .run, .run, .pure 2, .run, .run, .run, .split 1]) .leaf) .leaf)) (.seq (.seq (.reg [.run, .run, .run, .pure 2]) (.cond (.seq (.reg []) .leaf) .leaf)) (.seq (.reg []) (.seq (.seq (.reg []) (.blk (.loop [(10, (.int .i64))] [2, 7, 9] (.seq (.seq (.reg [.run, .run, .run, .run, .run, .pure 2]) (.cond .leaf .leaf)) (.seq (.blk (.seq (.jk [] [2, 7, 9, 10] (.seq (.reg []) (.blk (.seq (.reg []) (.cond (.seq (.drw 13 true ⟨[0, 0, 0, 6, 8, 16, 33, 0, 0, 0, 768, 1024, 2048, 4288, 8256], [0, 0, 0, 6, 8, 16, 33, 0, 0, 0, 768, 1024, 2048, 4224, 8256]⟩ [154742504910672534362390528, 309485009821345068724781056, 618970019642690137449562112, 1237940039285380274899124224, 2475880078570760549798248448, 4951760157141521099596496896, 9903520314283042199192993792, 19807040628566084398385987584, 39614081257132168796771975168, 79228162514264337593543950336, 158456325028528675187087900672, 316912650057057350374175801344, 633825300114114700748351602688, 1267650600228229401496703205376, 2535301200456458802993406410752] [128, 4, 1024, 928455029464035206174343168, 1237940039285380274899124224, 2475880078570760549798248448, 5106502662052193633958887424, 512, 4, 1024, 118842243771396506390315925504, 158456325028528675187087900672, 316912650057057350374175801344, 653632340742680785146737590272, 1277554120542512443695896199168] (.take 0 (.take 1 (.take 2 (.take 3 (.take 4 (.take 5 (.take 7 (.take 8 (.take 9 (.take 10 (.take 11 (.take 12 (.eff 6 (.tail [.run, .run]))))))))))))))) (.cond (.seq (.reg []) .leaf) .leaf)) (.seq (.reg []) (.cond (.seq (.reg []) (.reg [])) (.seq (.reg []) (.cond (.seq (.reg []) (.reg [])) (.seq (.reg []) (.seq (.reg []) (.seq (.reg [.run, .run, .run, .run, .pure 3]) (.cond (.seq (.reg []) .leaf) .leaf))))))))))))) (.seq (.reg []) (.cond (.seq (.reg []) .leaf) .leaf)))) (.reg [])))))) (.seq (.reg []) .leaf))))))))
theorem W.law06_SpacePlays_eq (n : Int) (first : Int) (l : Sl) (w : World) (Q : Value → World → Prop) : W.law06_SpacePlays n first l w Q = DF Try.prog tk A.law06_SpacePlays Try.f9 [.int .i64 n, .int .i64 first, .slice l.a l.len l.cap] w Q := by kernel_rfl
theorem W.law06_SpacePlays_ok (n : Int) (first : Int) (l : Sl) (w : World) (Q : Value → World → Prop) (h : W.law06_SpacePlays n first l w Q) : Calls Try.prog F.law06_SpacePlays #[.int .i64 n, .int .i64 first, .slice l.a l.len l.cap] w fun e w1 => ∃ v, e = .returned v ∧ Q v w1 :=
  calls_of_DF hmix Try.func9 (by kernel_rfl) (Eq.mp (W.law06_SpacePlays_eq n first l w Q) h)

/-- stanchion/space.New -/
def W.space_New (n : Int) (first : Int) (w : World) (Q : Value → World → Prop) : Prop :=
  Calls Try.prog F.space_good #[.int .i64 n] w fun e2 w1 => ∃ b3 : Bool, e2 = .returned (.bool b3) ∧
  (
    (((!b3) || (decide ((first : Int) < 0))) || (decide ((first : Int) > n))) = true →
    Q (.tuple #[.pointer none, .int .i64 1]) w1)
  ∧ (
    (((!b3) || (decide ((first : Int) < 0))) || (decide ((first : Int) > n))) = false →
    Calls Try.prog F.space_size #[.int .i64 n] w1 fun e5 w4 => ∃ n6 : Int, e5 = .returned (.int .i64 n6) ∧
    ((0 : Int) ≤ n6 ∧ n6 ≤ n6 ∧ n6 ≤ 9223372036854775807 ∧ ((1 : Nat) : Int) * n6 ≤ 140737488355328) ∧
    Nx (w4.alloc (.cells (zrow Try.prog Ty.uint8 (Int.toNat n6)) Ty.uint8)) fun w7 =>
    Nx (
      w7.alloc (
        .cells #[.int .i64 n, .slice (some ⟨w4.heap.size, 0, none⟩) (Int.toNat n6) (Int.toNat n6), .slice none 0 0] Ty.space_Space)
      )
    fun w8 => ∃ (I9 : Int → World → Prop) (μ10 : Int → World → Nat), I9 0 w8 ∧
    ∀ (n11 : Int) (w12 : World), I9 n11 w12 → (
      (decide ((n11 : Int) < first)) = true → ∃ a13 : Addr, (some ⟨w7.heap.size, 0, none⟩ : Option Addr) = some a13 ∧
      ∃ s14 : Sl, w12.cell? (a13.add 1) = some (.slice s14.a s14.len s14.cap) ∧
      Calls Try.prog F.space_set_put #[.slice s14.a s14.len s14.cap, .int .i64 n11] w12 fun e16 w15 =>
      e16 = .returned (.tuple #[]) ∧ I9 (IntKind.wrap .i64 (n11 + 1)) w15 ∧ μ10 (IntKind.wrap .i64 (n11 + 1)) w15 < μ10 n11 w12)
    ∧ (
      (decide ((n11 : Int) < first)) = false → Calls Try.prog F.space_Space_Commit #[.pointer (some ⟨w7.heap.size, 0, none⟩)] w12 fun e18 w17 =>
      e18 = .returned (.tuple #[]) ∧ Q (.tuple #[.pointer (some ⟨w7.heap.size, 0, none⟩), .int .i64 0]) w17)
    )
def A.space_New : AT := (.seq (.reg []) (.seq (.seq (.reg [.run, .run, .run, .run, .pure 2, .run, .run, .run, .pure 3]) (.cond (.seq (.reg []) .leaf) .leaf)) (.seq (.reg []) (.seq (.seq (.reg []) (.blk (.loop [(27, (.int .i64))] [6, 26] (.seq (.reg []) (.seq (.cond .leaf .leaf) (.seq (.blk (.seq (.reg []) (.reg []))) (.reg []))))))) (.seq (.reg []) (.seq (.reg []) .leaf))))))
theorem W.space_New_eq (n : Int) (first : Int) (w : World) (Q : Value → World → Prop) : W.space_New n first w Q = DF Try.prog tk A.space_New Try.f10 [.int .i64 n, .int .i64 first] w Q := by kernel_rfl
theorem W.space_New_ok (n : Int) (first : Int) (w : World) (Q : Value → World → Prop) (h : W.space_New n first w Q) : Calls Try.prog F.space_New #[.int .i64 n, .int .i64 first] w fun e w1 => ∃ v, e = .returned v ∧ Q v w1 :=
  calls_of_DF hmix Try.func10 (by kernel_rfl) (Eq.mp (W.space_New_eq n first w Q) h)

/-- (*stanchion/space.Space).Room -/
def W.space_Space_Room (s : Option Addr) (w : World) (Q : Value → World → Prop) : Prop :=
  ((Option.isNone s) = true → Q (.int .i64 0) w) ∧ (
    (Option.isNone s) = false → ∃ a1 : Addr, s = some a1 ∧ ∃ n2 : Int, w.cell? a1 = some (.int .i64 n2) ∧
    ∃ a3 : Addr, s = some a3 ∧ ∃ s4 : Sl, w.cell? (a3.add 1) = some (.slice s4.a s4.len s4.cap) ∧
    ∃ (I5 : Int → Int → World → Prop) (μ6 : Int → Int → World → Nat), I5 n2 0 w ∧
    ∀ (n7 : Int) (n8 : Int) (w9 : World), I5 n7 n8 w9 → (
      (decide ((n8 : Int) < ((s4.len : Nat) : Int))) = true → Nx (w9.drew) fun w10 =>
      ∃ W11 : Nat → Prop, ∃ a12 : Addr, s = some a12 ∧ ¬ W11 (a12.add 1).block ∧
      ∃ s13 : Sl, w10.cell? (a12.add 1) = some (.slice s13.a s13.len s13.cap) ∧
      ∃ a14 : Addr, s13.a = some a14 ∧ ((0 : Int) ≤ n8 ∧ n8 < ((s13.len : Nat) : Int)) ∧
      ¬ W11 (a14.add (Int.toNat n8 * 1)).block ∧ ∃ n15 : Int, w10.cell? (a14.add (Int.toNat n8 * 1)) = some (.int .u8 n15) ∧
      ∃ a16 : Addr, s = some a16 ∧ ¬ W11 (a16.add 2).block ∧ ∃ s17 : Sl, w10.cell? (a16.add 2) = some (.slice s17.a s17.len s17.cap) ∧
      ∃ a18 : Addr, s17.a = some a18 ∧ ((0 : Int) ≤ n8 ∧ n8 < ((s17.len : Nat) : Int)) ∧
      ¬ W11 (a18.add (Int.toNat n8 * 1)).block ∧ ∃ n19 : Int, w10.cell? (a18.add (Int.toNat n8 * 1)) = some (.int .u8 n19) ∧
      Calls Try.prog F.math_bits_OnesCount8 #[.int .u8 (bOr .u8 n15 n19)] w10 fun e21 w20 =>
      ∃ n22 : Int, e21 = .returned (.int .i64 n22) ∧ Chg W11 w10 w20 ∧ I5 (IntKind.wrap .i64 (n7 - n22)) (IntKind.wrap .i64 (n8 + 1)) w20 ∧
      μ6 (IntKind.wrap .i64 (n7 - n22)) (IntKind.wrap .i64 (n8 + 1)) w20 < μ6 n7 n8 w9)
    ∧ ((decide ((n8 : Int) < ((s4.len : Nat) : Int))) = false → Q (.int .i64 n7) w9))
def A.space_Space_Room : AT := (.seq (.reg []) (.seq (.seq (.reg []) (.cond (.seq (.reg []) .leaf) .leaf)) (.seq (.reg []) (.seq (.seq (.reg []) (.blk (.loop [(3, (.int .i64)), (16, (.int .i64))] [0, 15] (.seq (.reg []) (.seq (.cond .leaf .leaf) (.seq (.blk (.seq (.reg []) (.drw 17 true ⟨[0, 0, 2, 4, 8, 0, 48, 64, 0, 256, 512, 1024, 0, 6144, 8192, 16512, 32768, 65537, 262143], [0, 0, 2, 4, 8, 0, 48, 64, 0, 256, 512, 1024, 0, 6144, 8192, 16512, 32768, 65537, 131073]⟩ [524288, 1048576, 2097152, 4194304, 8388608, 16777216, 33554432, 67108864, 134217728, 268435456, 536870912, 1073741824, 2147483648, 4294967296, 8589934592, 17179869184, 34359738368, 68719476736, 8] [8, 1, 1048576, 2097152, 4194304, 16, 25165824, 33554432, 1, 134217728, 268435456, 536870912, 16, 3221225472, 4294967296, 8657043456, 17179869184, 34360262656, 68719476736] (.take 0 (.take 1 (.take 2 (.take 3 (.take 4 (.take 5 (.take 6 (.take 7 (.take 8 (.take 9 (.take 10 (.take 11 (.take 12 (.take 13 (.take 14 (.take 15 (.eff 16 (.tail [.run, .run]))))))))))))))))))))) (.reg []))))))) (.seq (.reg []) .leaf)))))
theorem W.space_Space_Room_eq (s : Option Addr) (w : World) (Q : Value → World → Prop) : W.space_Space_Room s w Q = DF Try.prog tk A.space_Space_Room Try.f11 [.pointer s] w Q := by kernel_rfl
theorem W.space_Space_Room_ok (s : Option Addr) (w : World) (Q : Value → World → Prop) (h : W.space_Space_Room s w Q) : Calls Try.prog F.space_Space_Room #[.pointer s] w fun e w1 => ∃ v, e = .returned v ∧ Q v w1 :=
  calls_of_DF hmix Try.func11 (by kernel_rfl) (Eq.mp (W.space_Space_Room_eq s w Q) h)

/-- (*stanchion/space.Space).Alloc -/
def W.space_Space_Alloc (s : Option Addr) (w : World) (Q : Value → World → Prop) : Prop :=
  ((Option.isNone s) = true → Q (.tuple #[.int .i64 (-1), .int .i64 1]) w) ∧
  (
    (Option.isNone s) = false → ∃ a1 : Addr, s = some a1 ∧ ∃ n2 : Int, w.cell? a1 = some (.int .i64 n2) ∧
    ∃ (I3 : Int → World → Prop) (μ4 : Int → World → Nat), I3 0 w ∧ ∀ (n5 : Int) (w6 : World), I3 n5 w6 →
    (
      (decide ((n5 : Int) < n2)) = true → Calls Try.prog F.space_Space_taken #[.pointer s, .int .i64 n5] w6 fun e8 w7 =>
      ∃ b9 : Bool, e8 = .returned (.bool b9) ∧ (
        (!b9) = true → ∃ a10 : Addr, s = some a10 ∧ ∃ s11 : Sl, w7.cell? (a10.add 1) = some (.slice s11.a s11.len s11.cap) ∧
        Calls Try.prog F.space_set_put #[.slice s11.a s11.len s11.cap, .int .i64 n5] w7 fun e13 w12 =>
        e13 = .returned (.tuple #[]) ∧ Q (.tuple #[.int .i64 n5, .int .i64 0]) w12)
      ∧ ((!b9) = false → I3 (IntKind.wrap .i64 (n5 + 1)) w7 ∧ μ4 (IntKind.wrap .i64 (n5 + 1)) w7 < μ4 n5 w6))
    ∧ ((decide ((n5 : Int) < n2)) = false → Q (.tuple #[.int .i64 (-1), .int .i64 2]) w6))
def A.space_Space_Alloc : AT := (.seq (.reg []) (.seq (.seq (.reg []) (.cond (.seq (.reg []) .leaf) .leaf)) (.seq (.seq (.reg []) (.blk (.loop [(11, (.int .i64))] [0, 10] (.seq (.reg []) (.seq (.cond .leaf .leaf) (.seq (.blk (.seq (.reg []) (.seq (.reg []) (.cond (.seq (.reg []) (.seq (.reg []) .leaf)) .leaf)))) (.reg []))))))) (.seq (.reg []) .leaf))))
theorem W.space_Space_Alloc_eq (s : Option Addr) (w : World) (Q : Value → World → Prop) : W.space_Space_Alloc s w Q = DF Try.prog tk A.space_Space_Alloc Try.f12 [.pointer s] w Q := by kernel_rfl
theorem W.space_Space_Alloc_ok (s : Option Addr) (w : World) (Q : Value → World → Prop) (h : W.space_Space_Alloc s w Q) : Calls Try.prog F.space_Space_Alloc #[.pointer s] w fun e w1 => ∃ v, e = .returned v ∧ Q v w1 :=
  calls_of_DF hmix Try.func12 (by kernel_rfl) (Eq.mp (W.space_Space_Alloc_eq s w Q) h)

/-- stanchion/stanchionlaw06.lives -/
def W.law06_lives  (w : World) (Q : Value → World → Prop) : Prop :=
  Calls Try.prog F.space_New #[.int .i64 16, .int .i64 2] w fun e2 w1 => ∃ p3 : Option Addr, ∃ n4 : Int, e2 = .returned (.tuple #[.pointer p3, .int .i64 n4]) ∧
  Calls Try.prog F.space_Space_Alloc #[.pointer p3] w1 fun e6 w5 => ∃ n7 : Int, ∃ n8 : Int, e6 = .returned (.tuple #[.int .i64 n7, .int .i64 n8]) ∧
  Jn (
    fun k9 : Bool → World → Prop => (
      ((((!(Option.isNone p3)) && ((n4 : Int) == 0)) && ((n7 : Int) == 2)) && ((n8 : Int) == 0)) = true →
      Calls Try.prog F.space_Space_Room #[.pointer p3] w5 fun e11 w10 => ∃ n12 : Int, e11 = .returned (.int .i64 n12) ∧
      k9 ((n12 : Int) == 13) w10)
    ∧ (
      ((((!(Option.isNone p3)) && ((n4 : Int) == 0)) && ((n7 : Int) == 2)) && ((n8 : Int) == 0)) = false →
      k9 false w5)
    )
  (fun (b13 : Bool) (w14 : World) => Q (.bool b13) w14)
def A.law06_lives : AT := (.seq (.reg []) (.seq (.reg []) (.seq (.reg []) (.seq (.reg [.run, .run, .run, .pure 2, .run, .run, .run, .pure 2, .run, .run, .run, .pure 2, .run, .run, .run, .split 3]) .leaf))))
theorem W.law06_lives_eq  (w : World) (Q : Value → World → Prop) : W.law06_lives  w Q = DF Try.prog tk A.law06_lives Try.f13 [] w Q := by kernel_rfl
theorem W.law06_lives_ok  (w : World) (Q : Value → World → Prop) (h : W.law06_lives  w Q) : Calls Try.prog F.law06_lives #[] w fun e w1 => ∃ v, e = .returned v ∧ Q v w1 :=
  calls_of_DF hmix Try.func13 (by kernel_rfl) (Eq.mp (W.law06_lives_eq  w Q) h)

/-- stanchion/conn.Next -/
def W.conn_Next (state : Int) (flags : Int) (client : Bool) (w : World) (Q : Value → World → Prop) : Prop :=
  Nx (w.alloc (.cells #[.int .u8 0, .bool false] Ty.conn_segment)) fun w1 =>
  StoreOk w1 ⟨w.heap.size, 0, none⟩ [.int .u8 flags, .bool client] ∧ (2 : Nat) = 2 ∧
  Nx (setCells w1 ⟨w.heap.size, 0, none⟩ 0 [.int .u8 flags, .bool client]) fun w2 =>
  (
    ((state : Int) == 0) = true → ∃ n3 : Int, w2.cell? ⟨w.heap.size, 0, none⟩ = some (.int .u8 n3) ∧
    ∃ b4 : Bool, w2.cell? (Addr.add ⟨w.heap.size, 0, none⟩ 1) = some (.bool b4) ∧
    Calls Try.prog F.conn_none #[.agg #[.int .u8 n3, .bool b4]] w2 fun e6 w5 =>
    ∃ n7 : Int, e6 = .returned (.int .i64 n7) ∧ Q (.int .i64 n7) w5)
  ∧ (
    ((state : Int) == 0) = false → (((decide ((state : Int) < 0)) || (decide ((state : Int) > 5))) = true → Q (.int .i64 0) w2) ∧
    (
      ((decide ((state : Int) < 0)) || (decide ((state : Int) > 5))) = false → Jn (
        fun k8 : Bool → World → Prop => (
          ((state : Int) == 5) = true → ∃ n9 : Int, w2.cell? ⟨w.heap.size, 0, none⟩ = some (.int .u8 n9) ∧
          ∃ b10 : Bool, w2.cell? (Addr.add ⟨w.heap.size, 0, none⟩ 1) = some (.bool b10) ∧
          Calls Try.prog F.conn_segment_begins #[.agg #[.int .u8 n9, .bool b10]] w2 fun e12 w11 =>
          ∃ b13 : Bool, e12 = .returned (.bool b13) ∧ k8 b13 w11)
        ∧ (((state : Int) == 5) = false → k8 false w2))
      (
        fun (b14 : Bool) (w15 : World) => (b14 = true → Q (.int .i64 1) w15) ∧ (
          b14 = false → Jn (
            fun k16 : Bool → World → Prop => (((state : Int) == 5) = true → k16 true w15) ∧
            (
              ((state : Int) == 5) = false → ∃ n17 : Int, w15.cell? ⟨w.heap.size, 0, none⟩ = some (.int .u8 n17) ∧
              ∃ b18 : Bool, w15.cell? (Addr.add ⟨w.heap.size, 0, none⟩ 1) = some (.bool b18) ∧
              Calls Try.prog F.conn_segment_has #[.agg #[.int .u8 n17, .bool b18], .int .u8 4] w15 fun e20 w19 =>
              ∃ b21 : Bool, e20 = .returned (.bool b21) ∧ k16 b21 w19)
            )
          (
            fun (b22 : Bool) (w23 : World) => (b22 = true → Q (.int .i64 5) w23) ∧ (
              b22 = false → Jn (
                fun k24 : Bool → World → Prop => (((state : Int) == 3) = true → k24 ((state : Int) == 3) w23) ∧
                (((state : Int) == 3) = false → k24 ((state : Int) == 4) w23))
              (
                fun (b25 : Bool) (w26 : World) => (
                  b25 = true → ∃ n27 : Int, w26.cell? ⟨w.heap.size, 0, none⟩ = some (.int .u8 n27) ∧
                  ∃ b28 : Bool, w26.cell? (Addr.add ⟨w.heap.size, 0, none⟩ 1) = some (.bool b28) ∧
                  Calls Try.prog F.conn_segment_has #[.agg #[.int .u8 n27, .bool b28], .int .u8 1] w26 fun e30 w29 =>
                  ∃ b31 : Bool, e30 = .returned (.bool b31) ∧ Jn (
                    fun k32 : Bool → World → Prop => (
                      b31 = true → ∃ b33 : Bool, w29.cell? (Addr.add ⟨w.heap.size, 0, none⟩ 1) = some (.bool b33) ∧
                      k32 (b33 == ((state : Int) == 4)) w29)
                    ∧ (b31 = false → k32 false w29))
                  (
                    fun (b34 : Bool) (w35 : World) => (b34 = true → Q (.int .i64 5) w35) ∧ (b34 = false → Q (.int .i64 state) w35))
                  )
                ∧ (
                  b25 = false → ∃ n36 : Int, w26.cell? ⟨w.heap.size, 0, none⟩ = some (.int .u8 n36) ∧
                  ∃ b37 : Bool, w26.cell? (Addr.add ⟨w.heap.size, 0, none⟩ 1) = some (.bool b37) ∧
                  Calls Try.prog F.conn_segment_has #[.agg #[.int .u8 n36, .bool b37], .int .u8 1] w26 fun e39 w38 =>
                  ∃ b40 : Bool, e39 = .returned (.bool b40) ∧ (
                    b40 = true → ∃ n41 : Int, w38.cell? ⟨w.heap.size, 0, none⟩ = some (.int .u8 n41) ∧
                    ∃ b42 : Bool, w38.cell? (Addr.add ⟨w.heap.size, 0, none⟩ 1) = some (.bool b42) ∧
                    Calls Try.prog F.conn_fin #[.agg #[.int .u8 n41, .bool b42]] w38 fun e44 w43 =>
                    ∃ n45 : Int, e44 = .returned (.int .i64 n45) ∧ Q (.int .i64 n45) w43)
                  ∧ (
                    b40 = false → Jn (
                      fun k46 : Bool → World → Prop => (
                        (((state : Int) == 1) && client) = true → ∃ n47 : Int, w38.cell? ⟨w.heap.size, 0, none⟩ = some (.int .u8 n47) ∧
                        ∃ b48 : Bool, w38.cell? (Addr.add ⟨w.heap.size, 0, none⟩ 1) = some (.bool b48) ∧
                        Calls Try.prog F.conn_segment_has #[.agg #[.int .u8 n47, .bool b48], .int .u8 16] w38 fun e50 w49 =>
                        ∃ b51 : Bool, e50 = .returned (.bool b51) ∧ k46 b51 w49)
                      ∧ ((((state : Int) == 1) && client) = false → k46 false w38))
                    (
                      fun (b52 : Bool) (w53 : World) => (b52 = true → Q (.int .i64 2) w53) ∧ (b52 = false → Q (.int .i64 state) w53))
                    )
                  )
                )
              )
            )
          )
        )
      )
    )
def A.conn_Next : AT := (.seq (.reg []) (.seq (.reg []) (.seq (.blk (.seq (.reg []) (.cond (.seq (.reg []) .leaf) (.seq (.reg [.run, .run, .run, .pure 2]) (.cond (.seq (.reg []) .leaf) (.seq (.reg [.run, .run, .run, .split 2]) (.cond (.seq (.reg []) .leaf) (.seq (.reg [.run, .run, .run, .split 2]) (.cond (.seq (.reg []) .leaf) .leaf))))))))) (.seq (.seq (.reg []) (.blk (.seq (.jk [(38, .bool)] [0, 2, 7] (.seq (.reg []) (.cond .leaf (.reg [])))) (.cond (.seq (.seq (.reg [.run, .run, .run, .split 5]) (.cond (.seq (.reg []) .leaf) .leaf)) (.seq (.reg []) .leaf)) .leaf)))) (.seq (.blk (.seq (.reg []) (.cond (.seq (.reg []) .leaf) (.seq (.reg [.run, .run, .run, .pure 1, .run, .run, .split 2]) (.cond (.seq (.reg []) .leaf) .leaf))))) (.seq (.reg []) .leaf))))))
theorem W.conn_Next_eq (state : Int) (flags : Int) (client : Bool) (w : World) (Q : Value → World → Prop) : W.conn_Next state flags client w Q = DF Try.prog tk A.conn_Next Try.f14 [.int .i64 state, .int .u8 flags, .bool client] w Q := by kernel_rfl
theorem W.conn_Next_ok (state : Int) (flags : Int) (client : Bool) (w : World) (Q : Value → World → Prop) (h : W.conn_Next state flags client w Q) : Calls Try.prog F.conn_Next #[.int .i64 state, .int .u8 flags, .bool client] w fun e w1 => ∃ v, e = .returned v ∧ Q v w1 :=
  calls_of_DF hmix Try.func14 (by kernel_rfl) (Eq.mp (W.conn_Next_eq state flags client w Q) h)

/-- stanchion/stanchionref22.Next -/
def W.ref22_Next (state : Int) (flags : Int) (client : Bool) (w : World) (Q : Value → World → Prop) : Prop :=
  (2 : Int) ≠ 0 ∧ (2 : Int) ≠ 0 ∧ (2 : Int) ≠ 0 ∧ (4 : Int) ≠ 0 ∧ (2 : Int) ≠ 0 ∧
  (16 : Int) ≠ 0 ∧ (2 : Int) ≠ 0 ∧ (((decide ((state : Int) < 0)) || (decide ((state : Int) > 5))) = true → Q (.int .i64 0) w) ∧
  (
    ((decide ((state : Int) < 0)) || (decide ((state : Int) > 5))) = false → ((((state : Int) == 0) && (!client)) = true → Q (.int .i64 0) w) ∧
    (
      (((state : Int) == 0) && (!client)) = false → (
        (
          (
            (
              ((((state : Int) == 0) || ((state : Int) == 5)) && client) && (((Int.tmod (IntKind.wrap .u8 (Int.tdiv flags 2)) 2) : Int) == 1))
            && (!(((Int.tmod (IntKind.wrap .u8 (Int.tdiv flags 16)) 2) : Int) == 1)))
          && (!(((Int.tmod (IntKind.wrap .u8 (Int.tdiv flags 4)) 2) : Int) == 1)))
        = true → Q (.int .i64 1) w)
      ∧ (
        (
          (
            (
              ((((state : Int) == 0) || ((state : Int) == 5)) && client) && (((Int.tmod (IntKind.wrap .u8 (Int.tdiv flags 2)) 2) : Int) == 1))
            && (!(((Int.tmod (IntKind.wrap .u8 (Int.tdiv flags 16)) 2) : Int) == 1)))
          && (!(((Int.tmod (IntKind.wrap .u8 (Int.tdiv flags 4)) 2) : Int) == 1)))
        = false → (((state : Int) == 5) = true → Q (.int .i64 5) w) ∧ (
          ((state : Int) == 5) = false → (
            (((state : Int) == 0) && (((Int.tmod (IntKind.wrap .u8 (Int.tdiv flags 4)) 2) : Int) == 1)) = true →
            Q (.int .i64 0) w)
          ∧ (
            (((state : Int) == 0) && (((Int.tmod (IntKind.wrap .u8 (Int.tdiv flags 4)) 2) : Int) == 1)) = false →
            ((((Int.tmod (IntKind.wrap .u8 (Int.tdiv flags 4)) 2) : Int) == 1) = true → Q (.int .i64 5) w) ∧
            (
              (((Int.tmod (IntKind.wrap .u8 (Int.tdiv flags 4)) 2) : Int) == 1) = false →
              (
                (
                  ((((state : Int) == 3) && (!client)) && (((Int.tmod flags 2) : Int) == 1)) || ((((state : Int) == 4) && client) && (((Int.tmod flags 2) : Int) == 1)))
                = true → Q (.int .i64 5) w)
              ∧ (
                (
                  ((((state : Int) == 3) && (!client)) && (((Int.tmod flags 2) : Int) == 1)) || ((((state : Int) == 4) && client) && (((Int.tmod flags 2) : Int) == 1)))
                = false → ((((state : Int) == 3) || ((state : Int) == 4)) = true → Q (.int .i64 state) w) ∧
                (
                  (((state : Int) == 3) || ((state : Int) == 4)) = false → ((client && (((Int.tmod flags 2) : Int) == 1)) = true → Q (.int .i64 3) w) ∧
                  (
                    (client && (((Int.tmod flags 2) : Int) == 1)) = false → ((((Int.tmod flags 2) : Int) == 1) = true → Q (.int .i64 4) w) ∧
                    (
                      (((Int.tmod flags 2) : Int) == 1) = false → (
                        (
                          (
                            (((state : Int) == 1) && client) && (((Int.tmod (IntKind.wrap .u8 (Int.tdiv flags 16)) 2) : Int) == 1))
                          || ((state : Int) == 0))
                        = true → Q (.int .i64 2) w)
                      ∧ (
                        (
                          (
                            (((state : Int) == 1) && client) && (((Int.tmod (IntKind.wrap .u8 (Int.tdiv flags 16)) 2) : Int) == 1))
                          || ((state : Int) == 0))
                        = false → Q (.int .i64 state) w)
                      )
                    )
                  )
                )
              )
            )
          )
        )
      )
    )
def A.ref22_Next : AT := (.seq (.reg []) (.seq (.reg []) (.seq (.seq (.reg [.run, .run, .run, .pure 2]) (.cond (.seq (.reg []) .leaf) .leaf)) (.seq (.seq (.reg [.run, .run, .run, .pure 2]) (.cond (.seq (.reg []) .leaf) .leaf)) (.seq (.seq (.reg [.run, .run, .run, .pure 2, .run, .run, .run, .pure 1, .run, .run, .pure 1, .run, .run, .pure 2, .run, .run, .run, .pure 2]) (.cond (.seq (.reg []) .leaf) .leaf)) (.seq (.seq (.reg []) (.cond (.seq (.reg []) .leaf) .leaf)) (.seq (.seq (.reg [.run, .run, .run, .pure 1]) (.cond (.seq (.reg []) .leaf) .leaf)) (.seq (.seq (.reg []) (.cond (.seq (.reg []) .leaf) .leaf)) (.seq (.seq (.reg [.run, .run, .run, .pure 2, .run, .run, .run, .pure 1, .run, .run, .pure 8, .run, .run, .pure 1, .run, .run, .pure 1]) (.cond (.seq (.reg []) .leaf) .leaf)) (.seq (.seq (.reg [.run, .run, .run, .pure 2]) (.cond (.seq (.reg []) .leaf) .leaf)) (.seq (.seq (.reg [.run, .run, .pure 1]) (.cond (.seq (.reg []) .leaf) .leaf)) (.seq (.seq (.reg []) (.cond (.seq (.reg []) .leaf) .leaf)) (.seq (.seq (.reg [.run, .run, .run, .pure 1, .run, .run, .pure 1, .run, .run, .pure 2]) (.cond (.seq (.reg []) .leaf) .leaf)) (.seq (.reg []) .leaf))))))))))))))
theorem W.ref22_Next_eq (state : Int) (flags : Int) (client : Bool) (w : World) (Q : Value → World → Prop) : W.ref22_Next state flags client w Q = DF Try.prog tk A.ref22_Next Try.f15 [.int .i64 state, .int .u8 flags, .bool client] w Q := by kernel_rfl
theorem W.ref22_Next_ok (state : Int) (flags : Int) (client : Bool) (w : World) (Q : Value → World → Prop) (h : W.ref22_Next state flags client w Q) : Calls Try.prog F.ref22_Next #[.int .i64 state, .int .u8 flags, .bool client] w fun e w1 => ∃ v, e = .returned v ∧ Q v w1 :=
  calls_of_DF hmix Try.func15 (by kernel_rfl) (Eq.mp (W.ref22_Next_eq state flags client w Q) h)

/-- stanchion/stanchionlaw22.lives -/
def W.law22_lives  (w : World) (Q : Value → World → Prop) : Prop :=
  Calls Try.prog F.conn_Next #[.int .i64 0, .int .u8 2, .bool true] w fun e2 w1 =>
  ∃ n3 : Int, e2 = .returned (.int .i64 n3) ∧ Jn (
    fun k4 : Bool → World → Prop => (
      ((n3 : Int) == 1) = true → Calls Try.prog F.conn_UDP #[.int .i64 0] w1 fun e6 w5 =>
      ∃ n7 : Int, e6 = .returned (.int .i64 n7) ∧ k4 ((n7 : Int) == 6) w5)
    ∧ (((n3 : Int) == 1) = false → k4 false w1))
  (
    fun (b8 : Bool) (w9 : World) => Jn (
      fun k10 : Bool → World → Prop => (
        b8 = true → Calls Try.prog F.conn_Lasts #[.int .i64 2] w9 fun e12 w11 => ∃ n13 : Int, e12 = .returned (.int .u64 n13) ∧
        k10 ((n13 : Int) == 300) w11)
      ∧ (b8 = false → k10 false w9))
    (
      fun (b14 : Bool) (w15 : World) => Jn (
        fun k16 : Bool → World → Prop => (
          b14 = true → Calls Try.prog F.conn_Open #[.int .i64 1] w15 fun e18 w17 => ∃ b19 : Bool, e18 = .returned (.bool b19) ∧
          k16 b19 w17)
        ∧ (b14 = false → k16 false w15))
      (fun (b20 : Bool) (w21 : World) => Q (.bool b20) w21))
    )
def A.law22_lives : AT := (.seq (.reg []) (.seq (.reg [.run, .run, .run, .split 2, .run, .run, .run, .split 2, .run, .run, .run, .split 1]) .leaf))
theorem W.law22_lives_eq  (w : World) (Q : Value → World → Prop) : W.law22_lives  w Q = DF Try.prog tk A.law22_lives Try.f16 [] w Q := by kernel_rfl
theorem W.law22_lives_ok  (w : World) (Q : Value → World → Prop) (h : W.law22_lives  w Q) : Calls Try.prog F.law22_lives #[] w fun e w1 => ∃ v, e = .returned v ∧ Q v w1 :=
  calls_of_DF hmix Try.func16 (by kernel_rfl) (Eq.mp (W.law22_lives_eq  w Q) h)

/-- stanchion/conn.Lasts -/
def W.conn_Lasts (state : Int) (w : World) (Q : Value → World → Prop) : Prop :=
  (((state : Int) == 1) = true → Q (.int .u64 30) w) ∧ (
    ((state : Int) == 1) = false → (((state : Int) == 2) = true → Q (.int .u64 300) w) ∧
    (
      ((state : Int) == 2) = false → Jn (
        fun k1 : Bool → World → Prop => (((state : Int) == 3) = true → k1 ((state : Int) == 3) w) ∧
        (((state : Int) == 3) = false → k1 ((state : Int) == 4) w))
      (
        fun (b2 : Bool) (w3 : World) => (b2 = true → Q (.int .u64 60) w3) ∧ (
          b2 = false → (((state : Int) == 5) = true → Q (.int .u64 10) w3) ∧ (
            ((state : Int) == 5) = false → (((state : Int) == 6) = true → Q (.int .u64 40) w3) ∧
            (((state : Int) == 6) = false → Q (.int .u64 0) w3))
          )
        )
      )
    )
def A.conn_Lasts : AT := (.seq (.reg []) (.seq (.seq (.reg []) (.blk (.seq (.reg []) (.cond (.seq (.reg []) .leaf) (.seq (.reg []) (.cond (.seq (.reg []) .leaf) (.seq (.jk [(8, .bool)] [3] (.seq (.reg []) (.cond .leaf (.reg [])))) (.cond (.seq (.reg []) .leaf) (.seq (.reg []) (.cond (.seq (.reg []) .leaf) (.seq (.reg []) (.cond (.seq (.reg []) .leaf) .leaf)))))))))))) (.seq (.reg []) .leaf)))
theorem W.conn_Lasts_eq (state : Int) (w : World) (Q : Value → World → Prop) : W.conn_Lasts state w Q = DF Try.prog tk A.conn_Lasts Try.f17 [.int .i64 state] w Q := by kernel_rfl
theorem W.conn_Lasts_ok (state : Int) (w : World) (Q : Value → World → Prop) (h : W.conn_Lasts state w Q) : Calls Try.prog F.conn_Lasts #[.int .i64 state] w fun e w1 => ∃ v, e = .returned v ∧ Q v w1 :=
  calls_of_DF hmix Try.func17 (by kernel_rfl) (Eq.mp (W.conn_Lasts_eq state w Q) h)

/-- stanchion/stanchionref22.Lasts -/
def W.ref22_Lasts (state : Int) (w : World) (Q : Value → World → Prop) : Prop :=
  (((decide ((state : Int) < 0)) || (decide ((state : Int) > 6))) = true → Q (.int .u64 0) w) ∧
  (
    ((decide ((state : Int) < 0)) || (decide ((state : Int) > 6))) = false → Nx (
      w.alloc (
        .cells #[.int .u64 0, .int .u64 30, .int .u64 300, .int .u64 60, .int .u64 60, .int .u64 10, .int .u64 40] Ty.uint64)
      )
    fun w1 => ∃ a2 : Addr, (some ⟨w.heap.size, 0, none⟩) = some a2 ∧ ((0 : Int) ≤ state ∧ state < ((7 : Nat) : Int)) ∧
    ∃ n3 : Int, w1.cell? (a2.add (Int.toNat state * 1)) = some (.int .u64 n3) ∧
    Q (.int .u64 n3) w1)
def A.ref22_Lasts : AT := (.seq (.reg []) (.seq (.seq (.reg [.run, .run, .run, .pure 2]) (.cond (.seq (.reg []) .leaf) .leaf)) (.seq (.reg []) (.seq (.reg []) .leaf))))
theorem W.ref22_Lasts_eq (state : Int) (w : World) (Q : Value → World → Prop) : W.ref22_Lasts state w Q = DF Try.prog tk A.ref22_Lasts Try.f18 [.int .i64 state] w Q := by kernel_rfl
theorem W.ref22_Lasts_ok (state : Int) (w : World) (Q : Value → World → Prop) (h : W.ref22_Lasts state w Q) : Calls Try.prog F.ref22_Lasts #[.int .i64 state] w fun e w1 => ∃ v, e = .returned v ∧ Q v w1 :=
  calls_of_DF hmix Try.func18 (by kernel_rfl) (Eq.mp (W.ref22_Lasts_eq state w Q) h)

/-- stanchion/conn.Open -/
def W.conn_Open (state : Int) (w : World) (Q : Value → World → Prop) : Prop :=
  Q (.bool (((decide ((state : Int) ≥ 1)) && (decide ((state : Int) ≤ 6))) && ((state : Int) != 5))) w
def A.conn_Open : AT := (.seq (.reg []) (.seq (.reg [.run, .run, .run, .pure 2, .run, .run, .run, .pure 2]) .leaf))
theorem W.conn_Open_eq (state : Int) (w : World) (Q : Value → World → Prop) : W.conn_Open state w Q = DF Try.prog tk A.conn_Open Try.f19 [.int .i64 state] w Q := by kernel_rfl
theorem W.conn_Open_ok (state : Int) (w : World) (Q : Value → World → Prop) (h : W.conn_Open state w Q) : Calls Try.prog F.conn_Open #[.int .i64 state] w fun e w1 => ∃ v, e = .returned v ∧ Q v w1 :=
  calls_of_DF hmix Try.func19 (by kernel_rfl) (Eq.mp (W.conn_Open_eq state w Q) h)

/-- stanchion/conn.UDP -/
def W.conn_UDP (x : Int) (w : World) (Q : Value → World → Prop) : Prop :=
  Q (.int .i64 6) w
def A.conn_UDP : AT := (.seq (.reg []) (.seq (.reg []) .leaf))
theorem W.conn_UDP_eq (x : Int) (w : World) (Q : Value → World → Prop) : W.conn_UDP x w Q = DF Try.prog tk A.conn_UDP Try.f20 [.int .i64 x] w Q := by kernel_rfl
theorem W.conn_UDP_ok (x : Int) (w : World) (Q : Value → World → Prop) (h : W.conn_UDP x w Q) : Calls Try.prog F.conn_UDP #[.int .i64 x] w fun e w1 => ∃ v, e = .returned v ∧ Q v w1 :=
  calls_of_DF hmix Try.func20 (by kernel_rfl) (Eq.mp (W.conn_UDP_eq x w Q) h)

/-- (*stanchion/space.Space).Free -/
def W.space_Space_Free (s : Option Addr) (no : Int) (w : World) (Q : Value → World → Prop) : Prop :=
  Calls Try.prog F.space_Space_has #[.pointer s, .int .i64 no] w fun e2 w1 =>
  ∃ b3 : Bool, e2 = .returned (.bool b3) ∧ ((!b3) = true → Q (.int .i64 1) w1) ∧
  (
    (!b3) = false → ∃ a4 : Addr, s = some a4 ∧ ∃ s5 : Sl, w1.cell? (a4.add 1) = some (.slice s5.a s5.len s5.cap) ∧
    Calls Try.prog F.space_set_has #[.slice s5.a s5.len s5.cap, .int .i64 no] w1 fun e7 w6 =>
    ∃ b8 : Bool, e7 = .returned (.bool b8) ∧ ((!b8) = true → Q (.int .i64 6) w6) ∧
    (
      (!b8) = false → ∃ a9 : Addr, s = some a9 ∧ ∃ s10 : Sl, w6.cell? (a9.add 1) = some (.slice s10.a s10.len s10.cap) ∧
      Calls Try.prog F.space_set_take #[.slice s10.a s10.len s10.cap, .int .i64 no] w6 fun e12 w11 =>
      e12 = .returned (.tuple #[]) ∧ Q (.int .i64 0) w11)
    )
def A.space_Space_Free : AT := (.seq (.reg []) (.seq (.blk (.seq (.reg []) (.cond (.seq (.reg []) .leaf) (.seq (.reg []) (.cond (.seq (.reg []) .leaf) .leaf))))) (.seq (.reg []) (.seq (.reg []) .leaf))))
theorem W.space_Space_Free_eq (s : Option Addr) (no : Int) (w : World) (Q : Value → World → Prop) : W.space_Space_Free s no w Q = DF Try.prog tk A.space_Space_Free Try.f21 [.pointer s, .int .i64 no] w Q := by kernel_rfl
theorem W.space_Space_Free_ok (s : Option Addr) (no : Int) (w : World) (Q : Value → World → Prop) (h : W.space_Space_Free s no w Q) : Calls Try.prog F.space_Space_Free #[.pointer s, .int .i64 no] w fun e w1 => ∃ v, e = .returned v ∧ Q v w1 :=
  calls_of_DF hmix Try.func21 (by kernel_rfl) (Eq.mp (W.space_Space_Free_eq s no w Q) h)

/-- (*stanchion/space.Space).Commit -/
def W.space_Space_Commit (s : Option Addr) (w : World) (Q : Value → World → Prop) : Prop :=
  (
    (!(Option.isNone s)) = true → ∃ a1 : Addr, s = some a1 ∧ ∃ s2 : Sl, w.cell? (a1.add 1) = some (.slice s2.a s2.len s2.cap) ∧
    Calls Try.prog F.slices_Clone_space_set_byte #[.slice s2.a s2.len s2.cap] w fun e4 w3 =>
    ∃ s5 : Sl, e4 = .returned (.slice s5.a s5.len s5.cap) ∧ ∃ a6 : Addr, s = some a6 ∧
    (∃ u : Value, w3.cell? (a6.add 2) = some u) ∧ w3.frozen? (a6.add 2) = false ∧
    Nx (w3.setCell (a6.add 2) (.slice s5.a s5.len s5.cap)) fun w7 => Q (.tuple #[]) w7)
  ∧ ((!(Option.isNone s)) = false → Q (.tuple #[]) w)
def A.space_Space_Commit : AT := (.seq (.reg []) (.cond (.reg []) .leaf))
theorem W.space_Space_Commit_eq (s : Option Addr) (w : World) (Q : Value → World → Prop) : W.space_Space_Commit s w Q = DF Try.prog tk A.space_Space_Commit Try.f22 [.pointer s] w Q := by kernel_rfl
theorem W.space_Space_Commit_ok (s : Option Addr) (w : World) (Q : Value → World → Prop) (h : W.space_Space_Commit s w Q) : Calls Try.prog F.space_Space_Commit #[.pointer s] w fun e w1 => ∃ v, e = .returned v ∧ Q v w1 :=
  calls_of_DF hmix Try.func22 (by kernel_rfl) (Eq.mp (W.space_Space_Commit_eq s w Q) h)

/-- (*stanchion/space.Space).Abort -/
def W.space_Space_Abort (s : Option Addr) (w : World) (Q : Value → World → Prop) : Prop :=
  (
    (!(Option.isNone s)) = true → ∃ a1 : Addr, s = some a1 ∧ ∃ s2 : Sl, w.cell? (a1.add 2) = some (.slice s2.a s2.len s2.cap) ∧
    Calls Try.prog F.slices_Clone_space_set_byte #[.slice s2.a s2.len s2.cap] w fun e4 w3 =>
    ∃ s5 : Sl, e4 = .returned (.slice s5.a s5.len s5.cap) ∧ ∃ a6 : Addr, s = some a6 ∧
    (∃ u : Value, w3.cell? (a6.add 1) = some u) ∧ w3.frozen? (a6.add 1) = false ∧
    Nx (w3.setCell (a6.add 1) (.slice s5.a s5.len s5.cap)) fun w7 => Q (.tuple #[]) w7)
  ∧ ((!(Option.isNone s)) = false → Q (.tuple #[]) w)
def A.space_Space_Abort : AT := (.seq (.reg []) (.cond (.reg []) .leaf))
theorem W.space_Space_Abort_eq (s : Option Addr) (w : World) (Q : Value → World → Prop) : W.space_Space_Abort s w Q = DF Try.prog tk A.space_Space_Abort Try.f23 [.pointer s] w Q := by kernel_rfl
theorem W.space_Space_Abort_ok (s : Option Addr) (w : World) (Q : Value → World → Prop) (h : W.space_Space_Abort s w Q) : Calls Try.prog F.space_Space_Abort #[.pointer s] w fun e w1 => ∃ v, e = .returned v ∧ Q v w1 :=
  calls_of_DF hmix Try.func23 (by kernel_rfl) (Eq.mp (W.space_Space_Abort_eq s w Q) h)

/-- stanchion/stanchionlaw01.Few -/
def W.law01_Few (b : Sl) (most : Int) (w : World) (Q : Value → World → Prop) : Prop :=
  Jn (
    fun k1 : Sl → World → Prop => (
      (decide ((((b.len : Nat) : Int) : Int) > most)) = true → ((0 : Int) ≤ most ∧ most ≤ ((b.cap : Nat) : Int)) ∧
      k1 ⟨(cutA b.a 1 0 b.cap), ((Int.toNat most) - 0), (b.cap - 0)⟩ w)
    ∧ ((decide ((((b.len : Nat) : Int) : Int) > most)) = false → k1 b w))
  (
    fun (s2 : Sl) (w3 : World) => Nx (w3.alloc (.cells #[] Ty.uint8)) fun w4 =>
    ∃ s5 : Sl, ∃ w6 : World, Sem.run Try.prog (
      Builtin.append_ #[Ty.Sl_uint8, Ty.Sl_uint8] Ty.Sl_uint8 #[.slice (some ⟨w3.heap.size, 0, none⟩) 0 0, .slice s2.a s2.len s2.cap])
    w4 = .ok (.slice s5.a s5.len s5.cap) w6 ∧ Q (.slice s5.a s5.len s5.cap) w6)
def A.law01_Few : AT := (.seq (.reg []) (.seq (.jk [(0, .slice)] [] (.seq (.reg []) (.cond (.reg []) .leaf))) (.seq (.reg []) .leaf)))
theorem W.law01_Few_eq (b : Sl) (most : Int) (w : World) (Q : Value → World → Prop) : W.law01_Few b most w Q = DF Try.prog tk A.law01_Few Try.f24 [.slice b.a b.len b.cap, .int .i64 most] w Q := by kernel_rfl
theorem W.law01_Few_ok (b : Sl) (most : Int) (w : World) (Q : Value → World → Prop) (h : W.law01_Few b most w Q) : Calls Try.prog F.law01_Few #[.slice b.a b.len b.cap, .int .i64 most] w fun e w1 => ∃ v, e = .returned v ∧ Q v w1 :=
  calls_of_DF hmix Try.func24 (by kernel_rfl) (Eq.mp (W.law01_Few_eq b most w Q) h)

/-- stanchion/space.Load -/
def W.space_Load (b : Sl) (n : Int) (w : World) (Q : Value → World → Prop) : Prop :=
  Calls Try.prog F.space_good #[.int .i64 n] w fun e2 w1 => ∃ b3 : Bool, e2 = .returned (.bool b3) ∧
  ((!b3) = true → Q (.tuple #[.pointer none, .int .i64 1]) w1) ∧ (
    (!b3) = false → Calls Try.prog F.space_size #[.int .i64 n] w1 fun e5 w4 =>
    ∃ n6 : Int, e5 = .returned (.int .i64 n6) ∧ Jn (
      fun k7 : Bool → World → Prop => (((((b.len : Nat) : Int) : Int) != n6) = true → k7 true w4) ∧
      (
        ((((b.len : Nat) : Int) : Int) != n6) = false → (8 : Int) ≠ 0 ∧ Jn (
          fun k8 : Bool → World → Prop => (
            (decide (((Int.tmod n 8) : Int) > 0)) = true → ∃ a9 : Addr, b.a = some a9 ∧
            (
              (0 : Int) ≤ (IntKind.wrap .i64 (((b.len : Nat) : Int) - 1)) ∧ (IntKind.wrap .i64 (((b.len : Nat) : Int) - 1)) < ((b.len : Nat) : Int))
            ∧ ∃ n10 : Int, w4.cell? (a9.add (Int.toNat (IntKind.wrap .i64 (((b.len : Nat) : Int) - 1)) * 1)) = some (.int .u8 n10) ∧
            (8 : Int) ≠ 0 ∧ (0 : Int) ≤ (Int.tmod n 8) ∧ k8 (decide (((Int.fdiv n10 (2 ^ (min (Int.toNat (Int.tmod n 8)) 8))) : Int) > 0)) w4)
          ∧ ((decide (((Int.tmod n 8) : Int) > 0)) = false → k8 false w4))
        (fun (b11 : Bool) (w12 : World) => k7 b11 w12))
      )
    (
      fun (b13 : Bool) (w14 : World) => (b13 = true → Q (.tuple #[.pointer none, .int .i64 4]) w14) ∧
      (
        b13 = false → Calls Try.prog F.slices_Clone_Sl_byte_byte #[.slice b.a b.len b.cap] w14 fun e16 w15 =>
        ∃ s17 : Sl, e16 = .returned (.slice s17.a s17.len s17.cap) ∧ Nx (w15.alloc (.cells #[.int .i64 n, .slice s17.a s17.len s17.cap, .slice none 0 0] Ty.space_Space)) fun w18 =>
        Calls Try.prog F.space_Space_Commit #[.pointer (some ⟨w15.heap.size, 0, none⟩)] w18 fun e20 w19 =>
        e20 = .returned (.tuple #[]) ∧ Q (.tuple #[.pointer (some ⟨w15.heap.size, 0, none⟩), .int .i64 0]) w19)
      )
    )
def A.space_Load : AT := (.seq (.reg []) (.seq (.blk (.seq (.reg []) (.cond (.seq (.reg []) .leaf) (.seq (.reg [.run, .run, .run, .run, .run, .run, .split 15, .run, .run, .run, .split 10]) (.cond (.seq (.reg []) .leaf) .leaf))))) (.seq (.reg []) (.seq (.reg []) (.seq (.reg []) .leaf)))))
theorem W.space_Load_eq (b : Sl) (n : Int) (w : World) (Q : Value → World → Prop) : W.space_Load b n w Q = DF Try.prog tk A.space_Load Try.f25 [.slice b.a b.len b.cap, .int .i64 n] w Q := by kernel_rfl
theorem W.space_Load_ok (b : Sl) (n : Int) (w : World) (Q : Value → World → Prop) (h : W.space_Load b n w Q) : Calls Try.prog F.space_Load #[.slice b.a b.len b.cap, .int .i64 n] w fun e w1 => ∃ v, e = .returned v ∧ Q v w1 :=
  calls_of_DF hmix Try.func25 (by kernel_rfl) (Eq.mp (W.space_Load_eq b n w Q) h)

/-- stanchion/stanchionref06.Load -/
def W.ref06_Load (b : Sl) (n : Int) (w : World) (Q : Value → World → Prop) : Prop :=
  (8 : Int) ≠ 0 ∧ (
    ((((b.len : Nat) : Int) : Int) != (IntKind.wrap .i64 (Int.tdiv (IntKind.wrap .i64 (n + 7)) 8))) = true →
    Q (.pointer none) w)
  ∧ (
    ((((b.len : Nat) : Int) : Int) != (IntKind.wrap .i64 (Int.tdiv (IntKind.wrap .i64 (n + 7)) 8))) = false →
    Calls Try.prog F.ref06_New #[.int .i64 n, .int .i64 0] w fun e2 w1 => ∃ p3 : Option Addr, e2 = .returned (.pointer p3) ∧
    ∃ (I4 : Int → World → Prop) (μ5 : Int → World → Nat), I4 0 w1 ∧ ∀ (n6 : Int) (w7 : World), I4 n6 w7 →
    (
      (decide ((n6 : Int) < (IntKind.wrap .i64 (8 * ((b.len : Nat) : Int))))) = true →
      Jn (
        fun k8 : World → Prop => (8 : Int) ≠ 0 ∧ ∃ a9 : Addr, b.a = some a9 ∧ (
          (0 : Int) ≤ (IntKind.wrap .i64 (Int.tdiv n6 8)) ∧ (IntKind.wrap .i64 (Int.tdiv n6 8)) < ((b.len : Nat) : Int))
        ∧ ∃ n10 : Int, w7.cell? (a9.add (Int.toNat (IntKind.wrap .i64 (Int.tdiv n6 8)) * 1)) = some (.int .u8 n10) ∧
        (8 : Int) ≠ 0 ∧ (0 : Int) ≤ (IntKind.wrap .u64 (Int.tmod n6 8)) ∧ (2 : Int) ≠ 0 ∧
        (
          (
            ((Int.tmod (Int.fdiv n10 (2 ^ (min (Int.toNat (IntKind.wrap .u64 (Int.tmod n6 8))) 8))) 2) : Int) == 1)
          = true → ((decide ((n6 : Int) ≥ n)) = true → Q (.pointer none) w7) ∧ (
            (decide ((n6 : Int) ≥ n)) = false → Nx (w7.drew) fun w11 => ∃ W12 : Nat →
            Prop, ∃ a13 : Addr, p3 = some a13 ∧ ¬ W12 a13.block ∧ ∃ s14 : Sl, w11.cell? a13 = some (.slice s14.a s14.len s14.cap) ∧
            ∃ a15 : Addr, p3 = some a15 ∧ ¬ W12 (a15.add 1).block ∧ ∃ s16 : Sl, w11.cell? (a15.add 1) = some (.slice s16.a s16.len s16.cap) ∧
            ∃ a17 : Addr, s14.a = some a17 ∧ ((0 : Int) ≤ n6 ∧ n6 < ((s14.len : Nat) : Int)) ∧
            (∃ u : Value, w11.cell? (a17.add (Int.toNat n6 * 1)) = some u) ∧ w11.frozen? (a17.add (Int.toNat n6 * 1)) = false ∧
            Nx (w11.setCell (a17.add (Int.toNat n6 * 1)) (.bool true)) fun w18 => ∃ a19 : Addr, s16.a = some a19 ∧
            ((0 : Int) ≤ n6 ∧ n6 < ((s16.len : Nat) : Int)) ∧ (∃ u : Value, w18.cell? (a19.add (Int.toNat n6 * 1)) = some u) ∧
            w18.frozen? (a19.add (Int.toNat n6 * 1)) = false ∧ Nx (w18.setCell (a19.add (Int.toNat n6 * 1)) (.bool true)) fun w20 =>
            k8 w20)
          )
        ∧ (
          (
            ((Int.tmod (Int.fdiv n10 (2 ^ (min (Int.toNat (IntKind.wrap .u64 (Int.tmod n6 8))) 8))) 2) : Int) == 1)
          = false → k8 w7)
        )
      (
        fun  (w21 : World) => I4 (IntKind.wrap .i64 (n6 + 1)) w21 ∧ μ5 (IntKind.wrap .i64 (n6 + 1)) w21 < μ5 n6 w7)
      )
    ∧ (
      (decide ((n6 : Int) < (IntKind.wrap .i64 (8 * ((b.len : Nat) : Int))))) = false →
      Q (.pointer p3) w7)
    )
def A.ref06_Load : AT := (.seq (.reg []) (.seq (.seq (.reg []) (.cond (.seq (.reg []) .leaf) .leaf)) (.seq (.reg []) (.seq (.seq (.reg []) (.blk (.loop [(6, (.int .i64))] [0, 1, 5] (.seq (.seq (.reg []) (.cond .leaf .leaf)) (.seq (.jk [] [0, 1, 5, 6] (.blk (.seq (.reg []) (.cond (.seq (.seq (.reg []) (.cond (.seq (.reg []) .leaf) .leaf)) (.drw 12 true ⟨[0, 1, 2, 4, 0, 0, 32, 64, 128, 0, 287, 1311, 4095, 8191], [0, 1, 2, 4, 0, 0, 32, 64, 128, 0, 24, 1024, 768, 4096]⟩ [68719476736, 137438953472, 274877906944, 549755813888, 1099511627776, 2199023255552, 4398046511104, 8796093022208, 17592186044416, 35184372088832, 70368744177664, 0, 140737488355328, 0] [32, 68719476736, 137438953472, 274877906944, 64, 32, 2199023255552, 4398046511104, 8796093022208, 64, 1649267441664, 70368744177664, 52776558133248, 140737488355328] (.take 0 (.take 1 (.take 2 (.take 3 (.take 4 (.take 5 (.take 6 (.take 7 (.take 8 (.take 9 (.take 10 (.out 11 false (.tail [.run, .run]))))))))))))))) .leaf)))) (.reg [])))))) (.seq (.reg []) .leaf)))))
theorem W.ref06_Load_eq (b : Sl) (n : Int) (w : World) (Q : Value → World → Prop) : W.ref06_Load b n w Q = DF Try.prog tk A.ref06_Load Try.f26 [.slice b.a b.len b.cap, .int .i64 n] w Q := by kernel_rfl
theorem W.ref06_Load_ok (b : Sl) (n : Int) (w : World) (Q : Value → World → Prop) (h : W.ref06_Load b n w Q) : Calls Try.prog F.ref06_Load #[.slice b.a b.len b.cap, .int .i64 n] w fun e w1 => ∃ v, e = .returned v ∧ Q v w1 :=
  calls_of_DF hmix Try.func26 (by kernel_rfl) (Eq.mp (W.ref06_Load_eq b n w Q) h)

/-- stanchion/stanchionlaw06.alike -/
def W.law06_alike (s : Option Addr) (x : Option Addr) (no : Int) (w : World) (Q : Value → World → Prop) : Prop :=
  Jn (
    fun k1 : Bool → World → Prop => (
      (decide ((no : Int) ≥ 0)) = true → ∃ a2 : Addr, x = some a2 ∧ ∃ s3 : Sl, w.cell? a2 = some (.slice s3.a s3.len s3.cap) ∧
      k1 (decide ((no : Int) < ((s3.len : Nat) : Int))) w)
    ∧ ((decide ((no : Int) ≥ 0)) = false → k1 false w))
  (
    fun (b4 : Bool) (w5 : World) => Nx (w5.drew) fun w6 => ∃ W7 : Nat → Prop, Calls Try.prog F.space_Space_Room #[.pointer s] w6 fun e9 w8 =>
    ∃ n10 : Int, e9 = .returned (.int .i64 n10) ∧ Calls Try.prog F.ref06_Space_Room #[.pointer x] w8 fun e12 w11 =>
    ∃ n13 : Int, e12 = .returned (.int .i64 n13) ∧ ∃ W14 : Nat → Prop, (
      ((n10 : Int) == n13) = true → Calls Try.prog F.space_Space_Used #[.pointer s] w11 fun e16 w15 =>
      ∃ s17 : Sl, e16 = .returned (.slice s17.a s17.len s17.cap) ∧ Calls Try.prog F.ref06_Space_Used #[.pointer x] w15 fun e19 w18 =>
      ∃ s20 : Sl, e19 = .returned (.slice s20.a s20.len s20.cap) ∧ Calls Try.prog F.ref03_Ints #[.slice s17.a s17.len s17.cap, .slice s20.a s20.len s20.cap] w18 fun e22 w21 =>
      ∃ b23 : Bool, e22 = .returned (.bool b23) ∧ ∃ W24 : Nat → Prop, (
        b23 = true → Calls Try.prog F.space_Space_Bytes #[.pointer s] w21 fun e26 w25 =>
        ∃ s27 : Sl, e26 = .returned (.slice s27.a s27.len s27.cap) ∧ ∃ W28 : Nat →
        Prop, ∃ s30 : ByteArray, (
          ∀ w29 : World, Chg W28 w25 w29 → Sem.run Try.prog (convert Ty.Sl_uint8 Ty.string (.slice s27.a s27.len s27.cap)) w29 = .ok (.string s30) w29)
        ∧ Calls Try.prog F.ref06_Space_Bytes #[.pointer x] w25 fun e32 w31 => ∃ s33 : Sl, e32 = .returned (.slice s33.a s33.len s33.cap) ∧
        Chg W28 w25 w31 ∧ ∃ s35 : ByteArray, (
          ∀ w34 : World, Chg W28 w31 w34 → Sem.run Try.prog (convert Ty.Sl_uint8 Ty.string (.slice s33.a s33.len s33.cap)) w34 = .ok (.string s35) w34)
        ∧ (
          (ByteArray.toList s30 == ByteArray.toList s35) = true → Calls Try.prog F.space_Space_Taken #[.pointer s, .int .i64 no] w31 fun e37 w36 =>
          ∃ b38 : Bool, e37 = .returned (.bool b38) ∧ Chg W28 w31 w36 ∧ (
            b4 = true → ∃ a39 : Addr, x = some a39 ∧ ¬ W28 a39.block ∧ ∃ s40 : Sl, w36.cell? a39 = some (.slice s40.a s40.len s40.cap) ∧
            ∃ a41 : Addr, s40.a = some a41 ∧ ((0 : Int) ≤ no ∧ no < ((s40.len : Nat) : Int)) ∧
            ¬ W28 (a41.add (Int.toNat no * 1)).block ∧ ∃ b42 : Bool, w36.cell? (a41.add (Int.toNat no * 1)) = some (.bool b42) ∧
            (
              (b38 == b42) = true → Calls Try.prog F.space_Space_Fresh #[.pointer s, .int .i64 no] w36 fun e44 w43 =>
              ∃ b45 : Bool, e44 = .returned (.bool b45) ∧ Chg W28 w36 w43 ∧ (
                b4 = true → ∃ a46 : Addr, x = some a46 ∧ ¬ W28 a46.block ∧ ∃ s47 : Sl, w43.cell? a46 = some (.slice s47.a s47.len s47.cap) ∧
                ∃ a48 : Addr, s47.a = some a48 ∧ ((0 : Int) ≤ no ∧ no < ((s47.len : Nat) : Int)) ∧
                ¬ W28 (a48.add (Int.toNat no * 1)).block ∧ ∃ b49 : Bool, w43.cell? (a48.add (Int.toNat no * 1)) = some (.bool b49) ∧
                (
                  b49 = true → ∃ a50 : Addr, x = some a50 ∧ ¬ W28 (a50.add 1).block ∧ ∃ s51 : Sl, w43.cell? (a50.add 1) = some (.slice s51.a s51.len s51.cap) ∧
                  ∃ a52 : Addr, s51.a = some a52 ∧ ((0 : Int) ≤ no ∧ no < ((s51.len : Nat) : Int)) ∧
                  ∃ b53 : Bool, w43.cell? (a52.add (Int.toNat no * 1)) = some (.bool b53) ∧
                  Q (.bool (b45 == (!b53))) w43)
                ∧ (b49 = false → Q (.bool (b45 == false)) w43))
              ∧ (b4 = false → Q (.bool (b45 == false)) w43))
            ∧ ((b38 == b42) = false → Q (.bool false) w36))
          ∧ (
            b4 = false → (
              (b38 == false) = true → Calls Try.prog F.space_Space_Fresh #[.pointer s, .int .i64 no] w36 fun e55 w54 =>
              ∃ b56 : Bool, e55 = .returned (.bool b56) ∧ Chg W28 w36 w54 ∧ (
                b4 = true → ∃ a57 : Addr, x = some a57 ∧ ¬ W28 a57.block ∧ ∃ s58 : Sl, w54.cell? a57 = some (.slice s58.a s58.len s58.cap) ∧
                ∃ a59 : Addr, s58.a = some a59 ∧ ((0 : Int) ≤ no ∧ no < ((s58.len : Nat) : Int)) ∧
                ¬ W28 (a59.add (Int.toNat no * 1)).block ∧ ∃ b60 : Bool, w54.cell? (a59.add (Int.toNat no * 1)) = some (.bool b60) ∧
                (
                  b60 = true → ∃ a61 : Addr, x = some a61 ∧ ¬ W28 (a61.add 1).block ∧ ∃ s62 : Sl, w54.cell? (a61.add 1) = some (.slice s62.a s62.len s62.cap) ∧
                  ∃ a63 : Addr, s62.a = some a63 ∧ ((0 : Int) ≤ no ∧ no < ((s62.len : Nat) : Int)) ∧
                  ∃ b64 : Bool, w54.cell? (a63.add (Int.toNat no * 1)) = some (.bool b64) ∧
                  Q (.bool (b56 == (!b64))) w54)
                ∧ (b60 = false → Q (.bool (b56 == false)) w54))
              ∧ (b4 = false → Q (.bool (b56 == false)) w54))
            ∧ ((b38 == false) = false → Q (.bool false) w36))
          )
        ∧ ((ByteArray.toList s30 == ByteArray.toList s35) = false → Q (.bool false) w31))
      ∧ (b23 = false → Q (.bool false) w21))
    ∧ (((n10 : Int) == n13) = false → Q (.bool false) w11))
def A.law06_alike : AT := (.seq (.reg []) (.seq (.reg [.run, .run, .run, .split 7]) (.seq (.drw 57 true ⟨[0, 1, 0, 6, 10, 24, 32, 96, 32, 416, 672, 1056, 3072, 4096, 12288, 20480, 4096, 86016, 135168, 299008, 528384, 1179648, 2097152, 2097152, 14680064, 2097152, 52428800, 67108864, 201326592, 335544320, 603979776, 67108864, 3288334336, 4362076160, 8659140608, 17198743552, 34361835520, 68786585600, 137438953472, 137438953472, 962072674304, 137438953472, 3435973836800, 4398046511104, 13194139533312, 21990232555520, 39582418599936, 4398046511104, 215504279044096, 285873023221760, 567485438885888, 1130435392307200, 2251799813685248, 6755399441055744, 11258999068426240, 20266198323167232, 2251799813685248, 110338190870577152, 146366987889541120, 290482175965396992, 578712689556062208, 1152922741557428224, 2305843146652647424, 9223372036854775807], [0, 1, 0, 4, 10, 16, 32, 96, 32, 288, 672, 1056, 2048, 4096, 12288, 20480, 4096, 69632, 135168, 299008, 528384, 1048576, 2097152, 2097152, 14680064, 2097152, 35651584, 67108864, 201326592, 335544320, 603979776, 67108864, 3288334336, 4362076160, 8659140608, 17198743552, 34361835520, 68719476736, 137438953472, 137438953472, 962072674304, 137438953472, 2336462209024, 4398046511104, 13194139533312, 21990232555520, 39582418599936, 4398046511104, 215504279044096, 285873023221760, 567485438885888, 1126037345796096, 2251799813685248, 6755399441055744, 11258999068426240, 20266198323167232, 2251799813685248, 110338190870577152, 146366987889541120, 290482175965396992, 578712689556062208, 1152922741557428224, 2305843146652647424, 4611686018427387904]⟩ [524288, 1048576, 2097152, 4194304, 8388608, 16777216, 33554432, 67108864, 134217728, 268435456, 536870912, 1073741824, 2147483648, 4294967296, 8589934592, 17179869184, 34359738368, 68719476736, 137438953472, 274877906944, 549755813888, 1099511627776, 2199023255552, 4398046511104, 8796093022208, 17592186044416, 35184372088832, 70368744177664, 140737488355328, 281474976710656, 562949953421312, 1125899906842624, 2251799813685248, 4503599627370496, 9007199254740992, 18014398509481984, 36028797018963968, 72057594037927936, 144115188075855872, 288230376151711744, 576460752303423488, 1152921504606846976, 2305843009213693952, 4611686018427387904, 9223372036854775808, 18446744073709551616, 36893488147419103232, 73786976294838206464, 147573952589676412928, 295147905179352825856, 590295810358705651712, 1180591620717411303424, 2361183241434822606848, 4722366482869645213696, 9444732965739290427392, 18889465931478580854784, 37778931862957161709568, 75557863725914323419136, 151115727451828646838272, 302231454903657293676544, 604462909807314587353088, 1208925819614629174706176, 2417851639229258349412352, 64] [1, 524288, 2, 2097152, 5242880, 8388608, 16777217, 50331648, 16777218, 150994944, 352321536, 553648128, 1073741824, 2147483649, 6442450944, 10737418240, 2147483650, 36507222016, 70866960384, 156766306304, 277025390592, 549755813888, 1099511627777, 1099511627780, 7696581394432, 1099511627904, 18691697672192, 35184372088834, 105553116266496, 175921860444160, 316659348799488, 35184372088836, 1724034232352768, 2286984185774080, 4539883511087104, 9017094859390976, 18015498021109760, 36028797018963968, 72057594037927937, 72057594037927940, 504403158265495552, 72057594037928064, 1224979098644774912, 2305843009213693954, 6917529027641081856, 11529215046068469760, 20752587082923245568, 2305843009213693956, 112986307451471003648, 149879795598890106880, 297525805782604447744, 590367867952743579648, 1180591620717411303426, 3541774862152233910272, 5902958103587056517120, 10625324586456701730816, 1180591620717411303428, 57848989415153153867776, 76738455346631734722560, 152296319072546058141696, 303412118581968742907904, 604463558325660928704512, 1208925891672223212634112, 2417851639229258349412352] (.take 0 (.take 2 (.out 1 false (.out 3 true (.take 4 (.take 5 (.sp 24 (.take 6 (.take 8 (.out 7 false (.out 9 false (.out 10 true (.take 11 (.take 12 (.sp 31 (.take 13 (.take 16 (.out 14 true (.take 15 (.eff 17 (.take 18 (.take 19 (.take 20 (.take 21 (.sp 40 (.take 22 (.take 23 (.take 25 (.eff 24 (.take 26 (.sp 45 (.take 27 (.take 28 (.take 29 (.take 30 (.take 31 (.take 32 (.take 33 (.take 34 (.take 35 (.take 36 (.take 37 (.sp 56 (.take 38 (.take 39 (.take 41 (.eff 40 (.take 42 (.sp 61 (.take 43 (.take 44 (.take 45 (.take 46 (.take 47 (.take 48 (.take 49 (.take 50 (.take 51 (.sp 70 (.take 52 (.take 53 (.take 54 (.take 55 (.take 56 (.tail [.run, .run, .run, .run, .run, .run, .run])))))) (.take 52 (.take 53 (.take 54 (.take 55 (.take 56 (.tail [.run, .run, .run, .run, .run, .run, .run])))))))))))))))) (.take 43 (.take 44 (.take 45 (.take 46 (.take 47 (.take 48 (.take 49 (.take 50 (.take 51 (.take 52 (.take 53 (.take 54 (.take 55 (.take 56 (.tail [.run, .run, .run, .run, .run, .run, .run]))))))))))))))))))))) (.take 38 (.take 39 (.take 40 (.take 41 (.take 42 (.take 43 (.take 44 (.take 45 (.take 46 (.take 47 (.take 48 (.take 49 (.take 50 (.take 51 (.take 52 (.take 53 (.take 54 (.take 55 (.take 56 (.tail [.run, .run, .run, .run, .run, .run, .run])))))))))))))))))))))))))))))))) (.take 27 (.take 28 (.take 29 (.take 30 (.take 31 (.take 32 (.take 33 (.take 34 (.take 35 (.take 36 (.take 37 (.sp 56 (.take 38 (.take 39 (.take 41 (.eff 40 (.take 42 (.sp 61 (.take 43 (.take 44 (.take 45 (.take 46 (.take 47 (.take 48 (.take 49 (.take 50 (.take 51 (.sp 70 (.take 52 (.take 53 (.take 54 (.take 55 (.take 56 (.tail [.run, .run, .run, .run, .run, .run, .run])))))) (.take 52 (.take 53 (.take 54 (.take 55 (.take 56 (.tail [.run, .run, .run, .run, .run, .run, .run])))))))))))))))) (.take 43 (.take 44 (.take 45 (.take 46 (.take 47 (.take 48 (.take 49 (.take 50 (.take 51 (.take 52 (.take 53 (.take 54 (.take 55 (.take 56 (.tail [.run, .run, .run, .run, .run, .run, .run]))))))))))))))))))))) (.take 38 (.take 39 (.take 40 (.take 41 (.take 42 (.take 43 (.take 44 (.take 45 (.take 46 (.take 47 (.take 48 (.take 49 (.take 50 (.take 51 (.take 52 (.take 53 (.take 54 (.take 55 (.take 56 (.tail [.run, .run, .run, .run, .run, .run, .run])))))))))))))))))))))))))))))))))))))) (.take 22 (.take 23 (.take 24 (.take 25 (.take 26 (.take 27 (.take 28 (.take 29 (.take 30 (.take 31 (.take 32 (.take 33 (.take 34 (.take 35 (.take 36 (.take 37 (.take 38 (.take 39 (.take 40 (.take 41 (.take 42 (.take 43 (.take 44 (.take 45 (.take 46 (.take 47 (.take 48 (.take 49 (.take 50 (.take 51 (.take 52 (.take 53 (.take 54 (.take 55 (.take 56 (.tail [.run, .run, .run, .run, .run, .run, .run])))))))))))))))))))))))))))))))))))))))))))))) (.take 13 (.take 14 (.take 15 (.take 16 (.take 17 (.take 18 (.take 19 (.take 20 (.take 21 (.take 22 (.take 23 (.take 24 (.take 25 (.take 26 (.take 27 (.take 28 (.take 29 (.take 30 (.take 31 (.take 32 (.take 33 (.take 34 (.take 35 (.take 36 (.take 37 (.take 38 (.take 39 (.take 40 (.take 41 (.take 42 (.take 43 (.take 44 (.take 45 (.take 46 (.take 47 (.take 48 (.take 49 (.take 50 (.take 51 (.take 52 (.take 53 (.take 54 (.take 55 (.take 56 (.tail [.run, .run, .run, .run, .run, .run, .run]))))))))))))))))))))))))))))))))))))))))))))))))))))) (.take 6 (.take 7 (.take 8 (.take 9 (.take 10 (.take 11 (.take 12 (.take 13 (.take 14 (.take 15 (.take 16 (.take 17 (.take 18 (.take 19 (.take 20 (.take 21 (.take 22 (.take 23 (.take 24 (.take 25 (.take 26 (.take 27 (.take 28 (.take 29 (.take 30 (.take 31 (.take 32 (.take 33 (.take 34 (.take 35 (.take 36 (.take 37 (.take 38 (.take 39 (.take 40 (.take 41 (.take 42 (.take 43 (.take 44 (.take 45 (.take 46 (.take 47 (.take 48 (.take 49 (.take 50 (.take 51 (.take 52 (.take 53 (.take 54 (.take 55 (.take 56 (.tail [.run, .run, .run, .run, .run, .run, .run])))))))))))))))))))))))))))))))))))))))))))))))))))))))))))) .leaf)))
theorem W.law06_alike_eq (s : Option Addr) (x : Option Addr) (no : Int) (w : World) (Q : Value → World → Prop) : W.law06_alike s x no w Q = DF Try.prog tk A.law06_alike Try.f27 [.pointer s, .pointer x, .int .i64 no] w Q := by kernel_rfl
theorem W.law06_alike_ok (s : Option Addr) (x : Option Addr) (no : Int) (w : World) (Q : Value → World → Prop) (h : W.law06_alike s x no w Q) : Calls Try.prog F.law06_alike #[.pointer s, .pointer x, .int .i64 no] w fun e w1 => ∃ v, e = .returned v ∧ Q v w1 :=
  calls_of_DF hmix Try.func27 (by kernel_rfl) (Eq.mp (W.law06_alike_eq s x no w Q) h)

/-- (*stanchion/space.Space).Bytes -/
def W.space_Space_Bytes (s : Option Addr) (w : World) (Q : Value → World → Prop) : Prop :=
  ((Option.isNone s) = true → Q (.slice none 0 0) w) ∧ (
    (Option.isNone s) = false → ∃ a1 : Addr, s = some a1 ∧ ∃ s2 : Sl, w.cell? (a1.add 1) = some (.slice s2.a s2.len s2.cap) ∧
    Calls Try.prog F.slices_Clone_Sl_byte_byte #[.slice s2.a s2.len s2.cap] w fun e4 w3 =>
    ∃ s5 : Sl, e4 = .returned (.slice s5.a s5.len s5.cap) ∧ Q (.slice s5.a s5.len s5.cap) w3)
def A.space_Space_Bytes : AT := (.seq (.reg []) (.seq (.seq (.reg []) (.cond (.seq (.reg []) .leaf) .leaf)) (.seq (.reg []) .leaf)))
theorem W.space_Space_Bytes_eq (s : Option Addr) (w : World) (Q : Value → World → Prop) : W.space_Space_Bytes s w Q = DF Try.prog tk A.space_Space_Bytes Try.f28 [.pointer s] w Q := by kernel_rfl
theorem W.space_Space_Bytes_ok (s : Option Addr) (w : World) (Q : Value → World → Prop) (h : W.space_Space_Bytes s w Q) : Calls Try.prog F.space_Space_Bytes #[.pointer s] w fun e w1 => ∃ v, e = .returned v ∧ Q v w1 :=
  calls_of_DF hmix Try.func28 (by kernel_rfl) (Eq.mp (W.space_Space_Bytes_eq s w Q) h)

/-- stanchion/stanchionref06.New -/
def W.ref06_New (n : Int) (first : Int) (w : World) (Q : Value → World → Prop) : Prop :=
  Nx (w.alloc (.cells #[.slice none 0 0, .slice none 0 0] Ty.ref06_Space)) fun w1 =>
  ∃ (I2 : Int → World → Prop) (μ3 : Int → World → Nat), I2 0 w1 ∧ ∀ (n4 : Int) (w5 : World), I2 n4 w5 →
  (
    (decide ((n4 : Int) < n)) = true → Nx (w5.drew) fun w6 => ∃ W7 : Nat → Prop, ∃ a8 : Addr, (some ⟨w.heap.size, 0, none⟩ : Option Addr) = some a8 ∧
    ¬ W7 a8.block ∧ ∃ s9 : Sl, w6.cell? a8 = some (.slice s9.a s9.len s9.cap) ∧
    ∃ a10 : Addr, (some ⟨w.heap.size, 0, none⟩ : Option Addr) = some a10 ∧ ¬ W7 (a10.add 1).block ∧
    ∃ s11 : Sl, w6.cell? (a10.add 1) = some (.slice s11.a s11.len s11.cap) ∧ (
      Nx (w6.alloc (.cells #[.bool (decide ((n4 : Int) < first))] Ty.bool)) fun w12 =>
      Chg W7 w6 w12 ∧ (
        ∃ s13 : Sl, ∃ w14 : World, Sem.run Try.prog (
          Builtin.append_ #[Ty.Sl_bool, Ty.Sl_bool] Ty.Sl_bool #[.slice s9.a s9.len s9.cap, .slice (some ⟨w6.heap.size, 0, none⟩) 1 1])
        w12 = .ok (.slice s13.a s13.len s13.cap) w14 ∧ Chg W7 w12 w14 ∧ Nx (w14.alloc (.cells #[.bool (decide ((n4 : Int) < first))] Ty.bool)) fun w15 =>
        Chg W7 w14 w15 ∧ ∃ s16 : Sl, ∃ w17 : World, Sem.run Try.prog (
          Builtin.append_ #[Ty.Sl_bool, Ty.Sl_bool] Ty.Sl_bool #[.slice s11.a s11.len s11.cap, .slice (some ⟨w14.heap.size, 0, none⟩) 1 1])
        w15 = .ok (.slice s16.a s16.len s16.cap) w17 ∧ Chg W7 w15 w17 ∧ ∃ a18 : Addr, (some ⟨w.heap.size, 0, none⟩ : Option Addr) = some a18 ∧
        (∃ u : Value, w17.cell? a18 = some u) ∧ w17.frozen? a18 = false ∧ Nx (w17.setCell a18 (.slice s13.a s13.len s13.cap)) fun w19 =>
        ∃ a20 : Addr, (some ⟨w.heap.size, 0, none⟩ : Option Addr) = some a20 ∧ (∃ u : Value, w19.cell? (a20.add 1) = some u) ∧
        w19.frozen? (a20.add 1) = false ∧ Nx (w19.setCell (a20.add 1) (.slice s16.a s16.len s16.cap)) fun w21 =>
        I2 (IntKind.wrap .i64 (n4 + 1)) w21 ∧ μ3 (IntKind.wrap .i64 (n4 + 1)) w21 < μ3 n4 w5)
      ∧ (
        Nx (w12.alloc (.cells #[.bool (decide ((n4 : Int) < first))] Ty.bool)) fun w22 =>
        Chg W7 w12 w22 ∧ ∃ s23 : Sl, ∃ w24 : World, Sem.run Try.prog (
          Builtin.append_ #[Ty.Sl_bool, Ty.Sl_bool] Ty.Sl_bool #[.slice s9.a s9.len s9.cap, .slice (some ⟨w6.heap.size, 0, none⟩) 1 1])
        w22 = .ok (.slice s23.a s23.len s23.cap) w24 ∧ Chg W7 w22 w24 ∧ ∃ s25 : Sl, ∃ w26 : World, Sem.run Try.prog (
          Builtin.append_ #[Ty.Sl_bool, Ty.Sl_bool] Ty.Sl_bool #[.slice s11.a s11.len s11.cap, .slice (some ⟨w12.heap.size, 0, none⟩) 1 1])
        w24 = .ok (.slice s25.a s25.len s25.cap) w26 ∧ Chg W7 w24 w26 ∧ ∃ a27 : Addr, (some ⟨w.heap.size, 0, none⟩ : Option Addr) = some a27 ∧
        (∃ u : Value, w26.cell? a27 = some u) ∧ w26.frozen? a27 = false ∧ Nx (w26.setCell a27 (.slice s23.a s23.len s23.cap)) fun w28 =>
        ∃ a29 : Addr, (some ⟨w.heap.size, 0, none⟩ : Option Addr) = some a29 ∧ (∃ u : Value, w28.cell? (a29.add 1) = some u) ∧
        w28.frozen? (a29.add 1) = false ∧ Nx (w28.setCell (a29.add 1) (.slice s25.a s25.len s25.cap)) fun w30 =>
        I2 (IntKind.wrap .i64 (n4 + 1)) w30 ∧ μ3 (IntKind.wrap .i64 (n4 + 1)) w30 < μ3 n4 w5)
      )
    ∧ (
      Nx (w6.alloc (.cells #[.bool (decide ((n4 : Int) < first))] Ty.bool)) fun w31 =>
      Chg W7 w6 w31 ∧ Nx (w31.alloc (.cells #[.bool (decide ((n4 : Int) < first))] Ty.bool)) fun w32 =>
      Chg W7 w31 w32 ∧ ∃ s33 : Sl, ∃ w34 : World, Sem.run Try.prog (
        Builtin.append_ #[Ty.Sl_bool, Ty.Sl_bool] Ty.Sl_bool #[.slice s9.a s9.len s9.cap, .slice (some ⟨w31.heap.size, 0, none⟩) 1 1])
      w32 = .ok (.slice s33.a s33.len s33.cap) w34 ∧ Chg W7 w32 w34 ∧ ∃ s35 : Sl, ∃ w36 : World, Sem.run Try.prog (
        Builtin.append_ #[Ty.Sl_bool, Ty.Sl_bool] Ty.Sl_bool #[.slice s11.a s11.len s11.cap, .slice (some ⟨w6.heap.size, 0, none⟩) 1 1])
      w34 = .ok (.slice s35.a s35.len s35.cap) w36 ∧ Chg W7 w34 w36 ∧ ∃ a37 : Addr, (some ⟨w.heap.size, 0, none⟩ : Option Addr) = some a37 ∧
      (∃ u : Value, w36.cell? a37 = some u) ∧ w36.frozen? a37 = false ∧ Nx (w36.setCell a37 (.slice s33.a s33.len s33.cap)) fun w38 =>
      ∃ a39 : Addr, (some ⟨w.heap.size, 0, none⟩ : Option Addr) = some a39 ∧ (∃ u : Value, w38.cell? (a39.add 1) = some u) ∧
      w38.frozen? (a39.add 1) = false ∧ Nx (w38.setCell (a39.add 1) (.slice s35.a s35.len s35.cap)) fun w40 =>
      I2 (IntKind.wrap .i64 (n4 + 1)) w40 ∧ μ3 (IntKind.wrap .i64 (n4 + 1)) w40 < μ3 n4 w5)
    )
  ∧ ((decide ((n4 : Int) < n)) = false → Q (.pointer (some ⟨w.heap.size, 0, none⟩)) w5)
def A.ref06_New : AT := (.seq (.reg []) (.seq (.reg []) (.seq (.seq (.reg []) (.blk (.loop [(6, (.int .i64))] [0, 1, 5] (.seq (.seq (.reg []) (.cond .leaf .leaf)) (.seq (.blk (.drw 23 true ⟨[0, 0, 0, 4, 8, 16, 0, 0, 192, 256, 544, 0, 2048, 4096, 8192, 0, 0, 98304, 131072, 279552, 542717, 1591293, 2639869, 8388607, 16777215, 25165823], [0, 0, 0, 4, 8, 16, 0, 0, 192, 256, 544, 0, 2048, 4096, 8192, 0, 0, 98304, 131072, 278528, 1, 1048576, 2098176, 2, 8388608, 17301504]⟩ [16384, 32768, 65536, 131072, 262144, 524288, 1048576, 2097152, 4194304, 8388608, 16777216, 33554432, 67108864, 134217728, 268435456, 536870912, 1073741824, 2147483648, 4294967296, 8589934592, 17179869184, 34359738368, 0, 68719476736, 137438953472, 0] [32, 32, 32, 65536, 131072, 262144, 64, 2, 3145728, 4194304, 8912896, 32, 33554432, 67108864, 134217728, 64, 2, 1610612736, 2147483648, 4563402752, 16384, 17179869184, 34376515584, 32768, 68719476736, 146028888064] (.take 0 (.take 1 (.take 2 (.take 3 (.take 4 (.take 5 (.take 6 (.take 7 (.take 8 (.take 11 (.take 12 (.take 13 (.take 14 (.take 15 (.take 16 (.take 17 (.two 9 (.two 10 (.eff 18 (.eff 19 (.take 20 (.take 21 (.out 22 false (.tail [.run, .run, .run])))))) 18 (.eff 10 (.eff 19 (.take 20 (.take 21 (.out 22 false (.tail [.run, .run, .run]))))))) 18 (.eff 9 (.eff 10 (.eff 19 (.take 20 (.take 21 (.out 22 false (.tail [.run, .run, .run])))))))))))))))))))))))))) (.reg [])))))) (.seq (.reg []) .leaf))))
theorem W.ref06_New_eq (n : Int) (first : Int) (w : World) (Q : Value → World → Prop) : W.ref06_New n first w Q = DF Try.prog tk A.ref06_New Try.f29 [.int .i64 n, .int .i64 first] w Q := by kernel_rfl
theorem W.ref06_New_ok (n : Int) (first : Int) (w : World) (Q : Value → World → Prop) (h : W.ref06_New n first w Q) : Calls Try.prog F.ref06_New #[.int .i64 n, .int .i64 first] w fun e w1 => ∃ v, e = .returned v ∧ Q v w1 :=
  calls_of_DF hmix Try.func29 (by kernel_rfl) (Eq.mp (W.ref06_New_eq n first w Q) h)

/-- (*stanchion/stanchionref06.Space).Free -/
def W.ref06_Space_Free (s : Option Addr) (no : Int) (w : World) (Q : Value → World → Prop) : Prop :=
  Jn (
    fun k1 : Bool → World → Prop => ((decide ((no : Int) < 0)) = true → k1 true w) ∧
    (
      (decide ((no : Int) < 0)) = false → ∃ a2 : Addr, s = some a2 ∧ ∃ s3 : Sl, w.cell? a2 = some (.slice s3.a s3.len s3.cap) ∧
      k1 (decide ((no : Int) ≥ ((s3.len : Nat) : Int))) w)
    )
  (
    fun (b4 : Bool) (w5 : World) => (b4 = true → Q (.int .i64 1) w5) ∧ (
      b4 = false → ∃ a6 : Addr, s = some a6 ∧ ∃ s7 : Sl, w5.cell? a6 = some (.slice s7.a s7.len s7.cap) ∧
      ∃ a8 : Addr, s7.a = some a8 ∧ ((0 : Int) ≤ no ∧ no < ((s7.len : Nat) : Int)) ∧
      ∃ b9 : Bool, w5.cell? (a8.add (Int.toNat no * 1)) = some (.bool b9) ∧ ((!b9) = true → Q (.int .i64 6) w5) ∧
      (
        (!b9) = false → ∃ a10 : Addr, s = some a10 ∧ ∃ s11 : Sl, w5.cell? a10 = some (.slice s11.a s11.len s11.cap) ∧
        ∃ a12 : Addr, s11.a = some a12 ∧ ((0 : Int) ≤ no ∧ no < ((s11.len : Nat) : Int)) ∧
        (∃ u : Value, w5.cell? (a12.add (Int.toNat no * 1)) = some u) ∧ w5.frozen? (a12.add (Int.toNat no * 1)) = false ∧
        Nx (w5.setCell (a12.add (Int.toNat no * 1)) (.bool false)) fun w13 => Q (.int .i64 0) w13)
      )
    )
def A.ref06_Space_Free : AT := (.seq (.reg []) (.seq (.seq (.reg [.run, .run, .run, .split 7]) (.cond (.seq (.reg []) .leaf) .leaf)) (.seq (.seq (.reg []) (.cond (.seq (.reg []) .leaf) .leaf)) (.seq (.reg []) (.seq (.reg []) .leaf)))))
theorem W.ref06_Space_Free_eq (s : Option Addr) (no : Int) (w : World) (Q : Value → World → Prop) : W.ref06_Space_Free s no w Q = DF Try.prog tk A.ref06_Space_Free Try.f30 [.pointer s, .int .i64 no] w Q := by kernel_rfl
theorem W.ref06_Space_Free_ok (s : Option Addr) (no : Int) (w : World) (Q : Value → World → Prop) (h : W.ref06_Space_Free s no w Q) : Calls Try.prog F.ref06_Space_Free #[.pointer s, .int .i64 no] w fun e w1 => ∃ v, e = .returned v ∧ Q v w1 :=
  calls_of_DF hmix Try.func30 (by kernel_rfl) (Eq.mp (W.ref06_Space_Free_eq s no w Q) h)

/-- (*stanchion/stanchionref06.Space).Commit -/
def W.ref06_Space_Commit (s : Option Addr) (w : World) (Q : Value → World → Prop) : Prop :=
  Nx (w.alloc (.cells #[] Ty.bool)) fun w1 => ∃ a2 : Addr, s = some a2 ∧ ∃ s3 : Sl, w1.cell? a2 = some (.slice s3.a s3.len s3.cap) ∧
  ∃ s4 : Sl, ∃ w5 : World, Sem.run Try.prog (
    Builtin.append_ #[Ty.Sl_bool, Ty.Sl_bool] Ty.Sl_bool #[.slice (some ⟨w.heap.size, 0, none⟩) 0 0, .slice s3.a s3.len s3.cap])
  w1 = .ok (.slice s4.a s4.len s4.cap) w5 ∧ ∃ a6 : Addr, s = some a6 ∧ (∃ u : Value, w5.cell? (a6.add 1) = some u) ∧
  w5.frozen? (a6.add 1) = false ∧ Nx (w5.setCell (a6.add 1) (.slice s4.a s4.len s4.cap)) fun w7 =>
  Q (.tuple #[]) w7
def A.ref06_Space_Commit : AT := (.reg [])
theorem W.ref06_Space_Commit_eq (s : Option Addr) (w : World) (Q : Value → World → Prop) : W.ref06_Space_Commit s w Q = DF Try.prog tk A.ref06_Space_Commit Try.f31 [.pointer s] w Q := by kernel_rfl
theorem W.ref06_Space_Commit_ok (s : Option Addr) (w : World) (Q : Value → World → Prop) (h : W.ref06_Space_Commit s w Q) : Calls Try.prog F.ref06_Space_Commit #[.pointer s] w fun e w1 => ∃ v, e = .returned v ∧ Q v w1 :=
  calls_of_DF hmix Try.func31 (by kernel_rfl) (Eq.mp (W.ref06_Space_Commit_eq s w Q) h)

/-- (*stanchion/stanchionref06.Space).Abort -/
def W.ref06_Space_Abort (s : Option Addr) (w : World) (Q : Value → World → Prop) : Prop :=
  Nx (w.alloc (.cells #[] Ty.bool)) fun w1 => ∃ a2 : Addr, s = some a2 ∧ ∃ s3 : Sl, w1.cell? (a2.add 1) = some (.slice s3.a s3.len s3.cap) ∧
  ∃ s4 : Sl, ∃ w5 : World, Sem.run Try.prog (
    Builtin.append_ #[Ty.Sl_bool, Ty.Sl_bool] Ty.Sl_bool #[.slice (some ⟨w.heap.size, 0, none⟩) 0 0, .slice s3.a s3.len s3.cap])
  w1 = .ok (.slice s4.a s4.len s4.cap) w5 ∧ ∃ a6 : Addr, s = some a6 ∧ (∃ u : Value, w5.cell? a6 = some u) ∧
  w5.frozen? a6 = false ∧ Nx (w5.setCell a6 (.slice s4.a s4.len s4.cap)) fun w7 =>
  Q (.tuple #[]) w7
def A.ref06_Space_Abort : AT := (.reg [])
theorem W.ref06_Space_Abort_eq (s : Option Addr) (w : World) (Q : Value → World → Prop) : W.ref06_Space_Abort s w Q = DF Try.prog tk A.ref06_Space_Abort Try.f32 [.pointer s] w Q := by kernel_rfl
theorem W.ref06_Space_Abort_ok (s : Option Addr) (w : World) (Q : Value → World → Prop) (h : W.ref06_Space_Abort s w Q) : Calls Try.prog F.ref06_Space_Abort #[.pointer s] w fun e w1 => ∃ v, e = .returned v ∧ Q v w1 :=
  calls_of_DF hmix Try.func32 (by kernel_rfl) (Eq.mp (W.ref06_Space_Abort_eq s w Q) h)

/-- (*stanchion/stanchionref06.Space).Alloc -/
def W.ref06_Space_Alloc (s : Option Addr) (w : World) (Q : Value → World → Prop) : Prop :=
  ∃ (I1 : Int → World → Prop) (μ2 : Int → World → Nat), I1 0 w ∧ ∀ (n3 : Int) (w4 : World), I1 n3 w4 →
  ∃ a5 : Addr, s = some a5 ∧ ∃ s6 : Sl, w4.cell? a5 = some (.slice s6.a s6.len s6.cap) ∧
  (
    (decide ((n3 : Int) < ((s6.len : Nat) : Int))) = true → ∃ a7 : Addr, s = some a7 ∧
    ∃ s8 : Sl, w4.cell? a7 = some (.slice s8.a s8.len s8.cap) ∧ ∃ a9 : Addr, s8.a = some a9 ∧
    ((0 : Int) ≤ n3 ∧ n3 < ((s8.len : Nat) : Int)) ∧ ∃ b10 : Bool, w4.cell? (a9.add (Int.toNat n3 * 1)) = some (.bool b10) ∧
    Jn (
      fun k11 : Bool → World → Prop => (
        (!b10) = true → ∃ a12 : Addr, s = some a12 ∧ ∃ s13 : Sl, w4.cell? (a12.add 1) = some (.slice s13.a s13.len s13.cap) ∧
        ∃ a14 : Addr, s13.a = some a14 ∧ ((0 : Int) ≤ n3 ∧ n3 < ((s13.len : Nat) : Int)) ∧
        ∃ b15 : Bool, w4.cell? (a14.add (Int.toNat n3 * 1)) = some (.bool b15) ∧ k11 (!b15) w4)
      ∧ ((!b10) = false → k11 false w4))
    (
      fun (b16 : Bool) (w17 : World) => (
        b16 = true → ∃ a18 : Addr, s = some a18 ∧ ∃ s19 : Sl, w17.cell? a18 = some (.slice s19.a s19.len s19.cap) ∧
        ∃ a20 : Addr, s19.a = some a20 ∧ ((0 : Int) ≤ n3 ∧ n3 < ((s19.len : Nat) : Int)) ∧
        (∃ u : Value, w17.cell? (a20.add (Int.toNat n3 * 1)) = some u) ∧ w17.frozen? (a20.add (Int.toNat n3 * 1)) = false ∧
        Nx (w17.setCell (a20.add (Int.toNat n3 * 1)) (.bool true)) fun w21 => Q (.tuple #[.int .i64 n3, .int .i64 0]) w21)
      ∧ (b16 = false → I1 (IntKind.wrap .i64 (n3 + 1)) w17 ∧ μ2 (IntKind.wrap .i64 (n3 + 1)) w17 < μ2 n3 w4))
    )
  ∧ (
    (decide ((n3 : Int) < ((s6.len : Nat) : Int))) = false → Q (.tuple #[.int .i64 (-1), .int .i64 2]) w4)
def A.ref06_Space_Alloc : AT := (.seq (.reg []) (.seq (.seq (.reg []) (.blk (.loop [(4, (.int .i64))] [0] (.seq (.seq (.reg []) (.cond .leaf .leaf)) (.seq (.blk (.seq (.reg [.run, .run, .run, .run, .run, .run, .run, .run, .run, .split 8]) (.cond (.seq (.reg []) (.seq (.reg []) .leaf)) .leaf))) (.reg [])))))) (.seq (.reg []) .leaf)))
theorem W.ref06_Space_Alloc_eq (s : Option Addr) (w : World) (Q : Value → World → Prop) : W.ref06_Space_Alloc s w Q = DF Try.prog tk A.ref06_Space_Alloc Try.f33 [.pointer s] w Q := by kernel_rfl
theorem W.ref06_Space_Alloc_ok (s : Option Addr) (w : World) (Q : Value → World → Prop) (h : W.ref06_Space_Alloc s w Q) : Calls Try.prog F.ref06_Space_Alloc #[.pointer s] w fun e w1 => ∃ v, e = .returned v ∧ Q v w1 :=
  calls_of_DF hmix Try.func33 (by kernel_rfl) (Eq.mp (W.ref06_Space_Alloc_eq s w Q) h)

/-- stanchion/space.good -/
def W.space_good (n : Int) (w : World) (Q : Value → World → Prop) : Prop :=
  Q (.bool ((decide ((n : Int) ≥ 1)) && (decide ((n : Int) ≤ 1600)))) w
def A.space_good : AT := (.seq (.reg []) (.seq (.reg [.run, .run, .run, .pure 2]) .leaf))
theorem W.space_good_eq (n : Int) (w : World) (Q : Value → World → Prop) : W.space_good n w Q = DF Try.prog tk A.space_good Try.f34 [.int .i64 n] w Q := by kernel_rfl
theorem W.space_good_ok (n : Int) (w : World) (Q : Value → World → Prop) (h : W.space_good n w Q) : Calls Try.prog F.space_good #[.int .i64 n] w fun e w1 => ∃ v, e = .returned v ∧ Q v w1 :=
  calls_of_DF hmix Try.func34 (by kernel_rfl) (Eq.mp (W.space_good_eq n w Q) h)

/-- stanchion/space.size -/
def W.space_size (n : Int) (w : World) (Q : Value → World → Prop) : Prop :=
  (8 : Int) ≠ 0 ∧ Q (.int .i64 (IntKind.wrap .i64 (Int.tdiv (IntKind.wrap .i64 ((IntKind.wrap .i64 (n + 8)) - 1)) 8))) w
def A.space_size : AT := (.seq (.reg []) (.seq (.reg []) .leaf))
theorem W.space_size_eq (n : Int) (w : World) (Q : Value → World → Prop) : W.space_size n w Q = DF Try.prog tk A.space_size Try.f35 [.int .i64 n] w Q := by kernel_rfl
theorem W.space_size_ok (n : Int) (w : World) (Q : Value → World → Prop) (h : W.space_size n w Q) : Calls Try.prog F.space_size #[.int .i64 n] w fun e w1 => ∃ v, e = .returned v ∧ Q v w1 :=
  calls_of_DF hmix Try.func35 (by kernel_rfl) (Eq.mp (W.space_size_eq n w Q) h)

/-- (stanchion/space.set).put -/
def W.space_set_put (s : Sl) (no : Int) (w : World) (Q : Value → World → Prop) : Prop :=
  Nx (w.drew) fun w1 => (8 : Int) ≠ 0 ∧ ∃ a2 : Addr, s.a = some a2 ∧ (
    (0 : Int) ≤ (IntKind.wrap .i64 (Int.tdiv no 8)) ∧ (IntKind.wrap .i64 (Int.tdiv no 8)) < ((s.len : Nat) : Int))
  ∧ ¬ False ∧ ∃ n3 : Int, w1.cell? (a2.add (Int.toNat (IntKind.wrap .i64 (Int.tdiv no 8)) * 1)) = some (.int .u8 n3) ∧
  (8 : Int) ≠ 0 ∧ (0 : Int) ≤ (Int.tmod no 8) ∧ ∃ a4 : Addr, s.a = some a4 ∧
  (
    (0 : Int) ≤ (IntKind.wrap .i64 (Int.tdiv no 8)) ∧ (IntKind.wrap .i64 (Int.tdiv no 8)) < ((s.len : Nat) : Int))
  ∧ (∃ u : Value, w1.cell? (a4.add (Int.toNat (IntKind.wrap .i64 (Int.tdiv no 8)) * 1)) = some u) ∧
  w1.frozen? (a4.add (Int.toNat (IntKind.wrap .i64 (Int.tdiv no 8)) * 1)) = false ∧
  Nx (
    w1.setCell (a4.add (Int.toNat (IntKind.wrap .i64 (Int.tdiv no 8)) * 1)) (.int .u8 (bOr .u8 n3 (IntKind.wrap .u8 (1 * 2 ^ (min (Int.toNat (Int.tmod no 8)) 8))))))
  fun w5 => Q (.tuple #[]) w5
def A.space_set_put : AT := (.drw 8 false ⟨[0, 0, 2, 5, 8, 0, 32, 64, 144, 511, 1023], [0, 0, 2, 5, 8, 0, 32, 64, 144, 5, 768]⟩ [16, 32, 64, 128, 256, 512, 1024, 2048, 4096, 8192, 0] [1, 2, 32, 80, 128, 2, 512, 1024, 2304, 80, 12288] (.take 0 (.take 1 (.take 2 (.take 3 (.take 4 (.take 5 (.take 6 (.take 7 (.tail [.run, .run, .run]))))))))))
theorem W.space_set_put_eq (s : Sl) (no : Int) (w : World) (Q : Value → World → Prop) : W.space_set_put s no w Q = DF Try.prog tk A.space_set_put Try.f36 [.slice s.a s.len s.cap, .int .i64 no] w Q := by kernel_rfl
theorem W.space_set_put_ok (s : Sl) (no : Int) (w : World) (Q : Value → World → Prop) (h : W.space_set_put s no w Q) : Calls Try.prog F.space_set_put #[.slice s.a s.len s.cap, .int .i64 no] w fun e w1 => ∃ v, e = .returned v ∧ Q v w1 :=
  calls_of_DF hmix Try.func36 (by kernel_rfl) (Eq.mp (W.space_set_put_eq s no w Q) h)

/-- math/bits.OnesCount8 -/
def W.math_bits_OnesCount8 (x : Int) (w : World) (Q : Value → World → Prop) : Prop :=
  (0 : Int) ≤ x ∧ ∃ b1 : UInt8, byteAt (
    ByteArray.mk #[0, 1, 1, 2, 1, 2, 2, 3, 1, 2, 2, 3, 2, 3, 3, 4, 1, 2, 2, 3, 2, 3, 3, 4, 2, 3, 3, 4, 3, 4, 4, 5, 1, 2, 2, 3, 2, 3, 3, 4, 2, 3, 3, 4, 3, 4, 4, 5, 2, 3, 3, 4, 3, 4, 4, 5, 3, 4, 4, 5, 4, 5, 5, 6, 1, 2, 2, 3, 2, 3, 3, 4, 2, 3, 3, 4, 3, 4, 4, 5, 2, 3, 3, 4, 3, 4, 4, 5, 3, 4, 4, 5, 4, 5, 5, 6, 2, 3, 3, 4, 3, 4, 4, 5, 3, 4, 4, 5, 4, 5, 5, 6, 3, 4, 4, 5, 4, 5, 5, 6, 4, 5, 5, 6, 5, 6, 6, 7, 1, 2, 2, 3, 2, 3, 3, 4, 2, 3, 3, 4, 3, 4, 4, 5, 2, 3, 3, 4, 3, 4, 4, 5, 3, 4, 4, 5, 4, 5, 5, 6, 2, 3, 3, 4, 3, 4, 4, 5, 3, 4, 4, 5, 4, 5, 5, 6, 3, 4, 4, 5, 4, 5, 5, 6, 4, 5, 5, 6, 5, 6, 6, 7, 2, 3, 3, 4, 3, 4, 4, 5, 3, 4, 4, 5, 4, 5, 5, 6, 3, 4, 4, 5, 4, 5, 5, 6, 4, 5, 5, 6, 5, 6, 6, 7, 3, 4, 4, 5, 4, 5, 5, 6, 4, 5, 5, 6, 5, 6, 6, 7, 4, 5, 5, 6, 5, 6, 6, 7, 5, 6, 6, 7, 6, 7, 7, 8])
  (Int.toNat x) = some b1 ∧ Q (.int .i64 (IntKind.wrap .i64 ((b1.toNat : Nat) : Int))) w
def A.math_bits_OnesCount8 : AT := (.seq (.reg []) (.seq (.reg []) .leaf))
theorem W.math_bits_OnesCount8_eq (x : Int) (w : World) (Q : Value → World → Prop) : W.math_bits_OnesCount8 x w Q = DF Try.prog tk A.math_bits_OnesCount8 Try.f37 [.int .u8 x] w Q := by kernel_rfl
theorem W.math_bits_OnesCount8_ok (x : Int) (w : World) (Q : Value → World → Prop) (h : W.math_bits_OnesCount8 x w Q) : Calls Try.prog F.math_bits_OnesCount8 #[.int .u8 x] w fun e w1 => ∃ v, e = .returned v ∧ Q v w1 :=
  calls_of_DF hmix Try.func37 (by kernel_rfl) (Eq.mp (W.math_bits_OnesCount8_eq x w Q) h)

/-- (*stanchion/space.Space).taken -/
def W.space_Space_taken (s : Option Addr) (no : Int) (w : World) (Q : Value → World → Prop) : Prop :=
  ∃ a1 : Addr, s = some a1 ∧ ∃ s2 : Sl, w.cell? (a1.add 1) = some (.slice s2.a s2.len s2.cap) ∧
  Calls Try.prog F.space_set_has #[.slice s2.a s2.len s2.cap, .int .i64 no] w fun e4 w3 =>
  ∃ b5 : Bool, e4 = .returned (.bool b5) ∧ Jn (
    fun k6 : Bool → World → Prop => (b5 = true → k6 true w3) ∧ (
      b5 = false → ∃ a7 : Addr, s = some a7 ∧ ∃ s8 : Sl, w3.cell? (a7.add 2) = some (.slice s8.a s8.len s8.cap) ∧
      Calls Try.prog F.space_set_has #[.slice s8.a s8.len s8.cap, .int .i64 no] w3 fun e10 w9 =>
      ∃ b11 : Bool, e10 = .returned (.bool b11) ∧ k6 b11 w9)
    )
  (fun (b12 : Bool) (w13 : World) => Q (.bool b12) w13)
def A.space_Space_taken : AT := (.seq (.reg []) (.seq (.reg [.run, .run, .run, .run, .run, .run, .run, .split 6]) .leaf))
theorem W.space_Space_taken_eq (s : Option Addr) (no : Int) (w : World) (Q : Value → World → Prop) : W.space_Space_taken s no w Q = DF Try.prog tk A.space_Space_taken Try.f38 [.pointer s, .int .i64 no] w Q := by kernel_rfl
theorem W.space_Space_taken_ok (s : Option Addr) (no : Int) (w : World) (Q : Value → World → Prop) (h : W.space_Space_taken s no w Q) : Calls Try.prog F.space_Space_taken #[.pointer s, .int .i64 no] w fun e w1 => ∃ v, e = .returned v ∧ Q v w1 :=
  calls_of_DF hmix Try.func38 (by kernel_rfl) (Eq.mp (W.space_Space_taken_eq s no w Q) h)

/-- stanchion/conn.none -/
def W.conn_none (s_flags : Int) (s_client : Bool) (w : World) (Q : Value → World → Prop) : Prop :=
  Nx (w.alloc (.cells #[.int .u8 s_flags, .bool s_client] Ty.conn_segment)) fun w1 =>
  ∃ b2 : Bool, w1.cell? (Addr.add ⟨w.heap.size, 0, none⟩ 1) = some (.bool b2) ∧
  ((!b2) = true → Q (.int .i64 0) w1) ∧ (
    (!b2) = false → ∃ n3 : Int, w1.cell? ⟨w.heap.size, 0, none⟩ = some (.int .u8 n3) ∧
    ∃ b4 : Bool, w1.cell? (Addr.add ⟨w.heap.size, 0, none⟩ 1) = some (.bool b4) ∧
    Calls Try.prog F.conn_segment_begins #[.agg #[.int .u8 n3, .bool b4]] w1 fun e6 w5 =>
    ∃ b7 : Bool, e6 = .returned (.bool b7) ∧ (b7 = true → Q (.int .i64 1) w5) ∧
    (
      b7 = false → ∃ n8 : Int, w5.cell? ⟨w.heap.size, 0, none⟩ = some (.int .u8 n8) ∧
      ∃ b9 : Bool, w5.cell? (Addr.add ⟨w.heap.size, 0, none⟩ 1) = some (.bool b9) ∧
      Calls Try.prog F.conn_segment_has #[.agg #[.int .u8 n8, .bool b9], .int .u8 4] w5 fun e11 w10 =>
      ∃ b12 : Bool, e11 = .returned (.bool b12) ∧ (b12 = true → Q (.int .i64 0) w10) ∧
      (
        b12 = false → ∃ n13 : Int, w10.cell? ⟨w.heap.size, 0, none⟩ = some (.int .u8 n13) ∧
        ∃ b14 : Bool, w10.cell? (Addr.add ⟨w.heap.size, 0, none⟩ 1) = some (.bool b14) ∧
        Calls Try.prog F.conn_segment_has #[.agg #[.int .u8 n13, .bool b14], .int .u8 1] w10 fun e16 w15 =>
        ∃ b17 : Bool, e16 = .returned (.bool b17) ∧ (b17 = true → Q (.int .i64 3) w15) ∧
        (b17 = false → Q (.int .i64 2) w15))
      )
    )
def A.conn_none : AT := (.seq (.reg []) (.seq (.blk (.seq (.reg []) (.cond (.seq (.reg []) .leaf) (.seq (.reg []) (.cond (.seq (.reg []) .leaf) (.seq (.reg []) (.cond (.seq (.reg []) .leaf) (.seq (.reg []) (.cond (.seq (.reg []) .leaf) .leaf))))))))) (.seq (.reg []) .leaf)))
theorem W.conn_none_eq (s_flags : Int) (s_client : Bool) (w : World) (Q : Value → World → Prop) : W.conn_none s_flags s_client w Q = DF Try.prog tk A.conn_none Try.f39 [.agg #[.int .u8 s_flags, .bool s_client]] w Q := by kernel_rfl
theorem W.conn_none_ok (s_flags : Int) (s_client : Bool) (w : World) (Q : Value → World → Prop) (h : W.conn_none s_flags s_client w Q) : Calls Try.prog F.conn_none #[.agg #[.int .u8 s_flags, .bool s_client]] w fun e w1 => ∃ v, e = .returned v ∧ Q v w1 :=
  calls_of_DF hmix Try.func39 (by kernel_rfl) (Eq.mp (W.conn_none_eq s_flags s_client w Q) h)

/-- (stanchion/conn.segment).begins -/
def W.conn_segment_begins (s_flags : Int) (s_client : Bool) (w : World) (Q : Value → World → Prop) : Prop :=
  Nx (w.alloc (.cells #[.int .u8 s_flags, .bool s_client] Ty.conn_segment)) fun w1 =>
  ∃ b2 : Bool, w1.cell? (Addr.add ⟨w.heap.size, 0, none⟩ 1) = some (.bool b2) ∧
  Jn (
    fun k3 : Bool → World → Prop => (
      b2 = true → ∃ n4 : Int, w1.cell? ⟨w.heap.size, 0, none⟩ = some (.int .u8 n4) ∧
      ∃ b5 : Bool, w1.cell? (Addr.add ⟨w.heap.size, 0, none⟩ 1) = some (.bool b5) ∧
      Calls Try.prog F.conn_segment_has #[.agg #[.int .u8 n4, .bool b5], .int .u8 2] w1 fun e7 w6 =>
      ∃ b8 : Bool, e7 = .returned (.bool b8) ∧ k3 b8 w6)
    ∧ (b2 = false → k3 false w1))
  (
    fun (b9 : Bool) (w10 : World) => Jn (
      fun k11 : Bool → World → Prop => (
        b9 = true → ∃ n12 : Int, w10.cell? ⟨w.heap.size, 0, none⟩ = some (.int .u8 n12) ∧
        ∃ b13 : Bool, w10.cell? (Addr.add ⟨w.heap.size, 0, none⟩ 1) = some (.bool b13) ∧
        Calls Try.prog F.conn_segment_has #[.agg #[.int .u8 n12, .bool b13], .int .u8 16] w10 fun e15 w14 =>
        ∃ b16 : Bool, e15 = .returned (.bool b16) ∧ k11 (!b16) w14)
      ∧ (b9 = false → k11 false w10))
    (
      fun (b17 : Bool) (w18 : World) => Jn (
        fun k19 : Bool → World → Prop => (
          b17 = true → ∃ n20 : Int, w18.cell? ⟨w.heap.size, 0, none⟩ = some (.int .u8 n20) ∧
          ∃ b21 : Bool, w18.cell? (Addr.add ⟨w.heap.size, 0, none⟩ 1) = some (.bool b21) ∧
          Calls Try.prog F.conn_segment_has #[.agg #[.int .u8 n20, .bool b21], .int .u8 4] w18 fun e23 w22 =>
          ∃ b24 : Bool, e23 = .returned (.bool b24) ∧ k19 (!b24) w22)
        ∧ (b17 = false → k19 false w18))
      (fun (b25 : Bool) (w26 : World) => Q (.bool b25) w26))
    )
def A.conn_segment_begins : AT := (.seq (.reg []) (.seq (.reg [.run, .run, .run, .split 2, .run, .run, .run, .split 3, .run, .run, .run, .run, .split 3]) .leaf))
theorem W.conn_segment_begins_eq (s_flags : Int) (s_client : Bool) (w : World) (Q : Value → World → Prop) : W.conn_segment_begins s_flags s_client w Q = DF Try.prog tk A.conn_segment_begins Try.f40 [.agg #[.int .u8 s_flags, .bool s_client]] w Q := by kernel_rfl
theorem W.conn_segment_begins_ok (s_flags : Int) (s_client : Bool) (w : World) (Q : Value → World → Prop) (h : W.conn_segment_begins s_flags s_client w Q) : Calls Try.prog F.conn_segment_begins #[.agg #[.int .u8 s_flags, .bool s_client]] w fun e w1 => ∃ v, e = .returned v ∧ Q v w1 :=
  calls_of_DF hmix Try.func40 (by kernel_rfl) (Eq.mp (W.conn_segment_begins_eq s_flags s_client w Q) h)

/-- (stanchion/conn.segment).has -/
def W.conn_segment_has (s_flags : Int) (s_client : Bool) (flag : Int) (w : World) (Q : Value → World → Prop) : Prop :=
  Nx (w.alloc (.cells #[.int .u8 s_flags, .bool s_client] Ty.conn_segment)) fun w1 =>
  ∃ n2 : Int, w1.cell? ⟨w.heap.size, 0, none⟩ = some (.int .u8 n2) ∧ Q (.bool (((bAnd .u8 n2 flag) : Int) != 0)) w1
def A.conn_segment_has : AT := (.seq (.reg []) (.seq (.reg []) .leaf))
theorem W.conn_segment_has_eq (s_flags : Int) (s_client : Bool) (flag : Int) (w : World) (Q : Value → World → Prop) : W.conn_segment_has s_flags s_client flag w Q = DF Try.prog tk A.conn_segment_has Try.f41 [.agg #[.int .u8 s_flags, .bool s_client], .int .u8 flag] w Q := by kernel_rfl
theorem W.conn_segment_has_ok (s_flags : Int) (s_client : Bool) (flag : Int) (w : World) (Q : Value → World → Prop) (h : W.conn_segment_has s_flags s_client flag w Q) : Calls Try.prog F.conn_segment_has #[.agg #[.int .u8 s_flags, .bool s_client], .int .u8 flag] w fun e w1 => ∃ v, e = .returned v ∧ Q v w1 :=
  calls_of_DF hmix Try.func41 (by kernel_rfl) (Eq.mp (W.conn_segment_has_eq s_flags s_client flag w Q) h)

/-- stanchion/conn.fin -/
def W.conn_fin (s_flags : Int) (s_client : Bool) (w : World) (Q : Value → World → Prop) : Prop :=
  Nx (w.alloc (.cells #[.int .u8 s_flags, .bool s_client] Ty.conn_segment)) fun w1 =>
  ∃ b2 : Bool, w1.cell? (Addr.add ⟨w.heap.size, 0, none⟩ 1) = some (.bool b2) ∧
  (b2 = true → Q (.int .i64 3) w1) ∧ (b2 = false → Q (.int .i64 4) w1)
def A.conn_fin : AT := (.seq (.reg []) (.seq (.seq (.reg []) (.cond (.seq (.reg []) .leaf) .leaf)) (.seq (.reg []) .leaf)))
theorem W.conn_fin_eq (s_flags : Int) (s_client : Bool) (w : World) (Q : Value → World → Prop) : W.conn_fin s_flags s_client w Q = DF Try.prog tk A.conn_fin Try.f42 [.agg #[.int .u8 s_flags, .bool s_client]] w Q := by kernel_rfl
theorem W.conn_fin_ok (s_flags : Int) (s_client : Bool) (w : World) (Q : Value → World → Prop) (h : W.conn_fin s_flags s_client w Q) : Calls Try.prog F.conn_fin #[.agg #[.int .u8 s_flags, .bool s_client]] w fun e w1 => ∃ v, e = .returned v ∧ Q v w1 :=
  calls_of_DF hmix Try.func42 (by kernel_rfl) (Eq.mp (W.conn_fin_eq s_flags s_client w Q) h)

/-- (*stanchion/space.Space).has -/
def W.space_Space_has (s : Option Addr) (no : Int) (w : World) (Q : Value → World → Prop) : Prop :=
  Jn (
    fun k1 : Bool → World → Prop => (
      ((!(Option.isNone s)) && (decide ((no : Int) ≥ 0))) = true → ∃ a2 : Addr, s = some a2 ∧
      ∃ n3 : Int, w.cell? a2 = some (.int .i64 n3) ∧ k1 (decide ((no : Int) < n3)) w)
    ∧ (((!(Option.isNone s)) && (decide ((no : Int) ≥ 0))) = false → k1 false w))
  (fun (b4 : Bool) (w5 : World) => Q (.bool b4) w5)
def A.space_Space_has : AT := (.seq (.reg []) (.seq (.reg [.run, .run, .run, .pure 2, .run, .run, .run, .split 6]) .leaf))
theorem W.space_Space_has_eq (s : Option Addr) (no : Int) (w : World) (Q : Value → World → Prop) : W.space_Space_has s no w Q = DF Try.prog tk A.space_Space_has Try.f43 [.pointer s, .int .i64 no] w Q := by kernel_rfl
theorem W.space_Space_has_ok (s : Option Addr) (no : Int) (w : World) (Q : Value → World → Prop) (h : W.space_Space_has s no w Q) : Calls Try.prog F.space_Space_has #[.pointer s, .int .i64 no] w fun e w1 => ∃ v, e = .returned v ∧ Q v w1 :=
  calls_of_DF hmix Try.func43 (by kernel_rfl) (Eq.mp (W.space_Space_has_eq s no w Q) h)

/-- (stanchion/space.set).has -/
def W.space_set_has (s : Sl) (no : Int) (w : World) (Q : Value → World → Prop) : Prop :=
  (8 : Int) ≠ 0 ∧ ∃ a1 : Addr, s.a = some a1 ∧ (
    (0 : Int) ≤ (IntKind.wrap .i64 (Int.tdiv no 8)) ∧ (IntKind.wrap .i64 (Int.tdiv no 8)) < ((s.len : Nat) : Int))
  ∧ ∃ n2 : Int, w.cell? (a1.add (Int.toNat (IntKind.wrap .i64 (Int.tdiv no 8)) * 1)) = some (.int .u8 n2) ∧
  (8 : Int) ≠ 0 ∧ (0 : Int) ≤ (Int.tmod no 8) ∧ Q (.bool (((bAnd .u8 (Int.fdiv n2 (2 ^ (min (Int.toNat (Int.tmod no 8)) 8))) 1) : Int) == 1)) w
def A.space_set_has : AT := (.seq (.reg []) (.seq (.reg []) .leaf))
theorem W.space_set_has_eq (s : Sl) (no : Int) (w : World) (Q : Value → World → Prop) : W.space_set_has s no w Q = DF Try.prog tk A.space_set_has Try.f44 [.slice s.a s.len s.cap, .int .i64 no] w Q := by kernel_rfl
theorem W.space_set_has_ok (s : Sl) (no : Int) (w : World) (Q : Value → World → Prop) (h : W.space_set_has s no w Q) : Calls Try.prog F.space_set_has #[.slice s.a s.len s.cap, .int .i64 no] w fun e w1 => ∃ v, e = .returned v ∧ Q v w1 :=
  calls_of_DF hmix Try.func44 (by kernel_rfl) (Eq.mp (W.space_set_has_eq s no w Q) h)

/-- (stanchion/space.set).take -/
def W.space_set_take (s : Sl) (no : Int) (w : World) (Q : Value → World → Prop) : Prop :=
  Nx (w.drew) fun w1 => (8 : Int) ≠ 0 ∧ ∃ a2 : Addr, s.a = some a2 ∧ (
    (0 : Int) ≤ (IntKind.wrap .i64 (Int.tdiv no 8)) ∧ (IntKind.wrap .i64 (Int.tdiv no 8)) < ((s.len : Nat) : Int))
  ∧ ¬ False ∧ ∃ n3 : Int, w1.cell? (a2.add (Int.toNat (IntKind.wrap .i64 (Int.tdiv no 8)) * 1)) = some (.int .u8 n3) ∧
  (8 : Int) ≠ 0 ∧ (0 : Int) ≤ (Int.tmod no 8) ∧ ∃ a4 : Addr, s.a = some a4 ∧
  (
    (0 : Int) ≤ (IntKind.wrap .i64 (Int.tdiv no 8)) ∧ (IntKind.wrap .i64 (Int.tdiv no 8)) < ((s.len : Nat) : Int))
  ∧ (∃ u : Value, w1.cell? (a4.add (Int.toNat (IntKind.wrap .i64 (Int.tdiv no 8)) * 1)) = some u) ∧
  w1.frozen? (a4.add (Int.toNat (IntKind.wrap .i64 (Int.tdiv no 8)) * 1)) = false ∧
  Nx (
    w1.setCell (a4.add (Int.toNat (IntKind.wrap .i64 (Int.tdiv no 8)) * 1)) (.int .u8 (bAndNot .u8 n3 (IntKind.wrap .u8 (1 * 2 ^ (min (Int.toNat (Int.tmod no 8)) 8))))))
  fun w5 => Q (.tuple #[]) w5
def A.space_set_take : AT := (.drw 8 false ⟨[0, 0, 2, 5, 8, 0, 32, 64, 144, 511, 1023], [0, 0, 2, 5, 8, 0, 32, 64, 144, 5, 768]⟩ [16, 32, 64, 128, 256, 512, 1024, 2048, 4096, 8192, 0] [1, 2, 32, 80, 128, 2, 512, 1024, 2304, 80, 12288] (.take 0 (.take 1 (.take 2 (.take 3 (.take 4 (.take 5 (.take 6 (.take 7 (.tail [.run, .run, .run]))))))))))
theorem W.space_set_take_eq (s : Sl) (no : Int) (w : World) (Q : Value → World → Prop) : W.space_set_take s no w Q = DF Try.prog tk A.space_set_take Try.f45 [.slice s.a s.len s.cap, .int .i64 no] w Q := by kernel_rfl
theorem W.space_set_take_ok (s : Sl) (no : Int) (w : World) (Q : Value → World → Prop) (h : W.space_set_take s no w Q) : Calls Try.prog F.space_set_take #[.slice s.a s.len s.cap, .int .i64 no] w fun e w1 => ∃ v, e = .returned v ∧ Q v w1 :=
  calls_of_DF hmix Try.func45 (by kernel_rfl) (Eq.mp (W.space_set_take_eq s no w Q) h)

/-- slices.Clone[stanchion/space.set,byte] -/
def W.slices_Clone_space_set_byte (s : Sl) (w : World) (Q : Value → World → Prop) : Prop :=
  ((Option.isNone s.a) = true → Q (.slice none 0 0) w) ∧ (
    (Option.isNone s.a) = false → Nx (w.alloc (.cells #[] Ty.uint8)) fun w1 =>
    ∃ s2 : Sl, ∃ w3 : World, Sem.run Try.prog (
      Builtin.append_ #[Ty.space_set, Ty.space_set] Ty.space_set #[.slice (some ⟨w.heap.size, 0, none⟩) 0 0, .slice s.a s.len s.cap])
    w1 = .ok (.slice s2.a s2.len s2.cap) w3 ∧ Q (.slice s2.a s2.len s2.cap) w3)
def A.slices_Clone_space_set_byte : AT := (.seq (.reg []) (.seq (.seq (.reg []) (.cond (.seq (.reg []) .leaf) .leaf)) (.seq (.reg []) .leaf)))
theorem W.slices_Clone_space_set_byte_eq (s : Sl) (w : World) (Q : Value → World → Prop) : W.slices_Clone_space_set_byte s w Q = DF Try.prog tk A.slices_Clone_space_set_byte Try.f46 [.slice s.a s.len s.cap] w Q := by kernel_rfl
theorem W.slices_Clone_space_set_byte_ok (s : Sl) (w : World) (Q : Value → World → Prop) (h : W.slices_Clone_space_set_byte s w Q) : Calls Try.prog F.slices_Clone_space_set_byte #[.slice s.a s.len s.cap] w fun e w1 => ∃ v, e = .returned v ∧ Q v w1 :=
  calls_of_DF hmix Try.func46 (by kernel_rfl) (Eq.mp (W.slices_Clone_space_set_byte_eq s w Q) h)

/-- slices.Clone[[]byte,byte] -/
def W.slices_Clone_Sl_byte_byte (s : Sl) (w : World) (Q : Value → World → Prop) : Prop :=
  ((Option.isNone s.a) = true → Q (.slice none 0 0) w) ∧ (
    (Option.isNone s.a) = false → Nx (w.alloc (.cells #[] Ty.uint8)) fun w1 =>
    ∃ s2 : Sl, ∃ w3 : World, Sem.run Try.prog (
      Builtin.append_ #[Ty.Sl_uint8, Ty.Sl_uint8] Ty.Sl_uint8 #[.slice (some ⟨w.heap.size, 0, none⟩) 0 0, .slice s.a s.len s.cap])
    w1 = .ok (.slice s2.a s2.len s2.cap) w3 ∧ Q (.slice s2.a s2.len s2.cap) w3)
def A.slices_Clone_Sl_byte_byte : AT := (.seq (.reg []) (.seq (.seq (.reg []) (.cond (.seq (.reg []) .leaf) .leaf)) (.seq (.reg []) .leaf)))
theorem W.slices_Clone_Sl_byte_byte_eq (s : Sl) (w : World) (Q : Value → World → Prop) : W.slices_Clone_Sl_byte_byte s w Q = DF Try.prog tk A.slices_Clone_Sl_byte_byte Try.f47 [.slice s.a s.len s.cap] w Q := by kernel_rfl
theorem W.slices_Clone_Sl_byte_byte_ok (s : Sl) (w : World) (Q : Value → World → Prop) (h : W.slices_Clone_Sl_byte_byte s w Q) : Calls Try.prog F.slices_Clone_Sl_byte_byte #[.slice s.a s.len s.cap] w fun e w1 => ∃ v, e = .returned v ∧ Q v w1 :=
  calls_of_DF hmix Try.func47 (by kernel_rfl) (Eq.mp (W.slices_Clone_Sl_byte_byte_eq s w Q) h)

/-- (*stanchion/stanchionref06.Space).Room -/
def W.ref06_Space_Room (s : Option Addr) (w : World) (Q : Value → World → Prop) : Prop :=
  ∃ (I1 : Int → Int → World → Prop) (μ2 : Int → Int → World → Nat), I1 0 0 w ∧
  ∀ (n3 : Int) (n4 : Int) (w5 : World), I1 n3 n4 w5 → ∃ a6 : Addr, s = some a6 ∧
  ∃ s7 : Sl, w5.cell? a6 = some (.slice s7.a s7.len s7.cap) ∧ (
    (decide ((n4 : Int) < ((s7.len : Nat) : Int))) = true → Jn (
      fun k8 : Int → World → Prop => ∃ a9 : Addr, s = some a9 ∧ ∃ s10 : Sl, w5.cell? a9 = some (.slice s10.a s10.len s10.cap) ∧
      ∃ a11 : Addr, s10.a = some a11 ∧ ((0 : Int) ≤ n4 ∧ n4 < ((s10.len : Nat) : Int)) ∧
      ∃ b12 : Bool, w5.cell? (a11.add (Int.toNat n4 * 1)) = some (.bool b12) ∧ Jn (
        fun k13 : Bool → World → Prop => (
          (!b12) = true → ∃ a14 : Addr, s = some a14 ∧ ∃ s15 : Sl, w5.cell? (a14.add 1) = some (.slice s15.a s15.len s15.cap) ∧
          ∃ a16 : Addr, s15.a = some a16 ∧ ((0 : Int) ≤ n4 ∧ n4 < ((s15.len : Nat) : Int)) ∧
          ∃ b17 : Bool, w5.cell? (a16.add (Int.toNat n4 * 1)) = some (.bool b17) ∧ k13 (!b17) w5)
        ∧ ((!b12) = false → k13 false w5))
      (
        fun (b18 : Bool) (w19 : World) => (b18 = true → k8 (IntKind.wrap .i64 (n3 + 1)) w19) ∧
        (b18 = false → k8 n3 w19))
      )
    (
      fun (n20 : Int) (w21 : World) => I1 n20 (IntKind.wrap .i64 (n4 + 1)) w21 ∧
      μ2 n20 (IntKind.wrap .i64 (n4 + 1)) w21 < μ2 n3 n4 w5)
    )
  ∧ ((decide ((n4 : Int) < ((s7.len : Nat) : Int))) = false → Q (.int .i64 n3) w5)
def A.ref06_Space_Room : AT := (.seq (.reg []) (.seq (.reg []) (.seq (.seq (.reg []) (.blk (.loop [(3, (.int .i64)), (4, (.int .i64))] [0] (.seq (.seq (.reg []) (.cond .leaf .leaf)) (.seq (.jk [(3, (.int .i64))] [0, 4] (.blk (.seq (.reg [.run, .run, .run, .run, .run, .run, .run, .run, .run, .split 8]) (.cond (.reg []) .leaf)))) (.reg [])))))) (.seq (.reg []) .leaf))))
theorem W.ref06_Space_Room_eq (s : Option Addr) (w : World) (Q : Value → World → Prop) : W.ref06_Space_Room s w Q = DF Try.prog tk A.ref06_Space_Room Try.f48 [.pointer s] w Q := by kernel_rfl
theorem W.ref06_Space_Room_ok (s : Option Addr) (w : World) (Q : Value → World → Prop) (h : W.ref06_Space_Room s w Q) : Calls Try.prog F.ref06_Space_Room #[.pointer s] w fun e w1 => ∃ v, e = .returned v ∧ Q v w1 :=
  calls_of_DF hmix Try.func48 (by kernel_rfl) (Eq.mp (W.ref06_Space_Room_eq s w Q) h)

/-- stanchion/stanchionref03.Ints -/
def W.ref03_Ints (a : Sl) (b : Sl) (w : World) (Q : Value → World → Prop) : Prop :=
  (((((a.len : Nat) : Int) : Int) != ((b.len : Nat) : Int)) = true → Q (.bool false) w) ∧
  (
    ((((a.len : Nat) : Int) : Int) != ((b.len : Nat) : Int)) = false → ∃ (I1 : Int → World → Prop) (μ2 : Int → World → Nat), I1 0 w ∧
    ∀ (n3 : Int) (w4 : World), I1 n3 w4 → (
      (decide ((n3 : Int) < ((a.len : Nat) : Int))) = true → Nx (w4.drew) fun w5 =>
      ∃ a6 : Addr, a.a = some a6 ∧ ((0 : Int) ≤ n3 ∧ n3 < ((a.len : Nat) : Int)) ∧
      ¬ False ∧ ∃ n7 : Int, w5.cell? (a6.add (Int.toNat n3 * 1)) = some (.int .i64 n7) ∧
      ∃ a8 : Addr, b.a = some a8 ∧ ((0 : Int) ≤ n3 ∧ n3 < ((b.len : Nat) : Int)) ∧
      ¬ False ∧ ∃ n9 : Int, w5.cell? (a8.add (Int.toNat n3 * 1)) = some (.int .i64 n9) ∧
      (((n7 : Int) != n9) = true → Q (.bool false) w5) ∧ (
        ((n7 : Int) != n9) = false → I1 (IntKind.wrap .i64 (n3 + 1)) w5 ∧ μ2 (IntKind.wrap .i64 (n3 + 1)) w5 < μ2 n3 w4)
      )
    ∧ ((decide ((n3 : Int) < ((a.len : Nat) : Int))) = false → Q (.bool true) w4))
def A.ref03_Ints : AT := (.seq (.reg []) (.seq (.seq (.reg []) (.cond (.seq (.reg []) .leaf) .leaf)) (.seq (.seq (.reg []) (.blk (.loop [(5, (.int .i64))] [0, 1] (.seq (.seq (.reg []) (.cond .leaf .leaf)) (.seq (.blk (.seq (.drw 8 false ⟨[0, 0, 3, 4, 0, 0, 48, 64, 136], [0, 0, 3, 4, 0, 0, 48, 64, 136]⟩ [131072, 262144, 524288, 1048576, 2097152, 4194304, 8388608, 16777216, 33554432] [1, 32, 393216, 524288, 2, 32, 6291456, 8388608, 17825792] (.take 0 (.take 1 (.take 2 (.take 3 (.take 4 (.take 5 (.take 6 (.take 7 (.tail [.run])))))))))) (.cond (.seq (.reg []) .leaf) .leaf))) (.reg [])))))) (.seq (.reg []) .leaf))))
theorem W.ref03_Ints_eq (a : Sl) (b : Sl) (w : World) (Q : Value → World → Prop) : W.ref03_Ints a b w Q = DF Try.prog tk A.ref03_Ints Try.f49 [.slice a.a a.len a.cap, .slice b.a b.len b.cap] w Q := by kernel_rfl
theorem W.ref03_Ints_ok (a : Sl) (b : Sl) (w : World) (Q : Value → World → Prop) (h : W.ref03_Ints a b w Q) : Calls Try.prog F.ref03_Ints #[.slice a.a a.len a.cap, .slice b.a b.len b.cap] w fun e w1 => ∃ v, e = .returned v ∧ Q v w1 :=
  calls_of_DF hmix Try.func49 (by kernel_rfl) (Eq.mp (W.ref03_Ints_eq a b w Q) h)

/-- (*stanchion/space.Space).Used -/
def W.space_Space_Used (s : Option Addr) (w : World) (Q : Value → World → Prop) : Prop :=
  ((Option.isNone s) = true → Q (.slice none 0 0) w) ∧ (
    (Option.isNone s) = false → ∃ a1 : Addr, s = some a1 ∧ ∃ n2 : Int, w.cell? a1 = some (.int .i64 n2) ∧
    ∃ (I3 : Sl → Int → World → Prop) (μ4 : Sl → Int → World → Nat), I3 ⟨none, 0, 0⟩ 0 w ∧
    ∀ (s5 : Sl) (n6 : Int) (w7 : World), I3 s5 n6 w7 → (
      (decide ((n6 : Int) < n2)) = true → Jn (
        fun k8 : Sl → World → Prop => ∃ a9 : Addr, s = some a9 ∧ ∃ s10 : Sl, w7.cell? (a9.add 1) = some (.slice s10.a s10.len s10.cap) ∧
        Calls Try.prog F.space_set_has #[.slice s10.a s10.len s10.cap, .int .i64 n6] w7 fun e12 w11 =>
        ∃ b13 : Bool, e12 = .returned (.bool b13) ∧ (
          b13 = true → Nx (w11.alloc (.cells #[.int .i64 n6] Ty.int)) fun w14 => ∃ s15 : Sl, ∃ w16 : World, Sem.run Try.prog (
            Builtin.append_ #[Ty.Sl_int, Ty.Sl_int] Ty.Sl_int #[.slice s5.a s5.len s5.cap, .slice (some ⟨w11.heap.size, 0, none⟩) 1 1])
          w14 = .ok (.slice s15.a s15.len s15.cap) w16 ∧ k8 s15 w16)
        ∧ (b13 = false → k8 s5 w11))
      (
        fun (s17 : Sl) (w18 : World) => I3 s17 (IntKind.wrap .i64 (n6 + 1)) w18 ∧
        μ4 s17 (IntKind.wrap .i64 (n6 + 1)) w18 < μ4 s5 n6 w7)
      )
    ∧ ((decide ((n6 : Int) < n2)) = false → Q (.slice s5.a s5.len s5.cap) w7))
def A.space_Space_Used : AT := (.seq (.reg []) (.seq (.seq (.reg []) (.cond (.seq (.reg []) .leaf) .leaf)) (.seq (.reg []) (.seq (.seq (.reg []) (.blk (.loop [(3, .slice), (11, (.int .i64))] [0, 10] (.seq (.reg []) (.seq (.cond .leaf .leaf) (.seq (.jk [(3, .slice)] [0, 10, 11] (.blk (.seq (.reg []) (.seq (.reg []) (.cond (.reg []) .leaf))))) (.reg []))))))) (.seq (.reg []) .leaf)))))
theorem W.space_Space_Used_eq (s : Option Addr) (w : World) (Q : Value → World → Prop) : W.space_Space_Used s w Q = DF Try.prog tk A.space_Space_Used Try.f50 [.pointer s] w Q := by kernel_rfl
theorem W.space_Space_Used_ok (s : Option Addr) (w : World) (Q : Value → World → Prop) (h : W.space_Space_Used s w Q) : Calls Try.prog F.space_Space_Used #[.pointer s] w fun e w1 => ∃ v, e = .returned v ∧ Q v w1 :=
  calls_of_DF hmix Try.func50 (by kernel_rfl) (Eq.mp (W.space_Space_Used_eq s w Q) h)

/-- (*stanchion/stanchionref06.Space).Used -/
def W.ref06_Space_Used (s : Option Addr) (w : World) (Q : Value → World → Prop) : Prop :=
  Nx (w.alloc (.cells #[] Ty.int)) fun w1 => ∃ (I2 : Sl → Int → World → Prop) (μ3 : Sl → Int → World → Nat), I2 ⟨(some ⟨w.heap.size, 0, none⟩), 0, 0⟩ 0 w1 ∧
  ∀ (s4 : Sl) (n5 : Int) (w6 : World), I2 s4 n5 w6 → ∃ a7 : Addr, s = some a7 ∧
  ∃ s8 : Sl, w6.cell? a7 = some (.slice s8.a s8.len s8.cap) ∧ (
    (decide ((n5 : Int) < ((s8.len : Nat) : Int))) = true → Jn (
      fun k9 : Sl → World → Prop => ∃ a10 : Addr, s = some a10 ∧ ∃ s11 : Sl, w6.cell? a10 = some (.slice s11.a s11.len s11.cap) ∧
      ∃ a12 : Addr, s11.a = some a12 ∧ ((0 : Int) ≤ n5 ∧ n5 < ((s11.len : Nat) : Int)) ∧
      ∃ b13 : Bool, w6.cell? (a12.add (Int.toNat n5 * 1)) = some (.bool b13) ∧ (
        b13 = true → Nx (w6.alloc (.cells #[.int .i64 n5] Ty.int)) fun w14 => ∃ s15 : Sl, ∃ w16 : World, Sem.run Try.prog (
          Builtin.append_ #[Ty.Sl_int, Ty.Sl_int] Ty.Sl_int #[.slice s4.a s4.len s4.cap, .slice (some ⟨w6.heap.size, 0, none⟩) 1 1])
        w14 = .ok (.slice s15.a s15.len s15.cap) w16 ∧ k9 s15 w16)
      ∧ (b13 = false → k9 s4 w6))
    (
      fun (s17 : Sl) (w18 : World) => I2 s17 (IntKind.wrap .i64 (n5 + 1)) w18 ∧
      μ3 s17 (IntKind.wrap .i64 (n5 + 1)) w18 < μ3 s4 n5 w6)
    )
  ∧ ((decide ((n5 : Int) < ((s8.len : Nat) : Int))) = false → Q (.slice s4.a s4.len s4.cap) w6)
def A.ref06_Space_Used : AT := (.seq (.reg []) (.seq (.reg []) (.seq (.seq (.reg []) (.blk (.loop [(3, .slice), (4, (.int .i64))] [0] (.seq (.seq (.reg []) (.cond .leaf .leaf)) (.seq (.jk [(3, .slice)] [0, 4] (.blk (.seq (.reg []) (.cond (.reg []) .leaf)))) (.reg [])))))) (.seq (.reg []) .leaf))))
theorem W.ref06_Space_Used_eq (s : Option Addr) (w : World) (Q : Value → World → Prop) : W.ref06_Space_Used s w Q = DF Try.prog tk A.ref06_Space_Used Try.f51 [.pointer s] w Q := by kernel_rfl
theorem W.ref06_Space_Used_ok (s : Option Addr) (w : World) (Q : Value → World → Prop) (h : W.ref06_Space_Used s w Q) : Calls Try.prog F.ref06_Space_Used #[.pointer s] w fun e w1 => ∃ v, e = .returned v ∧ Q v w1 :=
  calls_of_DF hmix Try.func51 (by kernel_rfl) (Eq.mp (W.ref06_Space_Used_eq s w Q) h)

/-- (*stanchion/stanchionref06.Space).Bytes -/
def W.ref06_Space_Bytes (s : Option Addr) (w : World) (Q : Value → World → Prop) : Prop :=
  ∃ a1 : Addr, s = some a1 ∧ ∃ s2 : Sl, w.cell? a1 = some (.slice s2.a s2.len s2.cap) ∧
  (8 : Int) ≠ 0 ∧ (
    (0 : Int) ≤ (IntKind.wrap .i64 (Int.tdiv (IntKind.wrap .i64 (((s2.len : Nat) : Int) + 7)) 8)) ∧
    (IntKind.wrap .i64 (Int.tdiv (IntKind.wrap .i64 (((s2.len : Nat) : Int) + 7)) 8)) ≤ (IntKind.wrap .i64 (Int.tdiv (IntKind.wrap .i64 (((s2.len : Nat) : Int) + 7)) 8)) ∧
    (IntKind.wrap .i64 (Int.tdiv (IntKind.wrap .i64 (((s2.len : Nat) : Int) + 7)) 8)) ≤ 9223372036854775807 ∧
    ((1 : Nat) : Int) * (IntKind.wrap .i64 (Int.tdiv (IntKind.wrap .i64 (((s2.len : Nat) : Int) + 7)) 8)) ≤ 140737488355328)
  ∧ Nx (
    w.alloc (
      .cells (
        zrow Try.prog Ty.uint8 (Int.toNat (IntKind.wrap .i64 (Int.tdiv (IntKind.wrap .i64 (((s2.len : Nat) : Int) + 7)) 8))))
      Ty.uint8)
    )
  fun w3 => ∃ (I4 : Int → World → Prop) (μ5 : Int → World → Nat), I4 0 w3 ∧
  ∀ (n6 : Int) (w7 : World), I4 n6 w7 → ∃ a8 : Addr, s = some a8 ∧ ∃ s9 : Sl, w7.cell? a8 = some (.slice s9.a s9.len s9.cap) ∧
  (
    (decide ((n6 : Int) < ((s9.len : Nat) : Int))) = true → Jn (
      fun k10 : World → Prop => ∃ a11 : Addr, s = some a11 ∧ ∃ s12 : Sl, w7.cell? a11 = some (.slice s12.a s12.len s12.cap) ∧
      ∃ a13 : Addr, s12.a = some a13 ∧ ((0 : Int) ≤ n6 ∧ n6 < ((s12.len : Nat) : Int)) ∧
      ∃ b14 : Bool, w7.cell? (a13.add (Int.toNat n6 * 1)) = some (.bool b14) ∧ (
        b14 = true → (8 : Int) ≠ 0 ∧ (8 : Int) ≠ 0 ∧ ∃ a15 : Addr, (some ⟨w.heap.size, 0, none⟩) = some a15 ∧
        (
          (0 : Int) ≤ (IntKind.wrap .i64 (Int.tdiv n6 8)) ∧ (IntKind.wrap .i64 (Int.tdiv n6 8)) < (
            ((Int.toNat (IntKind.wrap .i64 (Int.tdiv (IntKind.wrap .i64 (((s2.len : Nat) : Int) + 7)) 8))) : Nat) : Int)
          )
        ∧ ∃ n16 : Int, w7.cell? (a15.add (Int.toNat (IntKind.wrap .i64 (Int.tdiv n6 8)) * 1)) = some (.int .u8 n16) ∧
        (8 : Int) ≠ 0 ∧ (0 : Int) ≤ (IntKind.wrap .u64 (Int.tmod n6 8)) ∧ ∃ a17 : Addr, (some ⟨w.heap.size, 0, none⟩) = some a17 ∧
        (
          (0 : Int) ≤ (IntKind.wrap .i64 (Int.tdiv n6 8)) ∧ (IntKind.wrap .i64 (Int.tdiv n6 8)) < (
            ((Int.toNat (IntKind.wrap .i64 (Int.tdiv (IntKind.wrap .i64 (((s2.len : Nat) : Int) + 7)) 8))) : Nat) : Int)
          )
        ∧ (∃ u : Value, w7.cell? (a17.add (Int.toNat (IntKind.wrap .i64 (Int.tdiv n6 8)) * 1)) = some u) ∧
        w7.frozen? (a17.add (Int.toNat (IntKind.wrap .i64 (Int.tdiv n6 8)) * 1)) = false ∧
        Nx (
          w7.setCell (a17.add (Int.toNat (IntKind.wrap .i64 (Int.tdiv n6 8)) * 1)) (
            .int .u8 (
              IntKind.wrap .u8 (n16 + (IntKind.wrap .u8 (1 * 2 ^ (min (Int.toNat (IntKind.wrap .u64 (Int.tmod n6 8))) 8)))))
            )
          )
        fun w18 => k10 w18)
      ∧ (b14 = false → k10 w7))
    (
      fun  (w19 : World) => I4 (IntKind.wrap .i64 (n6 + 1)) w19 ∧ μ5 (IntKind.wrap .i64 (n6 + 1)) w19 < μ5 n6 w7)
    )
  ∧ (
    (decide ((n6 : Int) < ((s9.len : Nat) : Int))) = false → Q (
      .slice (some ⟨w.heap.size, 0, none⟩) (Int.toNat (IntKind.wrap .i64 (Int.tdiv (IntKind.wrap .i64 (((s2.len : Nat) : Int) + 7)) 8))) (Int.toNat (IntKind.wrap .i64 (Int.tdiv (IntKind.wrap .i64 (((s2.len : Nat) : Int) + 7)) 8))))
    w7)
def A.ref06_Space_Bytes : AT := (.seq (.reg []) (.seq (.reg []) (.seq (.seq (.reg []) (.blk (.loop [(4, (.int .i64))] [0, 3] (.seq (.seq (.reg []) (.cond .leaf .leaf)) (.seq (.jk [] [0, 3, 4] (.blk (.seq (.reg []) (.cond (.reg []) .leaf)))) (.reg [])))))) (.seq (.reg []) .leaf))))
theorem W.ref06_Space_Bytes_eq (s : Option Addr) (w : World) (Q : Value → World → Prop) : W.ref06_Space_Bytes s w Q = DF Try.prog tk A.ref06_Space_Bytes Try.f52 [.pointer s] w Q := by kernel_rfl
theorem W.ref06_Space_Bytes_ok (s : Option Addr) (w : World) (Q : Value → World → Prop) (h : W.ref06_Space_Bytes s w Q) : Calls Try.prog F.ref06_Space_Bytes #[.pointer s] w fun e w1 => ∃ v, e = .returned v ∧ Q v w1 :=
  calls_of_DF hmix Try.func52 (by kernel_rfl) (Eq.mp (W.ref06_Space_Bytes_eq s w Q) h)

/-- (*stanchion/space.Space).Taken -/
def W.space_Space_Taken (s : Option Addr) (no : Int) (w : World) (Q : Value → World → Prop) : Prop :=
  Calls Try.prog F.space_Space_has #[.pointer s, .int .i64 no] w fun e2 w1 =>
  ∃ b3 : Bool, e2 = .returned (.bool b3) ∧ Jn (
    fun k4 : Bool → World → Prop => (
      b3 = true → ∃ a5 : Addr, s = some a5 ∧ ∃ s6 : Sl, w1.cell? (a5.add 1) = some (.slice s6.a s6.len s6.cap) ∧
      Calls Try.prog F.space_set_has #[.slice s6.a s6.len s6.cap, .int .i64 no] w1 fun e8 w7 =>
      ∃ b9 : Bool, e8 = .returned (.bool b9) ∧ k4 b9 w7)
    ∧ (b3 = false → k4 false w1))
  (fun (b10 : Bool) (w11 : World) => Q (.bool b10) w11)
def A.space_Space_Taken : AT := (.seq (.reg []) (.seq (.reg [.run, .run, .run, .run, .split 6]) .leaf))
theorem W.space_Space_Taken_eq (s : Option Addr) (no : Int) (w : World) (Q : Value → World → Prop) : W.space_Space_Taken s no w Q = DF Try.prog tk A.space_Space_Taken Try.f53 [.pointer s, .int .i64 no] w Q := by kernel_rfl
theorem W.space_Space_Taken_ok (s : Option Addr) (no : Int) (w : World) (Q : Value → World → Prop) (h : W.space_Space_Taken s no w Q) : Calls Try.prog F.space_Space_Taken #[.pointer s, .int .i64 no] w fun e w1 => ∃ v, e = .returned v ∧ Q v w1 :=
  calls_of_DF hmix Try.func53 (by kernel_rfl) (Eq.mp (W.space_Space_Taken_eq s no w Q) h)

/-- (*stanchion/space.Space).Fresh -/
def W.space_Space_Fresh (s : Option Addr) (no : Int) (w : World) (Q : Value → World → Prop) : Prop :=
  Calls Try.prog F.space_Space_has #[.pointer s, .int .i64 no] w fun e2 w1 =>
  ∃ b3 : Bool, e2 = .returned (.bool b3) ∧ Jn (
    fun k4 : Bool → World → Prop => (
      b3 = true → ∃ a5 : Addr, s = some a5 ∧ ∃ s6 : Sl, w1.cell? (a5.add 1) = some (.slice s6.a s6.len s6.cap) ∧
      Calls Try.prog F.space_set_has #[.slice s6.a s6.len s6.cap, .int .i64 no] w1 fun e8 w7 =>
      ∃ b9 : Bool, e8 = .returned (.bool b9) ∧ k4 b9 w7)
    ∧ (b3 = false → k4 false w1))
  (
    fun (b10 : Bool) (w11 : World) => Jn (
      fun k12 : Bool → World → Prop => (
        b10 = true → ∃ a13 : Addr, s = some a13 ∧ ∃ s14 : Sl, w11.cell? (a13.add 2) = some (.slice s14.a s14.len s14.cap) ∧
        Calls Try.prog F.space_set_has #[.slice s14.a s14.len s14.cap, .int .i64 no] w11 fun e16 w15 =>
        ∃ b17 : Bool, e16 = .returned (.bool b17) ∧ k12 (!b17) w15)
      ∧ (b10 = false → k12 false w11))
    (fun (b18 : Bool) (w19 : World) => Q (.bool b18) w19))
def A.space_Space_Fresh : AT := (.seq (.reg []) (.seq (.reg [.run, .run, .run, .run, .split 6, .run, .run, .run, .run, .run, .run, .run, .split 7]) .leaf))
theorem W.space_Space_Fresh_eq (s : Option Addr) (no : Int) (w : World) (Q : Value → World → Prop) : W.space_Space_Fresh s no w Q = DF Try.prog tk A.space_Space_Fresh Try.f54 [.pointer s, .int .i64 no] w Q := by kernel_rfl
theorem W.space_Space_Fresh_ok (s : Option Addr) (no : Int) (w : World) (Q : Value → World → Prop) (h : W.space_Space_Fresh s no w Q) : Calls Try.prog F.space_Space_Fresh #[.pointer s, .int .i64 no] w fun e w1 => ∃ v, e = .returned v ∧ Q v w1 :=
  calls_of_DF hmix Try.func54 (by kernel_rfl) (Eq.mp (W.space_Space_Fresh_eq s no w Q) h)

end Go.Proofs.Ytejnlmabomampaa
