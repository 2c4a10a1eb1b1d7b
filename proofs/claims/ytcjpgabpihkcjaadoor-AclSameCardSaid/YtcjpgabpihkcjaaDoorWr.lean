/- Printed by gen.py: each function of the program as what must be shown of it. -/
import Derived.Test.YtcjpgabpihkcjaaDoorGb
namespace Go.Proofs.YtcjpgabpihkcjaaDoor
open Go Gx
set_option maxRecDepth 100000
/-- stanchion/stanchionref32.First -/
def W.ref32_First (l : Sl) (f : Array Value) (w : World) (Q : Value → World → Prop) : Prop :=
  Nx (w.alloc (.cells f Ty.api_Flow)) fun w1 => ∃ (I2 : Int → World → Prop) (μ3 : Int → World → Nat), I2 0 w1 ∧
  ∀ (n4 : Int) (w5 : World), I2 n4 w5 → (
    (decide ((n4 : Int) < ((l.len : Nat) : Int))) = true → Nx (w5.drew) fun w6 =>
    ∃ a7 : Addr, l.a = some a7 ∧ ((0 : Int) ≤ n4 ∧ n4 < ((l.len : Nat) : Int)) ∧
    ¬ False ∧ ∃ l8 : List Value, rdCells w6 (a7.add (Int.toNat n4 * 40)) 0 40 = some l8 ∧
    ¬ False ∧ ∃ l9 : List Value, rdCells w6 ⟨w.heap.size, 0, none⟩ 0 37 = some l9 ∧
    Calls Tryd.prog F.ref32_Hits #[.agg l8.toArray, .agg l9.toArray] w6 fun e11 w10 =>
    ∃ b12 : Bool, e11 = .returned (.bool b12) ∧ (b12 = true → Q (.int .i64 n4) w10) ∧
    (b12 = false → I2 (IntKind.wrap .i64 (n4 + 1)) w10 ∧ μ3 (IntKind.wrap .i64 (n4 + 1)) w10 < μ3 n4 w5))
  ∧ ((decide ((n4 : Int) < ((l.len : Nat) : Int))) = false → Q (.int .i64 (-1)) w5)
def A.ref32_First : AT := (.seq (.reg []) (.seq (.seq (.reg []) (.blk (.loop [(5, (.int .i64))] [0, 3] (.seq (.seq (.reg []) (.cond .leaf .leaf)) (.seq (.blk (.seq (.drw 5 false ⟨[0, 0, 3, 4, 0, 24], [0, 0, 3, 4, 0, 24]⟩ [4096, 8192, 16384, 32768, 65536, 131072] [1, 32, 12288, 16384, 8, 98304] (.take 0 (.take 1 (.take 2 (.take 3 (.take 4 (.tail [.run]))))))) (.cond (.seq (.reg []) .leaf) .leaf))) (.reg [])))))) (.seq (.reg []) .leaf)))
theorem W.ref32_First_eq (l : Sl) (f : Array Value) (w : World) (Q : Value → World → Prop) : W.ref32_First l f w Q = DF Tryd.prog tk A.ref32_First Tryd.f14 [.slice l.a l.len l.cap, .agg f] w Q := by kernel_rfl
theorem W.ref32_First_ok (l : Sl) (f : Array Value) (w : World) (Q : Value → World → Prop) (h : W.ref32_First l f w Q) : Calls Tryd.prog F.ref32_First #[.slice l.a l.len l.cap, .agg f] w fun e w1 => ∃ v, e = .returned v ∧ Q v w1 :=
  calls_of_DF hmix Tryd.func14 (by kernel_rfl) (Eq.mp (W.ref32_First_eq l f w Q) h)

/-- stanchion/stanchionref32.Hits -/
def W.ref32_Hits (r : Array Value) (f : Array Value) (w : World) (Q : Value → World → Prop) : Prop :=
  Nx (w.alloc (.cells r Ty.api_Rule)) fun w1 => Nx (w1.alloc (.cells f Ty.api_Flow)) fun w2 =>
  ∃ l3 : List Value, rdCells w2 ⟨w.heap.size, 0, none⟩ 0 40 = some l3 ∧ Calls Tryd.prog F.ref32_Good #[.agg l3.toArray] w2 fun e5 w4 =>
  ∃ b6 : Bool, e5 = .returned (.bool b6) ∧ Jn (
    fun k7 : Bool → World → Prop => (
      b6 = true → ∃ l8 : List Value, rdCells w4 ⟨w1.heap.size, 0, none⟩ 0 17 = some l8 ∧
      ∃ l9 : List Value, rdCells w4 ⟨w.heap.size, 0, none⟩ 0 18 = some l9 ∧ Calls Tryd.prog F.ref32_in #[.agg l8.toArray, .agg l9.toArray] w4 fun e11 w10 =>
      ∃ b12 : Bool, e11 = .returned (.bool b12) ∧ k7 b12 w10)
    ∧ (b6 = false → k7 false w4))
  (
    fun (b13 : Bool) (w14 : World) => Jn (
      fun k15 : Bool → World → Prop => (
        b13 = true → ∃ l16 : List Value, rdCells w14 (Addr.add ⟨w1.heap.size, 0, none⟩ 17) 0 17 = some l16 ∧
        ∃ l17 : List Value, rdCells w14 (Addr.add ⟨w.heap.size, 0, none⟩ 18) 0 18 = some l17 ∧
        Calls Tryd.prog F.ref32_in #[.agg l16.toArray, .agg l17.toArray] w14 fun e19 w18 =>
        ∃ b20 : Bool, e19 = .returned (.bool b20) ∧ k15 b20 w18)
      ∧ (b13 = false → k15 false w14))
    (
      fun (b21 : Bool) (w22 : World) => Jn (
        fun k23 : Bool → World → Prop => (
          b21 = true → ∃ n24 : Int, w22.cell? (Addr.add ⟨w.heap.size, 0, none⟩ 36) = some (.int .u8 n24) ∧
          Jn (
            fun k25 : Bool → World → Prop => (((n24 : Int) == 0) = true → k25 true w22) ∧
            (
              ((n24 : Int) == 0) = false → ∃ n26 : Int, w22.cell? (Addr.add ⟨w.heap.size, 0, none⟩ 36) = some (.int .u8 n26) ∧
              ∃ n27 : Int, w22.cell? (Addr.add ⟨w1.heap.size, 0, none⟩ 36) = some (.int .u8 n27) ∧
              k25 ((n26 : Int) == n27) w22)
            )
          (fun (b28 : Bool) (w29 : World) => k23 b28 w29))
        ∧ (b21 = false → k23 false w22))
      (
        fun (b30 : Bool) (w31 : World) => Jn (
          fun k32 : Bool → World → Prop => (
            b30 = true → ∃ n33 : Int, w31.cell? (Addr.add ⟨w1.heap.size, 0, none⟩ 35) = some (.int .u16 n33) ∧
            ∃ n34 : Int, w31.cell? (Addr.add ⟨w.heap.size, 0, none⟩ 37) = some (.int .u16 n34) ∧
            k32 (decide ((n33 : Int) ≥ n34)) w31)
          ∧ (b30 = false → k32 false w31))
        (
          fun (b35 : Bool) (w36 : World) => Jn (
            fun k37 : Bool → World → Prop => (
              b35 = true → ∃ n38 : Int, w36.cell? (Addr.add ⟨w1.heap.size, 0, none⟩ 35) = some (.int .u16 n38) ∧
              ∃ n39 : Int, w36.cell? (Addr.add ⟨w.heap.size, 0, none⟩ 38) = some (.int .u16 n39) ∧
              k37 (decide ((n38 : Int) ≤ n39)) w36)
            ∧ (b35 = false → k37 false w36))
          (fun (b40 : Bool) (w41 : World) => Q (.bool b40) w41))
        )
      )
    )
def A.ref32_Hits : AT := (.seq (.reg []) (.seq (.reg [.run, .run, .run, .split 5, .run, .run, .run, .run, .run, .run, .split 5, .run, .run, .run, .run, .run, .run, .split 10, .run, .run, .run, .split 5, .run, .run, .run, .run, .run, .run, .run, .split 5, .run, .run, .run, .run, .run, .run, .split 5]) .leaf))
theorem W.ref32_Hits_eq (r : Array Value) (f : Array Value) (w : World) (Q : Value → World → Prop) : W.ref32_Hits r f w Q = DF Tryd.prog tk A.ref32_Hits Tryd.f16 [.agg r, .agg f] w Q := by kernel_rfl
theorem W.ref32_Hits_ok (r : Array Value) (f : Array Value) (w : World) (Q : Value → World → Prop) (h : W.ref32_Hits r f w Q) : Calls Tryd.prog F.ref32_Hits #[.agg r, .agg f] w fun e w1 => ∃ v, e = .returned v ∧ Q v w1 :=
  calls_of_DF hmix Tryd.func16 (by kernel_rfl) (Eq.mp (W.ref32_Hits_eq r f w Q) h)

/-- stanchion/stanchionref32.Good -/
def W.ref32_Good (r : Array Value) (w : World) (Q : Value → World → Prop) : Prop :=
  Nx (w.alloc (.cells r Ty.api_Rule)) fun w1 => ∃ l2 : List Value, rdCells w1 ⟨w.heap.size, 0, none⟩ 0 18 = some l2 ∧
  Calls Tryd.prog F.ref31_Good #[.agg l2.toArray] w1 fun e4 w3 => ∃ b5 : Bool, e4 = .returned (.bool b5) ∧
  Jn (
    fun k6 : Bool → World → Prop => (
      b5 = true → ∃ l7 : List Value, rdCells w3 (Addr.add ⟨w.heap.size, 0, none⟩ 18) 0 18 = some l7 ∧
      Calls Tryd.prog F.ref31_Good #[.agg l7.toArray] w3 fun e9 w8 => ∃ b10 : Bool, e9 = .returned (.bool b10) ∧
      k6 b10 w8)
    ∧ (b5 = false → k6 false w3))
  (
    fun (b11 : Bool) (w12 : World) => Jn (
      fun k13 : Bool → World → Prop => (
        b11 = true → ∃ b14 : Bool, w12.cell? ⟨w.heap.size, 0, none⟩ = some (.bool b14) ∧
        ∃ b15 : Bool, w12.cell? (Addr.add ⟨w.heap.size, 0, none⟩ 18) = some (.bool b15) ∧
        k13 (b14 == b15) w12)
      ∧ (b11 = false → k13 false w12))
    (
      fun (b16 : Bool) (w17 : World) => Jn (
        fun k18 : Bool → World → Prop => (
          b16 = true → ∃ n19 : Int, w17.cell? (Addr.add ⟨w.heap.size, 0, none⟩ 37) = some (.int .u16 n19) ∧
          ∃ n20 : Int, w17.cell? (Addr.add ⟨w.heap.size, 0, none⟩ 38) = some (.int .u16 n20) ∧
          k18 (decide ((n19 : Int) ≤ n20)) w17)
        ∧ (b16 = false → k18 false w17))
      (fun (b21 : Bool) (w22 : World) => Q (.bool b21) w22))
    )
def A.ref32_Good : AT := (.seq (.reg []) (.seq (.reg [.run, .run, .run, .run, .split 3, .run, .run, .run, .run, .split 9, .run, .run, .run, .run, .run, .run, .run, .run, .run, .run, .split 5]) .leaf))
theorem W.ref32_Good_eq (r : Array Value) (w : World) (Q : Value → World → Prop) : W.ref32_Good r w Q = DF Tryd.prog tk A.ref32_Good Tryd.f18 [.agg r] w Q := by kernel_rfl
theorem W.ref32_Good_ok (r : Array Value) (w : World) (Q : Value → World → Prop) (h : W.ref32_Good r w Q) : Calls Tryd.prog F.ref32_Good #[.agg r] w fun e w1 => ∃ v, e = .returned v ∧ Q v w1 :=
  calls_of_DF hmix Tryd.func18 (by kernel_rfl) (Eq.mp (W.ref32_Good_eq r w Q) h)

/-- stanchion/stanchionref32.Covers -/
def W.ref32_Covers (a : Array Value) (b : Array Value) (w : World) (Q : Value → World → Prop) : Prop :=
  Nx (w.alloc (.cells a Ty.api_Rule)) fun w1 => Nx (w1.alloc (.cells b Ty.api_Rule)) fun w2 =>
  ∃ l3 : List Value, rdCells w2 ⟨w.heap.size, 0, none⟩ 0 40 = some l3 ∧ Calls Tryd.prog F.ref32_Good #[.agg l3.toArray] w2 fun e5 w4 =>
  ∃ b6 : Bool, e5 = .returned (.bool b6) ∧ Jn (
    fun k7 : Bool → World → Prop => (
      b6 = true → ∃ l8 : List Value, rdCells w4 ⟨w1.heap.size, 0, none⟩ 0 40 = some l8 ∧
      Calls Tryd.prog F.ref32_Good #[.agg l8.toArray] w4 fun e10 w9 => ∃ b11 : Bool, e10 = .returned (.bool b11) ∧
      k7 b11 w9)
    ∧ (b6 = false → k7 false w4))
  (
    fun (b12 : Bool) (w13 : World) => Jn (
      fun k14 : Bool → World → Prop => (
        b12 = true → ∃ l15 : List Value, rdCells w13 ⟨w1.heap.size, 0, none⟩ 0 18 = some l15 ∧
        ∃ l16 : List Value, rdCells w13 ⟨w.heap.size, 0, none⟩ 0 18 = some l16 ∧ Calls Tryd.prog F.ref31_In #[.agg l15.toArray, .agg l16.toArray] w13 fun e18 w17 =>
        ∃ b19 : Bool, e18 = .returned (.bool b19) ∧ k14 b19 w17)
      ∧ (b12 = false → k14 false w13))
    (
      fun (b20 : Bool) (w21 : World) => Jn (
        fun k22 : Bool → World → Prop => (
          b20 = true → ∃ l23 : List Value, rdCells w21 (Addr.add ⟨w1.heap.size, 0, none⟩ 18) 0 18 = some l23 ∧
          ∃ l24 : List Value, rdCells w21 (Addr.add ⟨w.heap.size, 0, none⟩ 18) 0 18 = some l24 ∧
          Calls Tryd.prog F.ref31_In #[.agg l23.toArray, .agg l24.toArray] w21 fun e26 w25 =>
          ∃ b27 : Bool, e26 = .returned (.bool b27) ∧ k22 b27 w25)
        ∧ (b20 = false → k22 false w21))
      (
        fun (b28 : Bool) (w29 : World) => Jn (
          fun k30 : Bool → World → Prop => (
            b28 = true → ∃ n31 : Int, w29.cell? (Addr.add ⟨w.heap.size, 0, none⟩ 36) = some (.int .u8 n31) ∧
            Jn (
              fun k32 : Bool → World → Prop => (((n31 : Int) == 0) = true → k32 true w29) ∧
              (
                ((n31 : Int) == 0) = false → ∃ n33 : Int, w29.cell? (Addr.add ⟨w.heap.size, 0, none⟩ 36) = some (.int .u8 n33) ∧
                ∃ n34 : Int, w29.cell? (Addr.add ⟨w1.heap.size, 0, none⟩ 36) = some (.int .u8 n34) ∧
                k32 ((n33 : Int) == n34) w29)
              )
            (fun (b35 : Bool) (w36 : World) => k30 b35 w36))
          ∧ (b28 = false → k30 false w29))
        (
          fun (b37 : Bool) (w38 : World) => Jn (
            fun k39 : Bool → World → Prop => (
              b37 = true → ∃ n40 : Int, w38.cell? (Addr.add ⟨w1.heap.size, 0, none⟩ 37) = some (.int .u16 n40) ∧
              ∃ n41 : Int, w38.cell? (Addr.add ⟨w.heap.size, 0, none⟩ 37) = some (.int .u16 n41) ∧
              k39 (decide ((n40 : Int) ≥ n41)) w38)
            ∧ (b37 = false → k39 false w38))
          (
            fun (b42 : Bool) (w43 : World) => Jn (
              fun k44 : Bool → World → Prop => (
                b42 = true → ∃ n45 : Int, w43.cell? (Addr.add ⟨w1.heap.size, 0, none⟩ 38) = some (.int .u16 n45) ∧
                ∃ n46 : Int, w43.cell? (Addr.add ⟨w.heap.size, 0, none⟩ 38) = some (.int .u16 n46) ∧
                k44 (decide ((n45 : Int) ≤ n46)) w43)
              ∧ (b42 = false → k44 false w43))
            (fun (b47 : Bool) (w48 : World) => Q (.bool b47) w48))
          )
        )
      )
    )
def A.ref32_Covers : AT := (.seq (.reg []) (.seq (.reg [.run, .run, .run, .split 2, .run, .run, .run, .split 5, .run, .run, .run, .run, .run, .run, .split 5, .run, .run, .run, .run, .run, .run, .split 10, .run, .run, .run, .split 5, .run, .run, .run, .run, .run, .run, .run, .split 5, .run, .run, .run, .run, .run, .run, .split 5]) .leaf))
theorem W.ref32_Covers_eq (a : Array Value) (b : Array Value) (w : World) (Q : Value → World → Prop) : W.ref32_Covers a b w Q = DF Tryd.prog tk A.ref32_Covers Tryd.f21 [.agg a, .agg b] w Q := by kernel_rfl
theorem W.ref32_Covers_ok (a : Array Value) (b : Array Value) (w : World) (Q : Value → World → Prop) (h : W.ref32_Covers a b w Q) : Calls Tryd.prog F.ref32_Covers #[.agg a, .agg b] w fun e w1 => ∃ v, e = .returned v ∧ Q v w1 :=
  calls_of_DF hmix Tryd.func21 (by kernel_rfl) (Eq.mp (W.ref32_Covers_eq a b w Q) h)

/-- stanchion/stanchionref32.Idle -/
def W.ref32_Idle (l : Sl) (v_at : Int) (w : World) (Q : Value → World → Prop) : Prop :=
  ∃ a1 : Addr, l.a = some a1 ∧ ((0 : Int) ≤ v_at ∧ v_at < ((l.len : Nat) : Int)) ∧
  ∃ l2 : List Value, rdCells w (a1.add (Int.toNat v_at * 40)) 0 40 = some l2 ∧
  Calls Tryd.prog F.ref32_Good #[.agg l2.toArray] w fun e4 w3 => ∃ b5 : Bool, e4 = .returned (.bool b5) ∧
  ((!b5) = true → Q (.bool true) w3) ∧ (
    (!b5) = false → ∃ (I6 : Int → World → Prop) (μ7 : Int → World → Nat), I6 0 w3 ∧
    ∀ (n8 : Int) (w9 : World), I6 n8 w9 → (
      (decide ((n8 : Int) < v_at)) = true → Nx (w9.drew) fun w10 => ∃ a11 : Addr, l.a = some a11 ∧
      ((0 : Int) ≤ n8 ∧ n8 < ((l.len : Nat) : Int)) ∧ ¬ False ∧ ∃ l12 : List Value, rdCells w10 (a11.add (Int.toNat n8 * 40)) 0 40 = some l12 ∧
      ∃ a13 : Addr, l.a = some a13 ∧ ((0 : Int) ≤ v_at ∧ v_at < ((l.len : Nat) : Int)) ∧
      ¬ False ∧ ∃ l14 : List Value, rdCells w10 (a13.add (Int.toNat v_at * 40)) 0 40 = some l14 ∧
      Calls Tryd.prog F.ref32_Covers #[.agg l12.toArray, .agg l14.toArray] w10 fun e16 w15 =>
      ∃ b17 : Bool, e16 = .returned (.bool b17) ∧ (b17 = true → Q (.bool true) w15) ∧
      (b17 = false → I6 (IntKind.wrap .i64 (n8 + 1)) w15 ∧ μ7 (IntKind.wrap .i64 (n8 + 1)) w15 < μ7 n8 w9))
    ∧ ((decide ((n8 : Int) < v_at)) = false → Q (.bool false) w9))
def A.ref32_Idle : AT := (.seq (.reg []) (.seq (.seq (.reg []) (.cond (.seq (.reg []) .leaf) .leaf)) (.seq (.seq (.reg []) (.blk (.loop [(5, (.int .i64))] [0, 1] (.seq (.seq (.reg []) (.cond .leaf .leaf)) (.seq (.blk (.seq (.drw 8 false ⟨[0, 0, 3, 4, 0, 0, 48, 64, 136], [0, 0, 3, 4, 0, 0, 48, 64, 136]⟩ [131072, 262144, 524288, 1048576, 2097152, 4194304, 8388608, 16777216, 33554432] [1, 32, 393216, 524288, 1, 2, 6291456, 8388608, 17825792] (.take 0 (.take 1 (.take 2 (.take 3 (.take 4 (.take 5 (.take 6 (.take 7 (.tail [.run])))))))))) (.cond (.seq (.reg []) .leaf) .leaf))) (.reg [])))))) (.seq (.reg []) .leaf))))
theorem W.ref32_Idle_eq (l : Sl) (v_at : Int) (w : World) (Q : Value → World → Prop) : W.ref32_Idle l v_at w Q = DF Tryd.prog tk A.ref32_Idle Tryd.f24 [.slice l.a l.len l.cap, .int .i64 v_at] w Q := by kernel_rfl
theorem W.ref32_Idle_ok (l : Sl) (v_at : Int) (w : World) (Q : Value → World → Prop) (h : W.ref32_Idle l v_at w Q) : Calls Tryd.prog F.ref32_Idle #[.slice l.a l.len l.cap, .int .i64 v_at] w fun e w1 => ∃ v, e = .returned v ∧ Q v w1 :=
  calls_of_DF hmix Tryd.func24 (by kernel_rfl) (Eq.mp (W.ref32_Idle_eq l v_at w Q) h)

/-- stanchion/stanchionref12.Good -/
def W.ref12_Good (a : Array Value) (w : World) (Q : Value → World → Prop) : Prop :=
  Nx (w.alloc (.cells a Ty.api_Addr)) fun w1 => ∃ (I2 : Int → World → Prop) (μ3 : Int → World → Nat), I2 0 w1 ∧
  ∀ (n4 : Int) (w5 : World), I2 n4 w5 → (
    (decide ((n4 : Int) < 12)) = true → ∃ b6 : Bool, w5.cell? ⟨w.heap.size, 0, none⟩ = some (.bool b6) ∧
    Jn (
      fun k7 : Bool → World → Prop => (
        (!b6) = true → ((0 : Int) ≤ n4 ∧ n4 < ((16 : Nat) : Int)) ∧ ∃ n8 : Int, w5.cell? (Addr.add (Addr.add ⟨w.heap.size, 0, none⟩ 1) (Int.toNat n4 * 1)) = some (.int .u8 n8) ∧
        k7 ((n8 : Int) != 0) w5)
      ∧ ((!b6) = false → k7 false w5))
    (
      fun (b9 : Bool) (w10 : World) => (b9 = true → Q (.bool false) w10) ∧ (b9 = false → I2 (IntKind.wrap .i64 (n4 + 1)) w10 ∧ μ3 (IntKind.wrap .i64 (n4 + 1)) w10 < μ3 n4 w5))
    )
  ∧ ((decide ((n4 : Int) < 12)) = false → Q (.bool true) w5)
def A.ref12_Good : AT := (.seq (.reg []) (.seq (.seq (.reg []) (.blk (.loop [(3, (.int .i64))] [1] (.seq (.seq (.reg []) (.cond .leaf .leaf)) (.seq (.blk (.seq (.reg [.run, .run, .run, .run, .split 5]) (.cond (.seq (.reg []) .leaf) .leaf))) (.reg [])))))) (.seq (.reg []) .leaf)))
theorem W.ref12_Good_eq (a : Array Value) (w : World) (Q : Value → World → Prop) : W.ref12_Good a w Q = DF Tryd.prog tk A.ref12_Good Tryd.f27 [.agg a] w Q := by kernel_rfl
theorem W.ref12_Good_ok (a : Array Value) (w : World) (Q : Value → World → Prop) (h : W.ref12_Good a w Q) : Calls Tryd.prog F.ref12_Good #[.agg a] w fun e w1 => ∃ v, e = .returned v ∧ Q v w1 :=
  calls_of_DF hmix Tryd.func27 (by kernel_rfl) (Eq.mp (W.ref12_Good_eq a w Q) h)

/-- stanchion/stanchionref12.Bytes -/
def W.ref12_Bytes (a : Array Value) (w : World) (Q : Value → World → Prop) : Prop :=
  Nx (w.alloc (.cells a Ty.api_Addr)) fun w1 => Nx (w1.alloc (.cells #[] Ty.uint8)) fun w2 =>
  ∃ l3 : List Value, rdCells w2 ⟨w.heap.size, 0, none⟩ 0 17 = some l3 ∧ Calls Tryd.prog F.ref12_From #[.agg l3.toArray] w2 fun e5 w4 =>
  ∃ n6 : Int, e5 = .returned (.int .i64 n6) ∧ ((0 : Int) ≤ n6 ∧ n6 ≤ ((16 : Nat) : Int)) ∧
  ∃ s7 : Sl, ∃ w8 : World, Sem.run Tryd.prog (
    Builtin.append_ #[Ty.Sl_uint8, Ty.Sl_uint8] Ty.Sl_uint8 #[.slice (some ⟨w1.heap.size, 0, none⟩) 0 0, .slice (cutA (some (Addr.add ⟨w.heap.size, 0, none⟩ 1)) 1 (Int.toNat n6) 16) (16 - (Int.toNat n6)) (16 - (Int.toNat n6))])
  w4 = .ok (.slice s7.a s7.len s7.cap) w8 ∧ Q (.slice s7.a s7.len s7.cap) w8
def A.ref12_Bytes : AT := (.seq (.reg []) (.seq (.reg []) .leaf))
theorem W.ref12_Bytes_eq (a : Array Value) (w : World) (Q : Value → World → Prop) : W.ref12_Bytes a w Q = DF Tryd.prog tk A.ref12_Bytes Tryd.f28 [.agg a] w Q := by kernel_rfl
theorem W.ref12_Bytes_ok (a : Array Value) (w : World) (Q : Value → World → Prop) (h : W.ref12_Bytes a w Q) : Calls Tryd.prog F.ref12_Bytes #[.agg a] w fun e w1 => ∃ v, e = .returned v ∧ Q v w1 :=
  calls_of_DF hmix Tryd.func28 (by kernel_rfl) (Eq.mp (W.ref12_Bytes_eq a w Q) h)

/-- stanchion/stanchionref12.Mask -/
def W.ref12_Mask (a : Array Value) (bits : Int) (w : World) (Q : Value → World → Prop) : Prop :=
  Nx (w.alloc (.cells a Ty.api_Addr)) fun w1 => Nx (
    w1.alloc (
      .cells #[.bool false, .int .u8 0, .int .u8 0, .int .u8 0, .int .u8 0, .int .u8 0, .int .u8 0, .int .u8 0, .int .u8 0, .int .u8 0, .int .u8 0, .int .u8 0, .int .u8 0, .int .u8 0, .int .u8 0, .int .u8 0, .int .u8 0, .int .i64 0] Ty.api_Prefix)
    )
  fun w2 => ∃ l3 : List Value, rdCells w2 ⟨w.heap.size, 0, none⟩ 0 17 = some l3 ∧
  Calls Tryd.prog F.ref12_From #[.agg l3.toArray] w2 fun e5 w4 => ∃ n6 : Int, e5 = .returned (.int .i64 n6) ∧
  ∃ l7 : List Value, rdCells w4 ⟨w.heap.size, 0, none⟩ 0 17 = some l7 ∧ Calls Tryd.prog F.ref12_Good #[.agg l7.toArray] w4 fun e9 w8 =>
  ∃ b10 : Bool, e9 = .returned (.bool b10) ∧ (
    (
      ((!b10) || (decide ((bits : Int) < 0))) || (decide ((bits : Int) > (IntKind.wrap .i64 (8 * (IntKind.wrap .i64 (16 - n6)))))))
    = true → ∃ c11 : Array Value, Sem.run Tryd.prog (Instr.build Ty.api_Prefix #[]) w8 = .ok (.agg c11) w8 ∧
    StoreOk w8 ⟨w1.heap.size, 0, none⟩ (Array.toList c11) ∧ Array.size c11 = 18 ∧
    Nx (setCells w8 ⟨w1.heap.size, 0, none⟩ 0 (Array.toList c11)) fun w12 => ∃ l13 : List Value, rdCells w12 ⟨w1.heap.size, 0, none⟩ 0 18 = some l13 ∧
    Q (.tuple #[.agg l13.toArray, .bool false]) w12)
  ∧ (
    (
      ((!b10) || (decide ((bits : Int) < 0))) || (decide ((bits : Int) > (IntKind.wrap .i64 (8 * (IntKind.wrap .i64 (16 - n6)))))))
    = false → ∃ b14 : Bool, w8.cell? ⟨w.heap.size, 0, none⟩ = some (.bool b14) ∧
    ∃ c15 : Array Value, Sem.run Tryd.prog (Instr.build Ty.api_Addr #[(0, .bool b14)]) w8 = .ok (.agg c15) w8 ∧
    ∃ c16 : Array Value, Sem.run Tryd.prog (Instr.build Ty.api_Prefix #[(0, .agg c15), (1, .int .i64 bits)]) w8 = .ok (.agg c16) w8 ∧
    Nx (
      w8.alloc (
        .cells #[.bool false, .int .u8 0, .int .u8 0, .int .u8 0, .int .u8 0, .int .u8 0, .int .u8 0, .int .u8 0, .int .u8 0, .int .u8 0, .int .u8 0, .int .u8 0, .int .u8 0, .int .u8 0, .int .u8 0, .int .u8 0, .int .u8 0, .int .i64 0] Ty.api_Prefix)
      )
    fun w17 => StoreOk w17 ⟨w8.heap.size, 0, none⟩ (Array.toList c16) ∧ Array.size c16 = 18 ∧
    Nx (setCells w17 ⟨w8.heap.size, 0, none⟩ 0 (Array.toList c16)) fun w18 => ∃ (I19 : Int → World → Prop) (μ20 : Int → World → Nat), I19 0 w18 ∧
    ∀ (n21 : Int) (w22 : World), I19 n21 w22 → (
      (decide ((n21 : Int) < bits)) = true → Jn (
        fun k23 : World → Prop => (8 : Int) ≠ 0 ∧ (
          (0 : Int) ≤ (IntKind.wrap .i64 (n6 + (IntKind.wrap .i64 (Int.tdiv n21 8)))) ∧
          (IntKind.wrap .i64 (n6 + (IntKind.wrap .i64 (Int.tdiv n21 8)))) < ((16 : Nat) : Int))
        ∧ ∃ n24 : Int, w22.cell? (
          Addr.add (Addr.add ⟨w.heap.size, 0, none⟩ 1) (Int.toNat (IntKind.wrap .i64 (n6 + (IntKind.wrap .i64 (Int.tdiv n21 8)))) * 1))
        = some (.int .u8 n24) ∧ (8 : Int) ≠ 0 ∧ (0 : Int) ≤ (IntKind.wrap .u64 (IntKind.wrap .i64 (7 - (Int.tmod n21 8)))) ∧
        (2 : Int) ≠ 0 ∧ (
          (
            (
              (
                Int.tmod (
                  Int.fdiv n24 (2 ^ (min (Int.toNat (IntKind.wrap .u64 (IntKind.wrap .i64 (7 - (Int.tmod n21 8))))) 8)))
                2)
              : Int)
            == 1)
          = true → (8 : Int) ≠ 0 ∧ (8 : Int) ≠ 0 ∧ (
            (0 : Int) ≤ (IntKind.wrap .i64 (n6 + (IntKind.wrap .i64 (Int.tdiv n21 8)))) ∧
            (IntKind.wrap .i64 (n6 + (IntKind.wrap .i64 (Int.tdiv n21 8)))) < ((16 : Nat) : Int))
          ∧ ∃ n25 : Int, w22.cell? (
            Addr.add (Addr.add ⟨w8.heap.size, 0, none⟩ 1) (Int.toNat (IntKind.wrap .i64 (n6 + (IntKind.wrap .i64 (Int.tdiv n21 8)))) * 1))
          = some (.int .u8 n25) ∧ (8 : Int) ≠ 0 ∧ (0 : Int) ≤ (IntKind.wrap .u64 (IntKind.wrap .i64 (7 - (Int.tmod n21 8)))) ∧
          (
            (0 : Int) ≤ (IntKind.wrap .i64 (n6 + (IntKind.wrap .i64 (Int.tdiv n21 8)))) ∧
            (IntKind.wrap .i64 (n6 + (IntKind.wrap .i64 (Int.tdiv n21 8)))) < ((16 : Nat) : Int))
          ∧ (
            ∃ u : Value, w22.cell? (
              Addr.add (Addr.add ⟨w8.heap.size, 0, none⟩ 1) (Int.toNat (IntKind.wrap .i64 (n6 + (IntKind.wrap .i64 (Int.tdiv n21 8)))) * 1))
            = some u)
          ∧ w22.frozen? (
            Addr.add (Addr.add ⟨w8.heap.size, 0, none⟩ 1) (Int.toNat (IntKind.wrap .i64 (n6 + (IntKind.wrap .i64 (Int.tdiv n21 8)))) * 1))
          = false ∧ Nx (
            w22.setCell (
              Addr.add (Addr.add ⟨w8.heap.size, 0, none⟩ 1) (Int.toNat (IntKind.wrap .i64 (n6 + (IntKind.wrap .i64 (Int.tdiv n21 8)))) * 1))
            (
              .int .u8 (
                IntKind.wrap .u8 (
                  n25 + (
                    IntKind.wrap .u8 (1 * 2 ^ (min (Int.toNat (IntKind.wrap .u64 (IntKind.wrap .i64 (7 - (Int.tmod n21 8))))) 8)))
                  )
                )
              )
            )
          fun w26 => k23 w26)
        ∧ (
          (
            (
              (
                Int.tmod (
                  Int.fdiv n24 (2 ^ (min (Int.toNat (IntKind.wrap .u64 (IntKind.wrap .i64 (7 - (Int.tmod n21 8))))) 8)))
                2)
              : Int)
            == 1)
          = false → k23 w22)
        )
      (
        fun  (w27 : World) => I19 (IntKind.wrap .i64 (n21 + 1)) w27 ∧ μ20 (IntKind.wrap .i64 (n21 + 1)) w27 < μ20 n21 w22)
      )
    ∧ (
      (decide ((n21 : Int) < bits)) = false → ∃ l28 : List Value, rdCells w22 ⟨w8.heap.size, 0, none⟩ 0 18 = some l28 ∧
      StoreOk w22 ⟨w1.heap.size, 0, none⟩ (Array.toList l28.toArray) ∧ Array.size l28.toArray = 18 ∧
      Nx (setCells w22 ⟨w1.heap.size, 0, none⟩ 0 (Array.toList l28.toArray)) fun w29 =>
      ∃ l30 : List Value, rdCells w29 ⟨w1.heap.size, 0, none⟩ 0 18 = some l30 ∧
      Q (.tuple #[.agg l30.toArray, .bool true]) w29)
    )
def A.ref12_Mask : AT := (.seq (.reg []) (.seq (.reg []) (.seq (.seq (.reg [.run, .run, .run, .run, .pure 2, .run, .run, .run, .pure 5]) (.cond (.seq (.reg []) .leaf) .leaf)) (.seq (.reg []) (.seq (.seq (.reg []) (.blk (.loop [(8, (.int .i64))] [1, 2, 4, 6, 7] (.seq (.seq (.reg []) (.cond .leaf .leaf)) (.seq (.jk [] [1, 2, 4, 6, 7, 8] (.blk (.seq (.reg []) (.cond (.reg []) .leaf)))) (.reg [])))))) (.seq (.reg []) .leaf))))))
theorem W.ref12_Mask_eq (a : Array Value) (bits : Int) (w : World) (Q : Value → World → Prop) : W.ref12_Mask a bits w Q = DF Tryd.prog tk A.ref12_Mask Tryd.f33 [.agg a, .int .i64 bits] w Q := by kernel_rfl
theorem W.ref12_Mask_ok (a : Array Value) (bits : Int) (w : World) (Q : Value → World → Prop) (h : W.ref12_Mask a bits w Q) : Calls Tryd.prog F.ref12_Mask #[.agg a, .int .i64 bits] w fun e w1 => ∃ v, e = .returned v ∧ Q v w1 :=
  calls_of_DF hmix Tryd.func33 (by kernel_rfl) (Eq.mp (W.ref12_Mask_eq a bits w Q) h)

/-- stanchion/stanchionref12.Parse -/
def W.ref12_Parse (s : ByteArray) (w : World) (Q : Value → World → Prop) : Prop :=
  Nx (
    w.alloc (
      .cells #[.bool false, .int .u8 0, .int .u8 0, .int .u8 0, .int .u8 0, .int .u8 0, .int .u8 0, .int .u8 0, .int .u8 0, .int .u8 0, .int .u8 0, .int .u8 0, .int .u8 0, .int .u8 0, .int .u8 0, .int .u8 0, .int .u8 0] Ty.api_Addr)
    )
  fun w1 => ∃ c2 : Array Value, Sem.run Tryd.prog (Instr.build Ty.api_Addr #[]) w1 = .ok (.agg c2) w1 ∧
  Nx (
    w1.alloc (
      .cells #[.bool false, .int .u8 0, .int .u8 0, .int .u8 0, .int .u8 0, .int .u8 0, .int .u8 0, .int .u8 0, .int .u8 0, .int .u8 0, .int .u8 0, .int .u8 0, .int .u8 0, .int .u8 0, .int .u8 0, .int .u8 0, .int .u8 0] Ty.api_Addr)
    )
  fun w3 => StoreOk w3 ⟨w1.heap.size, 0, none⟩ (Array.toList c2) ∧ Array.size c2 = 17 ∧
  Nx (setCells w3 ⟨w1.heap.size, 0, none⟩ 0 (Array.toList c2)) fun w4 => ∃ (I5 : Int → Int → World → Prop) (μ6 : Int → Int → World → Nat), I5 10 0 w4 ∧
  ∀ (n7 : Int) (n8 : Int) (w9 : World), I5 n7 n8 w9 → (
    (decide ((n8 : Int) < ((ByteArray.size s : Nat) : Int))) = true → Jn (
      fun k10 : Int → World → Prop => (0 : Int) ≤ n8 ∧ ∃ b11 : UInt8, byteAt s (Int.toNat n8) = some b11 ∧
      (
        ((((b11.toNat : Nat) : Int) : Int) == 58) = true → (∃ u : Value, w9.cell? ⟨w1.heap.size, 0, none⟩ = some u) ∧
        w9.frozen? ⟨w1.heap.size, 0, none⟩ = false ∧ Nx (w9.setCell ⟨w1.heap.size, 0, none⟩ (.bool true)) fun w12 =>
        k10 16 w12)
      ∧ (((((b11.toNat : Nat) : Int) : Int) == 58) = false → k10 n7 w9))
    (
      fun (n13 : Int) (w14 : World) => I5 n13 (IntKind.wrap .i64 (n8 + 1)) w14 ∧
      μ6 n13 (IntKind.wrap .i64 (n8 + 1)) w14 < μ6 n7 n8 w9)
    )
  ∧ (
    (decide ((n8 : Int) < ((ByteArray.size s : Nat) : Int))) = false → ∃ (I15 : Int → Int → Int → World → Prop) (μ16 : Int → Int → Int → World → Nat), I15 0 0 0 w9 ∧
    ∀ (n17 : Int) (n18 : Int) (n19 : Int) (w20 : World), I15 n17 n18 n19 w20 →
    (
      (decide ((n19 : Int) ≤ ((ByteArray.size s : Nat) : Int))) = true → Jn (
        fun k21 : Int → Int → World → Prop => Jn (
          fun k22 : Bool → World → Prop => (((n19 : Int) == ((ByteArray.size s : Nat) : Int)) = true → k22 true w20) ∧
          (
            ((n19 : Int) == ((ByteArray.size s : Nat) : Int)) = false → (0 : Int) ≤ n19 ∧
            ∃ b23 : UInt8, byteAt s (Int.toNat n19) = some b23 ∧ k22 ((((b23.toNat : Nat) : Int) : Int) == 58) w20)
          )
        (
          fun (b24 : Bool) (w25 : World) => Jn (
            fun k26 : Bool → World → Prop => (b24 = true → k26 true w25) ∧ (
              b24 = false → (0 : Int) ≤ n19 ∧ ∃ b27 : UInt8, byteAt s (Int.toNat n19) = some b27 ∧
              k26 ((((b27.toNat : Nat) : Int) : Int) == 46) w25)
            )
          (
            fun (b28 : Bool) (w29 : World) => (
              b28 = true → Jn (
                fun k30 : World → Prop => ∃ b31 : Bool, w29.cell? ⟨w1.heap.size, 0, none⟩ = some (.bool b31) ∧
                (
                  (b31 && (decide ((n18 : Int) < 8))) = true → (256 : Int) ≠ 0 ∧ (256 : Int) ≠ 0 ∧
                  ((0 : Int) ≤ (IntKind.wrap .i64 (2 * n18)) ∧ (IntKind.wrap .i64 (2 * n18)) < ((16 : Nat) : Int)) ∧
                  (
                    ∃ u : Value, w29.cell? (Addr.add (Addr.add ⟨w1.heap.size, 0, none⟩ 1) (Int.toNat (IntKind.wrap .i64 (2 * n18)) * 1)) = some u)
                  ∧ w29.frozen? (Addr.add (Addr.add ⟨w1.heap.size, 0, none⟩ 1) (Int.toNat (IntKind.wrap .i64 (2 * n18)) * 1)) = false ∧
                  Nx (
                    w29.setCell (Addr.add (Addr.add ⟨w1.heap.size, 0, none⟩ 1) (Int.toNat (IntKind.wrap .i64 (2 * n18)) * 1)) (.int .u8 (IntKind.wrap .u8 (IntKind.wrap .i64 (Int.tdiv n17 256)))))
                  fun w32 => (
                    (0 : Int) ≤ (IntKind.wrap .i64 ((IntKind.wrap .i64 (2 * n18)) + 1)) ∧ (IntKind.wrap .i64 ((IntKind.wrap .i64 (2 * n18)) + 1)) < ((16 : Nat) : Int))
                  ∧ (
                    ∃ u : Value, w32.cell? (
                      Addr.add (Addr.add ⟨w1.heap.size, 0, none⟩ 1) (Int.toNat (IntKind.wrap .i64 ((IntKind.wrap .i64 (2 * n18)) + 1)) * 1))
                    = some u)
                  ∧ w32.frozen? (
                    Addr.add (Addr.add ⟨w1.heap.size, 0, none⟩ 1) (Int.toNat (IntKind.wrap .i64 ((IntKind.wrap .i64 (2 * n18)) + 1)) * 1))
                  = false ∧ Nx (
                    w32.setCell (
                      Addr.add (Addr.add ⟨w1.heap.size, 0, none⟩ 1) (Int.toNat (IntKind.wrap .i64 ((IntKind.wrap .i64 (2 * n18)) + 1)) * 1))
                    (.int .u8 (IntKind.wrap .u8 (Int.tmod n17 256))))
                  fun w33 => k30 w33)
                ∧ ((b31 && (decide ((n18 : Int) < 8))) = false → k30 w29))
              (
                fun  (w34 : World) => Jn (
                  fun k35 : World → Prop => ∃ b36 : Bool, w34.cell? ⟨w1.heap.size, 0, none⟩ = some (.bool b36) ∧
                  (
                    ((!b36) && (decide ((n18 : Int) < 4))) = true → (256 : Int) ≠ 0 ∧ ((0 : Int) ≤ (IntKind.wrap .i64 (12 + n18)) ∧ (IntKind.wrap .i64 (12 + n18)) < ((16 : Nat) : Int)) ∧
                    (
                      ∃ u : Value, w34.cell? (Addr.add (Addr.add ⟨w1.heap.size, 0, none⟩ 1) (Int.toNat (IntKind.wrap .i64 (12 + n18)) * 1)) = some u)
                    ∧ w34.frozen? (Addr.add (Addr.add ⟨w1.heap.size, 0, none⟩ 1) (Int.toNat (IntKind.wrap .i64 (12 + n18)) * 1)) = false ∧
                    Nx (
                      w34.setCell (Addr.add (Addr.add ⟨w1.heap.size, 0, none⟩ 1) (Int.toNat (IntKind.wrap .i64 (12 + n18)) * 1)) (.int .u8 (IntKind.wrap .u8 (Int.tmod n17 256))))
                    fun w37 => k35 w37)
                  ∧ (((!b36) && (decide ((n18 : Int) < 4))) = false → k35 w34))
                (fun  (w38 : World) => k21 0 (IntKind.wrap .i64 (n18 + 1)) w38))
              )
            ∧ (
              b28 = false → (0 : Int) ≤ n19 ∧ ∃ b39 : UInt8, byteAt s (Int.toNat n19) = some b39 ∧
              Calls Tryd.prog F.ref12_digit #[.int .u8 ((b39.toNat : Nat) : Int)] w29 fun e41 w40 =>
              ∃ n42 : Int, e41 = .returned (.int .i64 n42) ∧ (
                ((decide ((n42 : Int) ≥ 0)) && (decide ((n42 : Int) < n7))) = true → (65536 : Int) ≠ 0 ∧
                k21 (Int.tmod (IntKind.wrap .i64 ((IntKind.wrap .i64 (n17 * n7)) + n42)) 65536) n18 w40)
              ∧ (((decide ((n42 : Int) ≥ 0)) && (decide ((n42 : Int) < n7))) = false → k21 n17 n18 w40))
            )
          )
        )
      (
        fun (n43 : Int) (n44 : Int) (w45 : World) => I15 n43 n44 (IntKind.wrap .i64 (n19 + 1)) w45 ∧
        μ16 n43 n44 (IntKind.wrap .i64 (n19 + 1)) w45 < μ16 n17 n18 n19 w20)
      )
    ∧ (
      (decide ((n19 : Int) ≤ ((ByteArray.size s : Nat) : Int))) = false → ∃ l46 : List Value, rdCells w20 ⟨w1.heap.size, 0, none⟩ 0 17 = some l46 ∧
      Calls Tryd.prog F.ref12_Show #[.agg l46.toArray] w20 fun e48 w47 => ∃ s49 : ByteArray, e48 = .returned (.string s49) ∧
      (
        (!(ByteArray.toList s49 == ByteArray.toList s)) = true → ∃ c50 : Array Value, Sem.run Tryd.prog (Instr.build Ty.api_Addr #[]) w47 = .ok (.agg c50) w47 ∧
        StoreOk w47 ⟨w.heap.size, 0, none⟩ (Array.toList c50) ∧ Array.size c50 = 17 ∧
        Nx (setCells w47 ⟨w.heap.size, 0, none⟩ 0 (Array.toList c50)) fun w51 => ∃ l52 : List Value, rdCells w51 ⟨w.heap.size, 0, none⟩ 0 17 = some l52 ∧
        Q (.tuple #[.agg l52.toArray, .bool false]) w51)
      ∧ (
        (!(ByteArray.toList s49 == ByteArray.toList s)) = false → ∃ l53 : List Value, rdCells w47 ⟨w1.heap.size, 0, none⟩ 0 17 = some l53 ∧
        StoreOk w47 ⟨w.heap.size, 0, none⟩ (Array.toList l53.toArray) ∧ Array.size l53.toArray = 17 ∧
        Nx (setCells w47 ⟨w.heap.size, 0, none⟩ 0 (Array.toList l53.toArray)) fun w54 =>
        ∃ l55 : List Value, rdCells w54 ⟨w.heap.size, 0, none⟩ 0 17 = some l55 ∧ Q (.tuple #[.agg l55.toArray, .bool true]) w54)
      )
    )
def A.ref12_Parse : AT := (.seq (.reg []) (.seq (.reg []) (.seq (.seq (.reg []) (.blk (.loop [(7, (.int .i64)), (8, (.int .i64))] [0, 2, 4, 5, 6] (.seq (.seq (.reg []) (.cond .leaf .leaf)) (.seq (.jk [(7, (.int .i64))] [0, 2, 4, 5, 6, 8] (.blk (.seq (.reg []) (.cond (.reg []) .leaf)))) (.reg [])))))) (.seq (.seq (.reg []) (.blk (.loop [(5, (.int .i64)), (6, (.int .i64)), (9, (.int .i64))] [0, 2, 4, 7] (.seq (.seq (.reg []) (.cond .leaf .leaf)) (.seq (.jk [(5, (.int .i64)), (6, (.int .i64))] [0, 2, 4, 7, 9] (.blk (.seq (.seq (.reg [.run, .run, .run, .run, .run, .split 4, .run, .run, .run, .run, .run, .split 4]) (.cond (.seq (.jk [] [0, 2, 4, 5, 6, 7, 9] (.seq (.reg [.run, .run, .run, .pure 2]) (.cond (.reg []) .leaf))) (.seq (.jk [] [0, 2, 4, 6, 7, 9] (.seq (.reg [.run, .run, .run, .run, .pure 2]) (.cond (.reg []) .leaf))) (.seq (.reg []) .leaf))) .leaf)) (.seq (.reg []) (.seq (.reg [.run, .run, .run, .pure 3]) (.cond (.reg []) .leaf)))))) (.reg [])))))) (.seq (.seq (.reg []) (.cond (.seq (.reg []) .leaf) .leaf)) (.seq (.reg []) .leaf))))))
theorem W.ref12_Parse_eq (s : ByteArray) (w : World) (Q : Value → World → Prop) : W.ref12_Parse s w Q = DF Tryd.prog tk A.ref12_Parse Tryd.f37 [.string s] w Q := by kernel_rfl
theorem W.ref12_Parse_ok (s : ByteArray) (w : World) (Q : Value → World → Prop) (h : W.ref12_Parse s w Q) : Calls Tryd.prog F.ref12_Parse #[.string s] w fun e w1 => ∃ v, e = .returned v ∧ Q v w1 :=
  calls_of_DF hmix Tryd.func37 (by kernel_rfl) (Eq.mp (W.ref12_Parse_eq s w Q) h)

/-- stanchion/stanchionref12.ParsePrefix -/
def W.ref12_ParsePrefix (s : ByteArray) (w : World) (Q : Value → World → Prop) : Prop :=
  Nx (
    w.alloc (
      .cells #[.bool false, .int .u8 0, .int .u8 0, .int .u8 0, .int .u8 0, .int .u8 0, .int .u8 0, .int .u8 0, .int .u8 0, .int .u8 0, .int .u8 0, .int .u8 0, .int .u8 0, .int .u8 0, .int .u8 0, .int .u8 0, .int .u8 0, .int .i64 0] Ty.api_Prefix)
    )
  fun w1 => ∃ (I2 : Int → Int → Int → World → Prop) (μ3 : Int → Int → Int → World → Nat), I2 (-1) 0 0 w1 ∧
  ∀ (n4 : Int) (n5 : Int) (n6 : Int) (w7 : World), I2 n4 n5 n6 w7 → (
    (decide ((n6 : Int) < ((ByteArray.size s : Nat) : Int))) = true → Jn (
      fun k8 : Int → Int → World → Prop => (
        (decide ((n4 : Int) ≥ 0)) = true → (0 : Int) ≤ n6 ∧ ∃ b9 : UInt8, byteAt s (Int.toNat n6) = some b9 ∧
        Calls Tryd.prog F.ref12_digit #[.int .u8 ((b9.toNat : Nat) : Int)] w7 fun e11 w10 =>
        ∃ n12 : Int, e11 = .returned (.int .i64 n12) ∧ (
          ((decide ((n12 : Int) ≥ 0)) && (decide ((n12 : Int) < 10))) = true → (1000 : Int) ≠ 0 ∧
          k8 n4 (Int.tmod (IntKind.wrap .i64 ((IntKind.wrap .i64 (n5 * 10)) + n12)) 1000) w10)
        ∧ (((decide ((n12 : Int) ≥ 0)) && (decide ((n12 : Int) < 10))) = false → k8 n4 n5 w10))
      ∧ (
        (decide ((n4 : Int) ≥ 0)) = false → (0 : Int) ≤ n6 ∧ ∃ b13 : UInt8, byteAt s (Int.toNat n6) = some b13 ∧
        (((((b13.toNat : Nat) : Int) : Int) == 47) = true → k8 n6 n5 w7) ∧ (((((b13.toNat : Nat) : Int) : Int) == 47) = false → k8 n4 n5 w7))
      )
    (
      fun (n14 : Int) (n15 : Int) (w16 : World) => I2 n14 n15 (IntKind.wrap .i64 (n6 + 1)) w16 ∧
      μ3 n14 n15 (IntKind.wrap .i64 (n6 + 1)) w16 < μ3 n4 n5 n6 w7)
    )
  ∧ (
    (decide ((n6 : Int) < ((ByteArray.size s : Nat) : Int))) = false → (
      (decide ((n4 : Int) < 0)) = true → ∃ c17 : Array Value, Sem.run Tryd.prog (Instr.build Ty.api_Prefix #[]) w7 = .ok (.agg c17) w7 ∧
      StoreOk w7 ⟨w.heap.size, 0, none⟩ (Array.toList c17) ∧ Array.size c17 = 18 ∧
      Nx (setCells w7 ⟨w.heap.size, 0, none⟩ 0 (Array.toList c17)) fun w18 => ∃ l19 : List Value, rdCells w18 ⟨w.heap.size, 0, none⟩ 0 18 = some l19 ∧
      Q (.tuple #[.agg l19.toArray, .bool false]) w18)
    ∧ (
      (decide ((n4 : Int) < 0)) = false → ((0 : Int) ≤ n4 ∧ n4 ≤ (((ByteArray.size s) : Nat) : Int)) ∧
      Calls Tryd.prog F.ref12_Parse #[.string (ByteArray.extract s 0 (Int.toNat n4))] w7 fun e21 w20 =>
      ∃ c22 : Array Value, ∃ b23 : Bool, e21 = .returned (.tuple #[.agg c22, .bool b23]) ∧
      Nx (
        w20.alloc (
          .cells #[.bool false, .int .u8 0, .int .u8 0, .int .u8 0, .int .u8 0, .int .u8 0, .int .u8 0, .int .u8 0, .int .u8 0, .int .u8 0, .int .u8 0, .int .u8 0, .int .u8 0, .int .u8 0, .int .u8 0, .int .u8 0, .int .u8 0] Ty.api_Addr)
        )
      fun w24 => StoreOk w24 ⟨w20.heap.size, 0, none⟩ (Array.toList c22) ∧ Array.size c22 = 17 ∧
      Nx (setCells w24 ⟨w20.heap.size, 0, none⟩ 0 (Array.toList c22)) fun w25 =>
      ∃ l26 : List Value, rdCells w25 ⟨w20.heap.size, 0, none⟩ 0 17 = some l26 ∧
      ∃ c27 : Array Value, Sem.run Tryd.prog (Instr.build Ty.api_Prefix #[(0, .agg l26.toArray), (1, .int .i64 n5)]) w25 = .ok (.agg c27) w25 ∧
      Nx (
        w25.alloc (
          .cells #[.bool false, .int .u8 0, .int .u8 0, .int .u8 0, .int .u8 0, .int .u8 0, .int .u8 0, .int .u8 0, .int .u8 0, .int .u8 0, .int .u8 0, .int .u8 0, .int .u8 0, .int .u8 0, .int .u8 0, .int .u8 0, .int .u8 0, .int .i64 0] Ty.api_Prefix)
        )
      fun w28 => StoreOk w28 ⟨w25.heap.size, 0, none⟩ (Array.toList c27) ∧ Array.size c27 = 18 ∧
      Nx (setCells w28 ⟨w25.heap.size, 0, none⟩ 0 (Array.toList c27)) fun w29 =>
      Jn (
        fun k30 : Bool → World → Prop => ((!b23) = true → k30 true w29) ∧ (
          (!b23) = false → ∃ l31 : List Value, rdCells w29 ⟨w25.heap.size, 0, none⟩ 0 18 = some l31 ∧
          Calls Tryd.prog F.ref12_ShowPrefix #[.agg l31.toArray] w29 fun e33 w32 => ∃ s34 : ByteArray, e33 = .returned (.string s34) ∧
          k30 (!(ByteArray.toList s34 == ByteArray.toList s)) w32)
        )
      (
        fun (b35 : Bool) (w36 : World) => (
          b35 = true → ∃ c37 : Array Value, Sem.run Tryd.prog (Instr.build Ty.api_Prefix #[]) w36 = .ok (.agg c37) w36 ∧
          StoreOk w36 ⟨w.heap.size, 0, none⟩ (Array.toList c37) ∧ Array.size c37 = 18 ∧
          Nx (setCells w36 ⟨w.heap.size, 0, none⟩ 0 (Array.toList c37)) fun w38 => ∃ l39 : List Value, rdCells w38 ⟨w.heap.size, 0, none⟩ 0 18 = some l39 ∧
          Q (.tuple #[.agg l39.toArray, .bool false]) w38)
        ∧ (
          b35 = false → ∃ l40 : List Value, rdCells w36 ⟨w25.heap.size, 0, none⟩ 0 18 = some l40 ∧
          StoreOk w36 ⟨w.heap.size, 0, none⟩ (Array.toList l40.toArray) ∧ Array.size l40.toArray = 18 ∧
          Nx (setCells w36 ⟨w.heap.size, 0, none⟩ 0 (Array.toList l40.toArray)) fun w41 =>
          ∃ l42 : List Value, rdCells w41 ⟨w.heap.size, 0, none⟩ 0 18 = some l42 ∧ Q (.tuple #[.agg l42.toArray, .bool true]) w41)
        )
      )
    )
def A.ref12_ParsePrefix : AT := (.seq (.reg []) (.seq (.reg []) (.seq (.seq (.reg []) (.blk (.loop [(4, (.int .i64)), (5, (.int .i64)), (6, (.int .i64))] [0, 2] (.seq (.seq (.reg []) (.cond .leaf .leaf)) (.seq (.jk [(4, (.int .i64)), (5, (.int .i64))] [0, 2, 6] (.blk (.seq (.reg []) (.cond (.seq (.reg []) (.seq (.reg [.run, .run, .run, .pure 2]) (.cond (.reg []) .leaf))) (.seq (.reg []) (.cond (.reg []) .leaf)))))) (.reg [])))))) (.seq (.seq (.reg []) (.cond (.seq (.reg []) .leaf) .leaf)) (.seq (.reg []) (.seq (.reg []) (.seq (.seq (.reg [.run, .run, .run, .split 4]) (.cond (.seq (.reg []) .leaf) .leaf)) (.seq (.reg []) .leaf))))))))
theorem W.ref12_ParsePrefix_eq (s : ByteArray) (w : World) (Q : Value → World → Prop) : W.ref12_ParsePrefix s w Q = DF Tryd.prog tk A.ref12_ParsePrefix Tryd.f39 [.string s] w Q := by kernel_rfl
theorem W.ref12_ParsePrefix_ok (s : ByteArray) (w : World) (Q : Value → World → Prop) (h : W.ref12_ParsePrefix s w Q) : Calls Tryd.prog F.ref12_ParsePrefix #[.string s] w fun e w1 => ∃ v, e = .returned v ∧ Q v w1 :=
  calls_of_DF hmix Tryd.func39 (by kernel_rfl) (Eq.mp (W.ref12_ParsePrefix_eq s w Q) h)

/-- stanchion/stanchionref12.Show -/
def W.ref12_Show (a : Array Value) (w : World) (Q : Value → World → Prop) : Prop :=
  Nx (w.alloc (.cells a Ty.api_Addr)) fun w1 => ∃ l2 : List Value, rdCells w1 ⟨w.heap.size, 0, none⟩ 0 17 = some l2 ∧
  Calls Tryd.prog F.ref12_Good #[.agg l2.toArray] w1 fun e4 w3 => ∃ b5 : Bool, e4 = .returned (.bool b5) ∧
  ((!b5) = true → Q (.string (ByteArray.mk #[])) w3) ∧ (
    (!b5) = false → ∃ (I6 : ByteArray → Int → World → Prop) (μ7 : ByteArray → Int → World → Nat), I6 (ByteArray.mk #[]) 12 w3 ∧
    ∀ (s8 : ByteArray) (n9 : Int) (w10 : World), I6 s8 n9 w10 → Jn (
      fun k11 : Bool → World → Prop => (
        (decide ((n9 : Int) < 16)) = true → ∃ b12 : Bool, w10.cell? ⟨w.heap.size, 0, none⟩ = some (.bool b12) ∧
        k11 (!b12) w10)
      ∧ ((decide ((n9 : Int) < 16)) = false → k11 false w10))
    (
      fun (b13 : Bool) (w14 : World) => (
        b13 = true → Jn (
          fun k15 : ByteArray → World → Prop => ((0 : Int) ≤ n9 ∧ n9 < ((16 : Nat) : Int)) ∧
          ∃ n16 : Int, w14.cell? (Addr.add (Addr.add ⟨w.heap.size, 0, none⟩ 1) (Int.toNat n9 * 1)) = some (.int .u8 n16) ∧
          Calls Tryd.prog F.ref12_Num #[.int .i64 (IntKind.wrap .i64 n16), .int .i64 10] w14 fun e18 w17 =>
          ∃ s19 : ByteArray, e18 = .returned (.string s19) ∧ ((ByteArray.size s8 + ByteArray.size s19 : Nat) : Int) ≤ 9223372036854775807 ∧
          (
            (decide ((n9 : Int) < 15)) = true → ((ByteArray.size (s8 ++ s19) + ByteArray.size (ByteArray.mk #[46]) : Nat) : Int) ≤ 9223372036854775807 ∧
            k15 ((s8 ++ s19) ++ (ByteArray.mk #[46])) w17)
          ∧ ((decide ((n9 : Int) < 15)) = false → k15 (s8 ++ s19) w17))
        (
          fun (s20 : ByteArray) (w21 : World) => I6 s20 (IntKind.wrap .i64 (n9 + 1)) w21 ∧
          μ7 s20 (IntKind.wrap .i64 (n9 + 1)) w21 < μ7 s8 n9 w10)
        )
      ∧ (
        b13 = false → ∃ (I22 : ByteArray → Int → World → Prop) (μ23 : ByteArray → Int → World → Nat), I22 s8 0 w14 ∧
        ∀ (s24 : ByteArray) (n25 : Int) (w26 : World), I22 s24 n25 w26 → Jn (
          fun k27 : Bool → World → Prop => (
            (decide ((n25 : Int) < 8)) = true → ∃ b28 : Bool, w26.cell? ⟨w.heap.size, 0, none⟩ = some (.bool b28) ∧
            k27 b28 w26)
          ∧ ((decide ((n25 : Int) < 8)) = false → k27 false w26))
        (
          fun (b29 : Bool) (w30 : World) => (
            b29 = true → Jn (
              fun k31 : ByteArray → World → Prop => Nx (w30.drew) fun w32 => ∃ W33 : Nat →
              Prop, ((0 : Int) ≤ (IntKind.wrap .i64 (2 * n25)) ∧ (IntKind.wrap .i64 (2 * n25)) < ((16 : Nat) : Int)) ∧
              ¬ W33 (Addr.add (Addr.add ⟨w.heap.size, 0, none⟩ 1) (Int.toNat (IntKind.wrap .i64 (2 * n25)) * 1)).block ∧
              ∃ n34 : Int, w32.cell? (Addr.add (Addr.add ⟨w.heap.size, 0, none⟩ 1) (Int.toNat (IntKind.wrap .i64 (2 * n25)) * 1)) = some (.int .u8 n34) ∧
              (
                (0 : Int) ≤ (IntKind.wrap .i64 ((IntKind.wrap .i64 (2 * n25)) + 1)) ∧ (IntKind.wrap .i64 ((IntKind.wrap .i64 (2 * n25)) + 1)) < ((16 : Nat) : Int))
              ∧ ¬ W33 (
              Addr.add (Addr.add ⟨w.heap.size, 0, none⟩ 1) (Int.toNat (IntKind.wrap .i64 ((IntKind.wrap .i64 (2 * n25)) + 1)) * 1)).block ∧
              ∃ n35 : Int, w32.cell? (
                Addr.add (Addr.add ⟨w.heap.size, 0, none⟩ 1) (Int.toNat (IntKind.wrap .i64 ((IntKind.wrap .i64 (2 * n25)) + 1)) * 1))
              = some (.int .u8 n35) ∧ Calls Tryd.prog F.ref12_Num #[.int .i64 (IntKind.wrap .i64 ((IntKind.wrap .i64 (256 * (IntKind.wrap .i64 n34))) + (IntKind.wrap .i64 n35))), .int .i64 16] w32 fun e37 w36 =>
              ∃ s38 : ByteArray, e37 = .returned (.string s38) ∧ Chg W33 w32 w36 ∧ ((ByteArray.size s24 + ByteArray.size s38 : Nat) : Int) ≤ 9223372036854775807 ∧
              (
                (decide ((n25 : Int) < 7)) = true → ((ByteArray.size (s24 ++ s38) + ByteArray.size (ByteArray.mk #[58]) : Nat) : Int) ≤ 9223372036854775807 ∧
                k31 ((s24 ++ s38) ++ (ByteArray.mk #[58])) w36)
              ∧ ((decide ((n25 : Int) < 7)) = false → k31 (s24 ++ s38) w36))
            (
              fun (s39 : ByteArray) (w40 : World) => I22 s39 (IntKind.wrap .i64 (n25 + 1)) w40 ∧
              μ23 s39 (IntKind.wrap .i64 (n25 + 1)) w40 < μ23 s24 n25 w26)
            )
          ∧ (b29 = false → Q (.string s24) w30))
        )
      )
    )
def A.ref12_Show : AT := (.seq (.reg []) (.seq (.reg []) (.seq (.seq (.reg []) (.cond (.seq (.reg []) .leaf) .leaf)) (.seq (.seq (.reg []) (.blk (.loop [(3, .str), (4, (.int .i64))] [1] (.seq (.seq (.reg [.run, .run, .run, .split 3]) (.cond .leaf .leaf)) (.seq (.jk [(3, .str)] [1, 4] (.blk (.seq (.reg []) (.seq (.reg []) (.cond (.reg []) .leaf))))) (.reg [])))))) (.seq (.seq (.reg []) (.blk (.loop [(3, .str), (5, (.int .i64))] [1] (.seq (.seq (.reg [.run, .run, .run, .split 2]) (.cond .leaf .leaf)) (.seq (.jk [(3, .str)] [1, 5] (.blk (.seq (.drw 17 true ⟨[0, 0, 2, 0, 12, 16, 32, 64, 0, 256, 512, 0, 3072, 4096, 8192, 16512, 32768, 65537, 262143], [0, 0, 2, 0, 12, 16, 32, 64, 0, 256, 512, 0, 3072, 4096, 8192, 16512, 32768, 65537, 131073]⟩ [549755813888, 1099511627776, 2199023255552, 4398046511104, 8796093022208, 17592186044416, 35184372088832, 70368744177664, 140737488355328, 281474976710656, 562949953421312, 1125899906842624, 2251799813685248, 4503599627370496, 9007199254740992, 18014398509481984, 36028797018963968, 72057594037927936, 8] [8, 32, 1099511627776, 2, 6597069766656, 8796093022208, 17592186044416, 35184372088832, 32, 140737488355328, 281474976710656, 2, 1688849860263936, 2251799813685248, 4503599627370496, 9077567998918656, 18014398509481984, 36029346774777856, 72057594037927936] (.take 0 (.take 1 (.take 2 (.take 3 (.take 4 (.take 5 (.take 6 (.take 7 (.take 8 (.take 9 (.take 10 (.take 11 (.take 12 (.take 13 (.take 14 (.take 15 (.eff 16 (.tail [.run, .run]))))))))))))))))))) (.seq (.reg []) (.cond (.reg []) .leaf))))) (.reg [])))))) (.seq (.reg []) .leaf))))))
theorem W.ref12_Show_eq (a : Array Value) (w : World) (Q : Value → World → Prop) : W.ref12_Show a w Q = DF Tryd.prog tk A.ref12_Show Tryd.f42 [.agg a] w Q := by kernel_rfl
theorem W.ref12_Show_ok (a : Array Value) (w : World) (Q : Value → World → Prop) (h : W.ref12_Show a w Q) : Calls Tryd.prog F.ref12_Show #[.agg a] w fun e w1 => ∃ v, e = .returned v ∧ Q v w1 :=
  calls_of_DF hmix Tryd.func42 (by kernel_rfl) (Eq.mp (W.ref12_Show_eq a w Q) h)

/-- stanchion/stanchionref12.ShowPrefix -/
def W.ref12_ShowPrefix (p : Array Value) (w : World) (Q : Value → World → Prop) : Prop :=
  Nx (w.alloc (.cells p Ty.api_Prefix)) fun w1 => ∃ l2 : List Value, rdCells w1 ⟨w.heap.size, 0, none⟩ 0 17 = some l2 ∧
  ∃ n3 : Int, w1.cell? (Addr.add ⟨w.heap.size, 0, none⟩ 17) = some (.int .i64 n3) ∧
  Calls Tryd.prog F.ref12_Mask #[.agg l2.toArray, .int .i64 n3] w1 fun e5 w4 =>
  ∃ c6 : Array Value, ∃ b7 : Bool, e5 = .returned (.tuple #[.agg c6, .bool b7]) ∧
  Nx (
    w4.alloc (
      .cells #[.bool false, .int .u8 0, .int .u8 0, .int .u8 0, .int .u8 0, .int .u8 0, .int .u8 0, .int .u8 0, .int .u8 0, .int .u8 0, .int .u8 0, .int .u8 0, .int .u8 0, .int .u8 0, .int .u8 0, .int .u8 0, .int .u8 0, .int .i64 0] Ty.api_Prefix)
    )
  fun w8 => StoreOk w8 ⟨w4.heap.size, 0, none⟩ (Array.toList c6) ∧ Array.size c6 = 18 ∧
  Nx (setCells w8 ⟨w4.heap.size, 0, none⟩ 0 (Array.toList c6)) fun w9 => Jn (
    fun k10 : Bool → World → Prop => ((!b7) = true → k10 true w9) ∧ (
      (!b7) = false → ∃ l11 : List Value, rdCells w9 ⟨w4.heap.size, 0, none⟩ 0 18 = some l11 ∧
      ∃ l12 : List Value, rdCells w9 ⟨w.heap.size, 0, none⟩ 0 18 = some l12 ∧ ∃ b13 : Bool, AggEq Tryd.prog Ty.api_Prefix l11.toArray l12.toArray b13 ∧
      k10 (!b13) w9)
    )
  (
    fun (b14 : Bool) (w15 : World) => (b14 = true → Q (.string (ByteArray.mk #[])) w15) ∧
    (
      b14 = false → Nx (w15.drew) fun w16 => ∃ W17 : Nat → Prop, ¬ W17 (⟨w.heap.size, 0, none⟩ : Addr).block ∧
      ∃ l18 : List Value, rdCells w16 ⟨w.heap.size, 0, none⟩ 0 17 = some l18 ∧ ¬ W17 (Addr.add ⟨w.heap.size, 0, none⟩ 17).block ∧
      ∃ n19 : Int, w16.cell? (Addr.add ⟨w.heap.size, 0, none⟩ 17) = some (.int .i64 n19) ∧
      Calls Tryd.prog F.ref12_Show #[.agg l18.toArray] w16 fun e21 w20 => ∃ s22 : ByteArray, e21 = .returned (.string s22) ∧
      Chg W17 w16 w20 ∧ ((ByteArray.size s22 + ByteArray.size (ByteArray.mk #[47]) : Nat) : Int) ≤ 9223372036854775807 ∧
      Calls Tryd.prog F.ref12_Num #[.int .i64 n19, .int .i64 10] w20 fun e24 w23 =>
      ∃ s25 : ByteArray, e24 = .returned (.string s25) ∧ Chg W17 w20 w23 ∧ ((ByteArray.size (s22 ++ (ByteArray.mk #[47])) + ByteArray.size s25 : Nat) : Int) ≤ 9223372036854775807 ∧
      Q (.string ((s22 ++ (ByteArray.mk #[47])) ++ s25)) w23)
    )
def A.ref12_ShowPrefix : AT := (.seq (.reg []) (.seq (.reg []) (.seq (.seq (.reg [.run, .run, .run, .split 3]) (.cond (.seq (.reg []) .leaf) .leaf)) (.seq (.drw 7 true ⟨[0, 1, 2, 4, 0, 16, 36, 72, 255], [0, 1, 2, 4, 0, 16, 32, 72, 128]⟩ [1048576, 2097152, 4194304, 8388608, 16777216, 33554432, 67108864, 134217728, 4] [2, 1048576, 2097152, 4194304, 2, 16777216, 33554432, 75497472, 134217728] (.take 0 (.take 1 (.take 4 (.take 5 (.eff 2 (.take 3 (.eff 6 (.tail [.run, .run]))))))))) .leaf))))
theorem W.ref12_ShowPrefix_eq (p : Array Value) (w : World) (Q : Value → World → Prop) : W.ref12_ShowPrefix p w Q = DF Tryd.prog tk A.ref12_ShowPrefix Tryd.f43 [.agg p] w Q := by kernel_rfl
theorem W.ref12_ShowPrefix_ok (p : Array Value) (w : World) (Q : Value → World → Prop) (h : W.ref12_ShowPrefix p w Q) : Calls Tryd.prog F.ref12_ShowPrefix #[.agg p] w fun e w1 => ∃ v, e = .returned v ∧ Q v w1 :=
  calls_of_DF hmix Tryd.func43 (by kernel_rfl) (Eq.mp (W.ref12_ShowPrefix_eq p w Q) h)

/-- stanchion/stanchionref32.in -/
def W.ref32_in (a : Array Value) (p : Array Value) (w : World) (Q : Value → World → Prop) : Prop :=
  Nx (w.alloc (.cells a Ty.api_Addr)) fun w1 => Nx (w1.alloc (.cells p Ty.api_Prefix)) fun w2 =>
  ∃ l3 : List Value, rdCells w2 ⟨w.heap.size, 0, none⟩ 0 17 = some l3 ∧ ∃ n4 : Int, w2.cell? (Addr.add ⟨w1.heap.size, 0, none⟩ 17) = some (.int .i64 n4) ∧
  Calls Tryd.prog F.ref12_Mask #[.agg l3.toArray, .int .i64 n4] w2 fun e6 w5 =>
  ∃ c7 : Array Value, ∃ b8 : Bool, e6 = .returned (.tuple #[.agg c7, .bool b8]) ∧
  Nx (
    w5.alloc (
      .cells #[.bool false, .int .u8 0, .int .u8 0, .int .u8 0, .int .u8 0, .int .u8 0, .int .u8 0, .int .u8 0, .int .u8 0, .int .u8 0, .int .u8 0, .int .u8 0, .int .u8 0, .int .u8 0, .int .u8 0, .int .u8 0, .int .u8 0, .int .i64 0] Ty.api_Prefix)
    )
  fun w9 => StoreOk w9 ⟨w5.heap.size, 0, none⟩ (Array.toList c7) ∧ Array.size c7 = 18 ∧
  Nx (setCells w9 ⟨w5.heap.size, 0, none⟩ 0 (Array.toList c7)) fun w10 => Jn (
    fun k11 : Bool → World → Prop => (
      b8 = true → ∃ l12 : List Value, rdCells w10 ⟨w5.heap.size, 0, none⟩ 0 18 = some l12 ∧
      ∃ l13 : List Value, rdCells w10 ⟨w1.heap.size, 0, none⟩ 0 18 = some l13 ∧
      ∃ b14 : Bool, AggEq Tryd.prog Ty.api_Prefix l12.toArray l13.toArray b14 ∧
      k11 b14 w10)
    ∧ (b8 = false → k11 false w10))
  (fun (b15 : Bool) (w16 : World) => Q (.bool b15) w16)
def A.ref32_in : AT := (.seq (.reg []) (.seq (.reg []) (.seq (.reg [.run, .run, .split 3]) .leaf)))
theorem W.ref32_in_eq (a : Array Value) (p : Array Value) (w : World) (Q : Value → World → Prop) : W.ref32_in a p w Q = DF Tryd.prog tk A.ref32_in Tryd.f47 [.agg a, .agg p] w Q := by kernel_rfl
theorem W.ref32_in_ok (a : Array Value) (p : Array Value) (w : World) (Q : Value → World → Prop) (h : W.ref32_in a p w Q) : Calls Tryd.prog F.ref32_in #[.agg a, .agg p] w fun e w1 => ∃ v, e = .returned v ∧ Q v w1 :=
  calls_of_DF hmix Tryd.func47 (by kernel_rfl) (Eq.mp (W.ref32_in_eq a p w Q) h)

/-- stanchion/stanchionref31.Good -/
def W.ref31_Good (p : Array Value) (w : World) (Q : Value → World → Prop) : Prop :=
  Nx (w.alloc (.cells p Ty.api_Prefix)) fun w1 => ∃ l2 : List Value, rdCells w1 ⟨w.heap.size, 0, none⟩ 0 17 = some l2 ∧
  ∃ n3 : Int, w1.cell? (Addr.add ⟨w.heap.size, 0, none⟩ 17) = some (.int .i64 n3) ∧
  Calls Tryd.prog F.ref12_Mask #[.agg l2.toArray, .int .i64 n3] w1 fun e5 w4 =>
  ∃ c6 : Array Value, ∃ b7 : Bool, e5 = .returned (.tuple #[.agg c6, .bool b7]) ∧
  Nx (
    w4.alloc (
      .cells #[.bool false, .int .u8 0, .int .u8 0, .int .u8 0, .int .u8 0, .int .u8 0, .int .u8 0, .int .u8 0, .int .u8 0, .int .u8 0, .int .u8 0, .int .u8 0, .int .u8 0, .int .u8 0, .int .u8 0, .int .u8 0, .int .u8 0, .int .i64 0] Ty.api_Prefix)
    )
  fun w8 => StoreOk w8 ⟨w4.heap.size, 0, none⟩ (Array.toList c6) ∧ Array.size c6 = 18 ∧
  Nx (setCells w8 ⟨w4.heap.size, 0, none⟩ 0 (Array.toList c6)) fun w9 => Jn (
    fun k10 : Bool → World → Prop => (
      b7 = true → ∃ l11 : List Value, rdCells w9 ⟨w4.heap.size, 0, none⟩ 0 18 = some l11 ∧
      ∃ l12 : List Value, rdCells w9 ⟨w.heap.size, 0, none⟩ 0 18 = some l12 ∧ ∃ b13 : Bool, AggEq Tryd.prog Ty.api_Prefix l11.toArray l12.toArray b13 ∧
      k10 b13 w9)
    ∧ (b7 = false → k10 false w9))
  (fun (b14 : Bool) (w15 : World) => Q (.bool b14) w15)
def A.ref31_Good : AT := (.seq (.reg []) (.seq (.reg []) (.seq (.reg [.run, .run, .split 3]) .leaf)))
theorem W.ref31_Good_eq (p : Array Value) (w : World) (Q : Value → World → Prop) : W.ref31_Good p w Q = DF Tryd.prog tk A.ref31_Good Tryd.f49 [.agg p] w Q := by kernel_rfl
theorem W.ref31_Good_ok (p : Array Value) (w : World) (Q : Value → World → Prop) (h : W.ref31_Good p w Q) : Calls Tryd.prog F.ref31_Good #[.agg p] w fun e w1 => ∃ v, e = .returned v ∧ Q v w1 :=
  calls_of_DF hmix Tryd.func49 (by kernel_rfl) (Eq.mp (W.ref31_Good_eq p w Q) h)

/-- stanchion/stanchionref31.In -/
def W.ref31_In (p : Array Value) (q : Array Value) (w : World) (Q : Value → World → Prop) : Prop :=
  Nx (w.alloc (.cells p Ty.api_Prefix)) fun w1 => Nx (w1.alloc (.cells q Ty.api_Prefix)) fun w2 =>
  ∃ l3 : List Value, rdCells w2 ⟨w.heap.size, 0, none⟩ 0 17 = some l3 ∧ ∃ n4 : Int, w2.cell? (Addr.add ⟨w1.heap.size, 0, none⟩ 17) = some (.int .i64 n4) ∧
  Calls Tryd.prog F.ref12_Mask #[.agg l3.toArray, .int .i64 n4] w2 fun e6 w5 =>
  ∃ c7 : Array Value, ∃ b8 : Bool, e6 = .returned (.tuple #[.agg c7, .bool b8]) ∧
  Nx (
    w5.alloc (
      .cells #[.bool false, .int .u8 0, .int .u8 0, .int .u8 0, .int .u8 0, .int .u8 0, .int .u8 0, .int .u8 0, .int .u8 0, .int .u8 0, .int .u8 0, .int .u8 0, .int .u8 0, .int .u8 0, .int .u8 0, .int .u8 0, .int .u8 0, .int .i64 0] Ty.api_Prefix)
    )
  fun w9 => StoreOk w9 ⟨w5.heap.size, 0, none⟩ (Array.toList c7) ∧ Array.size c7 = 18 ∧
  Nx (setCells w9 ⟨w5.heap.size, 0, none⟩ 0 (Array.toList c7)) fun w10 => Jn (
    fun k11 : Bool → World → Prop => (
      b8 = true → ∃ l12 : List Value, rdCells w10 ⟨w5.heap.size, 0, none⟩ 0 18 = some l12 ∧
      ∃ l13 : List Value, rdCells w10 ⟨w1.heap.size, 0, none⟩ 0 18 = some l13 ∧
      ∃ b14 : Bool, AggEq Tryd.prog Ty.api_Prefix l12.toArray l13.toArray b14 ∧
      k11 b14 w10)
    ∧ (b8 = false → k11 false w10))
  (
    fun (b15 : Bool) (w16 : World) => Jn (
      fun k17 : Bool → World → Prop => (
        b15 = true → ∃ n18 : Int, w16.cell? (Addr.add ⟨w.heap.size, 0, none⟩ 17) = some (.int .i64 n18) ∧
        ∃ n19 : Int, w16.cell? (Addr.add ⟨w1.heap.size, 0, none⟩ 17) = some (.int .i64 n19) ∧
        k17 (decide ((n18 : Int) ≥ n19)) w16)
      ∧ (b15 = false → k17 false w16))
    (fun (b20 : Bool) (w21 : World) => Q (.bool b20) w21))
def A.ref31_In : AT := (.seq (.reg []) (.seq (.reg []) (.seq (.reg [.run, .run, .split 3, .run, .run, .run, .run, .split 5]) .leaf)))
theorem W.ref31_In_eq (p : Array Value) (q : Array Value) (w : World) (Q : Value → World → Prop) : W.ref31_In p q w Q = DF Tryd.prog tk A.ref31_In Tryd.f52 [.agg p, .agg q] w Q := by kernel_rfl
theorem W.ref31_In_ok (p : Array Value) (q : Array Value) (w : World) (Q : Value → World → Prop) (h : W.ref31_In p q w Q) : Calls Tryd.prog F.ref31_In #[.agg p, .agg q] w fun e w1 => ∃ v, e = .returned v ∧ Q v w1 :=
  calls_of_DF hmix Tryd.func52 (by kernel_rfl) (Eq.mp (W.ref31_In_eq p q w Q) h)

/-- stanchion/stanchionref12.From -/
def W.ref12_From (a : Array Value) (w : World) (Q : Value → World → Prop) : Prop :=
  Nx (w.alloc (.cells a Ty.api_Addr)) fun w1 => ∃ b2 : Bool, w1.cell? ⟨w.heap.size, 0, none⟩ = some (.bool b2) ∧
  (b2 = true → Q (.int .i64 0) w1) ∧ (b2 = false → Q (.int .i64 12) w1)
def A.ref12_From : AT := (.seq (.reg []) (.seq (.seq (.reg []) (.cond (.seq (.reg []) .leaf) .leaf)) (.seq (.reg []) .leaf)))
theorem W.ref12_From_eq (a : Array Value) (w : World) (Q : Value → World → Prop) : W.ref12_From a w Q = DF Tryd.prog tk A.ref12_From Tryd.f55 [.agg a] w Q := by kernel_rfl
theorem W.ref12_From_ok (a : Array Value) (w : World) (Q : Value → World → Prop) (h : W.ref12_From a w Q) : Calls Tryd.prog F.ref12_From #[.agg a] w fun e w1 => ∃ v, e = .returned v ∧ Q v w1 :=
  calls_of_DF hmix Tryd.func55 (by kernel_rfl) (Eq.mp (W.ref12_From_eq a w Q) h)

/-- stanchion/stanchionref12.digit -/
def W.ref12_digit (c : Int) (w : World) (Q : Value → World → Prop) : Prop :=
  (
    ((decide ((c : Int) ≥ 48)) && (decide ((c : Int) ≤ 57))) = true → Q (.int .i64 (IntKind.wrap .i64 (IntKind.wrap .u8 (c - 48)))) w)
  ∧ (
    ((decide ((c : Int) ≥ 48)) && (decide ((c : Int) ≤ 57))) = false → (
      ((decide ((c : Int) ≥ 97)) && (decide ((c : Int) ≤ 102))) = true → Q (.int .i64 (IntKind.wrap .i64 ((IntKind.wrap .i64 (IntKind.wrap .u8 (c - 97))) + 10))) w)
    ∧ (((decide ((c : Int) ≥ 97)) && (decide ((c : Int) ≤ 102))) = false → Q (.int .i64 (-1)) w))
def A.ref12_digit : AT := (.seq (.reg []) (.seq (.seq (.reg [.run, .run, .run, .pure 2]) (.cond (.seq (.reg []) .leaf) .leaf)) (.seq (.seq (.reg [.run, .run, .run, .pure 2]) (.cond (.seq (.reg []) .leaf) .leaf)) (.seq (.reg []) .leaf))))
theorem W.ref12_digit_eq (c : Int) (w : World) (Q : Value → World → Prop) : W.ref12_digit c w Q = DF Tryd.prog tk A.ref12_digit Tryd.f62 [.int .u8 c] w Q := by kernel_rfl
theorem W.ref12_digit_ok (c : Int) (w : World) (Q : Value → World → Prop) (h : W.ref12_digit c w Q) : Calls Tryd.prog F.ref12_digit #[.int .u8 c] w fun e w1 => ∃ v, e = .returned v ∧ Q v w1 :=
  calls_of_DF hmix Tryd.func62 (by kernel_rfl) (Eq.mp (W.ref12_digit_eq c w Q) h)

/-- stanchion/stanchionref12.Num -/
def W.ref12_Num (n : Int) (base : Int) (w : World) (Q : Value → World → Prop) : Prop :=
  (
    (decide ((n : Int) < base)) = true → (
      (0 : Int) ≤ (IntKind.wrap .i64 (n + 1)) ∧ (IntKind.wrap .i64 (n + 1)) ≤ (
        (
          (ByteArray.size (ByteArray.mk #[48, 49, 50, 51, 52, 53, 54, 55, 56, 57, 97, 98, 99, 100, 101, 102])) : Nat)
        : Int)
      )
    ∧ ((0 : Int) ≤ n ∧ n ≤ (((Int.toNat (IntKind.wrap .i64 (n + 1))) : Nat) : Int)) ∧
    Q (
      .string (
        ByteArray.extract (ByteArray.mk #[48, 49, 50, 51, 52, 53, 54, 55, 56, 57, 97, 98, 99, 100, 101, 102]) (Int.toNat n) (Int.toNat (IntKind.wrap .i64 (n + 1))))
      )
    w)
  ∧ (
    (decide ((n : Int) < base)) = false → Nx (w.drew) fun w1 => ∃ W2 : Nat → Prop, (base : Int) ≠ 0 ∧
    (base : Int) ≠ 0 ∧ Calls Tryd.prog F.ref12_Num #[.int .i64 (IntKind.wrap .i64 (Int.tdiv n base)), .int .i64 base] w1 fun e4 w3 =>
    ∃ s5 : ByteArray, e4 = .returned (.string s5) ∧ Calls Tryd.prog F.ref12_Num #[.int .i64 (Int.tmod n base), .int .i64 base] w3 fun e7 w6 =>
    ∃ s8 : ByteArray, e7 = .returned (.string s8) ∧ ((ByteArray.size s5 + ByteArray.size s8 : Nat) : Int) ≤ 9223372036854775807 ∧
    Q (.string (s5 ++ s8)) w6)
def A.ref12_Num : AT := (.seq (.reg []) (.seq (.seq (.reg []) (.cond (.seq (.reg []) .leaf) .leaf)) (.seq (.drw 9 true ⟨[0, 0, 3, 0, 12, 0, 0, 96, 0, 400, 528, 2047], [0, 0, 3, 0, 12, 0, 0, 96, 0, 384, 528, 1024]⟩ [4096, 8192, 16384, 32768, 65536, 131072, 262144, 524288, 1048576, 2097152, 4194304, 16] [1, 2, 12288, 2, 49152, 1, 2, 393216, 2, 1572864, 2162688, 4194304] (.take 0 (.take 1 (.take 2 (.take 3 (.take 5 (.take 6 (.take 7 (.take 8 (.out 4 false (.tail [.run, .run, .run]))))))))))) .leaf)))
theorem W.ref12_Num_eq (n : Int) (base : Int) (w : World) (Q : Value → World → Prop) : W.ref12_Num n base w Q = DF Tryd.prog tk A.ref12_Num Tryd.f67 [.int .i64 n, .int .i64 base] w Q := by kernel_rfl
theorem W.ref12_Num_ok (n : Int) (base : Int) (w : World) (Q : Value → World → Prop) (h : W.ref12_Num n base w Q) : Calls Tryd.prog F.ref12_Num #[.int .i64 n, .int .i64 base] w fun e w1 => ∃ v, e = .returned v ∧ Q v w1 :=
  calls_of_DF hmix Tryd.func67 (by kernel_rfl) (Eq.mp (W.ref12_Num_eq n base w Q) h)

end Go.Proofs.YtcjpgabpihkcjaaDoor
