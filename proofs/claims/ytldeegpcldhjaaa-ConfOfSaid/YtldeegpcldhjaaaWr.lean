/- Printed by gen.py: each function of the program as what must be shown of it. -/
import Derived.Test.YtldeegpcldhjaaaGb
namespace Go.Proofs.Ytldeegpcldhjaaa
open Go Gx
set_option maxRecDepth 100000
/-- stanchion/stanchionref39.Same -/
def W.ref39_Same (a : Sl) (b : Sl) (w : World) (Q : Value → World → Prop) : Prop :=
  (((((a.len : Nat) : Int) : Int) != ((b.len : Nat) : Int)) = true → Q (.bool false) w) ∧
  (
    ((((a.len : Nat) : Int) : Int) != ((b.len : Nat) : Int)) = false → ∃ (I1 : Int → World → Prop) (μ2 : Int → World → Nat), I1 0 w ∧
    ∀ (n3 : Int) (w4 : World), I1 n3 w4 → (
      (decide ((n3 : Int) < ((a.len : Nat) : Int))) = true → Nx (w4.drew) fun w5 =>
      ∃ a6 : Addr, a.a = some a6 ∧ ((0 : Int) ≤ n3 ∧ n3 < ((a.len : Nat) : Int)) ∧
      ¬ False ∧ ∃ l7 : List Value, rdCells w5 (a6.add (Int.toNat n3 * 23)) 0 23 = some l7 ∧
      ∃ a8 : Addr, b.a = some a8 ∧ ((0 : Int) ≤ n3 ∧ n3 < ((b.len : Nat) : Int)) ∧
      ¬ False ∧ ∃ l9 : List Value, rdCells w5 (a8.add (Int.toNat n3 * 23)) 0 23 = some l9 ∧
      Calls Try.prog F.ref20_Same #[.agg l7.toArray, .agg l9.toArray] w5 fun e11 w10 =>
      ∃ b12 : Bool, e11 = .returned (.bool b12) ∧ ((!b12) = true → Q (.bool false) w10) ∧
      (
        (!b12) = false → I1 (IntKind.wrap .i64 (n3 + 1)) w10 ∧ μ2 (IntKind.wrap .i64 (n3 + 1)) w10 < μ2 n3 w4)
      )
    ∧ ((decide ((n3 : Int) < ((a.len : Nat) : Int))) = false → Q (.bool true) w4))
def A.ref39_Same : AT := (.seq (.reg []) (.seq (.seq (.reg []) (.cond (.seq (.reg []) .leaf) .leaf)) (.seq (.seq (.reg []) (.blk (.loop [(5, (.int .i64))] [0, 1] (.seq (.seq (.reg []) (.cond .leaf .leaf)) (.seq (.blk (.seq (.drw 8 false ⟨[0, 0, 3, 4, 0, 0, 48, 64, 136, 256], [0, 0, 3, 4, 0, 0, 48, 64, 136, 256]⟩ [131072, 262144, 524288, 1048576, 2097152, 4194304, 8388608, 16777216, 33554432, 67108864] [1, 32, 393216, 524288, 2, 32, 6291456, 8388608, 17825792, 33554432] (.take 0 (.take 1 (.take 2 (.take 3 (.take 4 (.take 5 (.take 6 (.take 7 (.tail [.run, .run])))))))))) (.cond (.seq (.reg []) .leaf) .leaf))) (.reg [])))))) (.seq (.reg []) .leaf))))
theorem W.ref39_Same_eq (a : Sl) (b : Sl) (w : World) (Q : Value → World → Prop) : W.ref39_Same a b w Q = DF Try.prog tk A.ref39_Same Try.f13 [.slice a.a a.len a.cap, .slice b.a b.len b.cap] w Q := by kernel_rfl
theorem W.ref39_Same_ok (a : Sl) (b : Sl) (w : World) (Q : Value → World → Prop) (h : W.ref39_Same a b w Q) : Calls Try.prog F.ref39_Same #[.slice a.a a.len a.cap, .slice b.a b.len b.cap] w fun e w1 => ∃ v, e = .returned v ∧ Q v w1 :=
  calls_of_DF hmix Try.func13 (by kernel_rfl) (Eq.mp (W.ref39_Same_eq a b w Q) h)

/-- (*stanchion/stanchionref20.Farm).At -/
def W.ref20_Farm_At (f : Option Addr) (id : Int) (w : World) (Q : Value → World → Prop) : Prop :=
  ∃ (I1 : Int → World → Prop) (μ2 : Int → World → Nat), I1 0 w ∧ ∀ (n3 : Int) (w4 : World), I1 n3 w4 →
  ∃ a5 : Addr, f = some a5 ∧ ∃ s6 : Sl, w4.cell? a5 = some (.slice s6.a s6.len s6.cap) ∧
  (
    (decide ((n3 : Int) < ((s6.len : Nat) : Int))) = true → ∃ a7 : Addr, f = some a7 ∧
    ∃ s8 : Sl, w4.cell? a7 = some (.slice s8.a s8.len s8.cap) ∧ ∃ a9 : Addr, s8.a = some a9 ∧
    ((0 : Int) ≤ n3 ∧ n3 < ((s8.len : Nat) : Int)) ∧ ∃ n10 : Int, w4.cell? (a9.add (Int.toNat n3 * 23)) = some (.int .i64 n10) ∧
    (((n10 : Int) == id) = true → Q (.int .i64 n3) w4) ∧ (
      ((n10 : Int) == id) = false → I1 (IntKind.wrap .i64 (n3 + 1)) w4 ∧ μ2 (IntKind.wrap .i64 (n3 + 1)) w4 < μ2 n3 w4)
    )
  ∧ ((decide ((n3 : Int) < ((s6.len : Nat) : Int))) = false → Q (.int .i64 (-1)) w4)
def A.ref20_Farm_At : AT := (.seq (.reg []) (.seq (.seq (.reg []) (.blk (.loop [(5, (.int .i64))] [0, 1] (.seq (.seq (.reg []) (.cond .leaf .leaf)) (.seq (.blk (.seq (.reg []) (.cond (.seq (.reg []) .leaf) .leaf))) (.reg [])))))) (.seq (.reg []) .leaf)))
theorem W.ref20_Farm_At_eq (f : Option Addr) (id : Int) (w : World) (Q : Value → World → Prop) : W.ref20_Farm_At f id w Q = DF Try.prog tk A.ref20_Farm_At Try.f14 [.pointer f, .int .i64 id] w Q := by kernel_rfl
theorem W.ref20_Farm_At_ok (f : Option Addr) (id : Int) (w : World) (Q : Value → World → Prop) (h : W.ref20_Farm_At f id w Q) : Calls Try.prog F.ref20_Farm_At #[.pointer f, .int .i64 id] w fun e w1 => ∃ v, e = .returned v ∧ Q v w1 :=
  calls_of_DF hmix Try.func14 (by kernel_rfl) (Eq.mp (W.ref20_Farm_At_eq f id w Q) h)

/-- stanchion/stanchionref20.Same -/
def W.ref20_Same (a : Array Value) (b : Array Value) (w : World) (Q : Value → World → Prop) : Prop :=
  Nx (w.alloc (.cells a Ty.api_Service)) fun w1 => Nx (w1.alloc (.cells b Ty.api_Service)) fun w2 =>
  ∃ n3 : Int, w2.cell? ⟨w.heap.size, 0, none⟩ = some (.int .i64 n3) ∧ ∃ n4 : Int, w2.cell? ⟨w1.heap.size, 0, none⟩ = some (.int .i64 n4) ∧
  Jn (
    fun k5 : Bool → World → Prop => (((n3 : Int) != n4) = true → k5 true w2) ∧
    (
      ((n3 : Int) != n4) = false → ∃ l6 : List Value, rdCells w2 (Addr.add ⟨w.heap.size, 0, none⟩ 1) 0 17 = some l6 ∧
      ∃ l7 : List Value, rdCells w2 (Addr.add ⟨w1.heap.size, 0, none⟩ 1) 0 17 = some l7 ∧
      ∃ b8 : Bool, AggEq Try.prog Ty.api_Addr l6.toArray l7.toArray b8 ∧ k5 (!b8) w2)
    )
  (
    fun (b9 : Bool) (w10 : World) => Jn (
      fun k11 : Bool → World → Prop => (b9 = true → k11 true w10) ∧ (
        b9 = false → ∃ n12 : Int, w10.cell? (Addr.add ⟨w.heap.size, 0, none⟩ 18) = some (.int .u16 n12) ∧
        ∃ n13 : Int, w10.cell? (Addr.add ⟨w1.heap.size, 0, none⟩ 18) = some (.int .u16 n13) ∧
        k11 ((n12 : Int) != n13) w10)
      )
    (
      fun (b14 : Bool) (w15 : World) => Jn (
        fun k16 : Bool → World → Prop => (b14 = true → k16 true w15) ∧ (
          b14 = false → ∃ n17 : Int, w15.cell? (Addr.add ⟨w.heap.size, 0, none⟩ 19) = some (.int .u8 n17) ∧
          ∃ n18 : Int, w15.cell? (Addr.add ⟨w1.heap.size, 0, none⟩ 19) = some (.int .u8 n18) ∧
          k16 ((n17 : Int) != n18) w15)
        )
      (
        fun (b19 : Bool) (w20 : World) => Jn (
          fun k21 : Bool → World → Prop => (b19 = true → k21 true w20) ∧ (
            b19 = false → ∃ n22 : Int, w20.cell? (Addr.add ⟨w.heap.size, 0, none⟩ 20) = some (.int .i64 n22) ∧
            ∃ n23 : Int, w20.cell? (Addr.add ⟨w1.heap.size, 0, none⟩ 20) = some (.int .i64 n23) ∧
            k21 ((n22 : Int) != n23) w20)
          )
        (
          fun (b24 : Bool) (w25 : World) => Jn (
            fun k26 : Bool → World → Prop => (b24 = true → k26 true w25) ∧ (
              b24 = false → ∃ n27 : Int, w25.cell? (Addr.add ⟨w.heap.size, 0, none⟩ 21) = some (.int .u64 n27) ∧
              ∃ n28 : Int, w25.cell? (Addr.add ⟨w1.heap.size, 0, none⟩ 21) = some (.int .u64 n28) ∧
              k26 ((n27 : Int) != n28) w25)
            )
          (
            fun (b29 : Bool) (w30 : World) => Jn (
              fun k31 : Bool → World → Prop => (b29 = true → k31 true w30) ∧ (
                b29 = false → ∃ s32 : Sl, w30.cell? (Addr.add ⟨w.heap.size, 0, none⟩ 22) = some (.slice s32.a s32.len s32.cap) ∧
                ∃ s33 : Sl, w30.cell? (Addr.add ⟨w1.heap.size, 0, none⟩ 22) = some (.slice s33.a s33.len s33.cap) ∧
                k31 ((((s32.len : Nat) : Int) : Int) != ((s33.len : Nat) : Int)) w30)
              )
            (
              fun (b34 : Bool) (w35 : World) => (b34 = true → Q (.bool false) w35) ∧ (
                b34 = false → ∃ (I36 : Int → World → Prop) (μ37 : Int → World → Nat), I36 0 w35 ∧
                ∀ (n38 : Int) (w39 : World), I36 n38 w39 → ∃ s40 : Sl, w39.cell? (Addr.add ⟨w.heap.size, 0, none⟩ 22) = some (.slice s40.a s40.len s40.cap) ∧
                (
                  (decide ((n38 : Int) < ((s40.len : Nat) : Int))) = true → Nx (w39.drew) fun w41 =>
                  ¬ False ∧ ∃ s42 : Sl, w41.cell? (Addr.add ⟨w.heap.size, 0, none⟩ 22) = some (.slice s42.a s42.len s42.cap) ∧
                  ∃ a43 : Addr, s42.a = some a43 ∧ ((0 : Int) ≤ n38 ∧ n38 < ((s42.len : Nat) : Int)) ∧
                  ¬ False ∧ ∃ l44 : List Value, rdCells w41 (a43.add (Int.toNat n38 * 21)) 0 21 = some l44 ∧
                  ¬ False ∧ ∃ s45 : Sl, w41.cell? (Addr.add ⟨w1.heap.size, 0, none⟩ 22) = some (.slice s45.a s45.len s45.cap) ∧
                  ∃ a46 : Addr, s45.a = some a46 ∧ ((0 : Int) ≤ n38 ∧ n38 < ((s45.len : Nat) : Int)) ∧
                  ¬ False ∧ ∃ l47 : List Value, rdCells w41 (a46.add (Int.toNat n38 * 21)) 0 21 = some l47 ∧
                  ∃ b48 : Bool, AggEq Try.prog Ty.api_Backend l44.toArray l47.toArray b48 ∧
                  ((!b48) = true → Q (.bool false) w41) ∧ (
                    (!b48) = false → I36 (IntKind.wrap .i64 (n38 + 1)) w41 ∧ μ37 (IntKind.wrap .i64 (n38 + 1)) w41 < μ37 n38 w39)
                  )
                ∧ ((decide ((n38 : Int) < ((s40.len : Nat) : Int))) = false → Q (.bool true) w39))
              )
            )
          )
        )
      )
    )
def A.ref20_Same : AT := (.seq (.reg []) (.seq (.seq (.reg [.run, .run, .run, .run, .run, .run, .split 5, .run, .run, .run, .run, .run, .run, .split 5, .run, .run, .run, .run, .run, .run, .split 5, .run, .run, .run, .run, .run, .run, .split 5, .run, .run, .run, .run, .run, .run, .split 5, .run, .run, .run, .run, .run, .run, .split 7]) (.cond (.seq (.reg []) .leaf) .leaf)) (.seq (.seq (.reg []) (.blk (.loop [(5, (.int .i64))] [2, 3] (.seq (.seq (.reg []) (.cond .leaf .leaf)) (.seq (.blk (.seq (.drw 10 false ⟨[0, 1, 0, 6, 8, 0, 32, 0, 192, 256, 528], [0, 1, 0, 6, 8, 0, 32, 0, 192, 256, 528]⟩ [4611686018427387904, 9223372036854775808, 18446744073709551616, 36893488147419103232, 73786976294838206464, 147573952589676412928, 295147905179352825856, 590295810358705651712, 1180591620717411303424, 2361183241434822606848, 4722366482869645213696] [4, 4611686018427387904, 32, 27670116110564327424, 36893488147419103232, 8, 147573952589676412928, 32, 885443715538058477568, 1180591620717411303424, 2434970217729660813312] (.take 0 (.take 1 (.take 2 (.take 3 (.take 4 (.take 5 (.take 6 (.take 7 (.take 8 (.take 9 (.tail [.run])))))))))))) (.cond (.seq (.reg []) .leaf) .leaf))) (.reg [])))))) (.seq (.reg []) .leaf))))
theorem W.ref20_Same_eq (a : Array Value) (b : Array Value) (w : World) (Q : Value → World → Prop) : W.ref20_Same a b w Q = DF Try.prog tk A.ref20_Same Try.f15 [.agg a, .agg b] w Q := by kernel_rfl
theorem W.ref20_Same_ok (a : Array Value) (b : Array Value) (w : World) (Q : Value → World → Prop) (h : W.ref20_Same a b w Q) : Calls Try.prog F.ref20_Same #[.agg a, .agg b] w fun e w1 => ∃ v, e = .returned v ∧ Q v w1 :=
  calls_of_DF hmix Try.func15 (by kernel_rfl) (Eq.mp (W.ref20_Same_eq a b w Q) h)

/-- stanchion/stanchionref20.Has -/
def W.ref20_Has (s : Array Value) (id : Int) (w : World) (Q : Value → World → Prop) : Prop :=
  Nx (w.alloc (.cells s Ty.api_Service)) fun w1 => ∃ (I2 : Int → World → Prop) (μ3 : Int → World → Nat), I2 0 w1 ∧
  ∀ (n4 : Int) (w5 : World), I2 n4 w5 → ∃ s6 : Sl, w5.cell? (Addr.add ⟨w.heap.size, 0, none⟩ 22) = some (.slice s6.a s6.len s6.cap) ∧
  (
    (decide ((n4 : Int) < ((s6.len : Nat) : Int))) = true → ∃ s7 : Sl, w5.cell? (Addr.add ⟨w.heap.size, 0, none⟩ 22) = some (.slice s7.a s7.len s7.cap) ∧
    ∃ a8 : Addr, s7.a = some a8 ∧ ((0 : Int) ≤ n4 ∧ n4 < ((s7.len : Nat) : Int)) ∧
    ∃ n9 : Int, w5.cell? (a8.add (Int.toNat n4 * 21)) = some (.int .i64 n9) ∧
    (((n9 : Int) == id) = true → Q (.int .i64 n4) w5) ∧ (
      ((n9 : Int) == id) = false → I2 (IntKind.wrap .i64 (n4 + 1)) w5 ∧ μ3 (IntKind.wrap .i64 (n4 + 1)) w5 < μ3 n4 w5)
    )
  ∧ ((decide ((n4 : Int) < ((s6.len : Nat) : Int))) = false → Q (.int .i64 (-1)) w5)
def A.ref20_Has : AT := (.seq (.reg []) (.seq (.seq (.reg []) (.blk (.loop [(5, (.int .i64))] [1, 2] (.seq (.seq (.reg []) (.cond .leaf .leaf)) (.seq (.blk (.seq (.reg []) (.cond (.seq (.reg []) .leaf) .leaf))) (.reg [])))))) (.seq (.reg []) .leaf)))
theorem W.ref20_Has_eq (s : Array Value) (id : Int) (w : World) (Q : Value → World → Prop) : W.ref20_Has s id w Q = DF Try.prog tk A.ref20_Has Try.f16 [.agg s, .int .i64 id] w Q := by kernel_rfl
theorem W.ref20_Has_ok (s : Array Value) (id : Int) (w : World) (Q : Value → World → Prop) (h : W.ref20_Has s id w Q) : Calls Try.prog F.ref20_Has #[.agg s, .int .i64 id] w fun e w1 => ∃ v, e = .returned v ∧ Q v w1 :=
  calls_of_DF hmix Try.func16 (by kernel_rfl) (Eq.mp (W.ref20_Has_eq s id w Q) h)

/-- (*stanchion/stanchionref20.Farm).DropService -/
def W.ref20_Farm_DropService (f : Option Addr) (id : Int) (w : World) (Q : Value → World → Prop) : Prop :=
  Calls Try.prog F.ref20_Farm_At #[.pointer f, .int .i64 id] w fun e2 w1 => ∃ n3 : Int, e2 = .returned (.int .i64 n3) ∧
  ((decide ((n3 : Int) < 0)) = true → Q (.int .i64 6) w1) ∧ (
    (decide ((n3 : Int) < 0)) = false → Nx (w1.drew) fun w4 => ∃ W5 : Nat → Prop, ∃ a6 : Addr, f = some a6 ∧
    ¬ W5 a6.block ∧ ∃ s7 : Sl, w4.cell? a6 = some (.slice s7.a s7.len s7.cap) ∧
    ((0 : Int) ≤ n3 ∧ n3 ≤ ((s7.cap : Nat) : Int)) ∧ ∃ a8 : Addr, f = some a8 ∧
    ¬ W5 a8.block ∧ ∃ s9 : Sl, w4.cell? a8 = some (.slice s9.a s9.len s9.cap) ∧
    ((0 : Int) ≤ (IntKind.wrap .i64 (n3 + 1)) ∧ (IntKind.wrap .i64 (n3 + 1)) ≤ ((s9.len : Nat) : Int)) ∧
    ∃ s10 : Sl, ∃ w11 : World, Sem.run Try.prog (Instr.buildSlice Ty.Sl_api_Service 0 #[]) w4 = .ok (.slice s10.a s10.len s10.cap) w11 ∧
    Chg W5 w4 w11 ∧ ∃ s12 : Sl, ∃ w13 : World, Sem.run Try.prog (
      Builtin.append_ #[Ty.Sl_api_Service, Ty.Sl_api_Service] Ty.Sl_api_Service #[.slice s10.a s10.len s10.cap, .slice (cutA s7.a 23 0 s7.cap) ((Int.toNat n3) - 0) (s7.cap - 0)])
    w11 = .ok (.slice s12.a s12.len s12.cap) w13 ∧ Chg W5 w11 w13 ∧ ∃ s14 : Sl, ∃ w15 : World, Sem.run Try.prog (
      Builtin.append_ #[Ty.Sl_api_Service, Ty.Sl_api_Service] Ty.Sl_api_Service #[.slice s12.a s12.len s12.cap, .slice (cutA s9.a 23 (Int.toNat (IntKind.wrap .i64 (n3 + 1))) s9.cap) (s9.len - (Int.toNat (IntKind.wrap .i64 (n3 + 1)))) (s9.cap - (Int.toNat (IntKind.wrap .i64 (n3 + 1))))])
    w13 = .ok (.slice s14.a s14.len s14.cap) w15 ∧ Chg W5 w13 w15 ∧ ∃ a16 : Addr, f = some a16 ∧
    (∃ u : Value, w15.cell? a16 = some u) ∧ w15.frozen? a16 = false ∧ Nx (w15.setCell a16 (.slice s14.a s14.len s14.cap)) fun w17 =>
    Q (.int .i64 0) w17)
def A.ref20_Farm_DropService : AT := (.seq (.reg []) (.seq (.reg []) (.seq (.seq (.reg []) (.cond (.seq (.reg []) .leaf) .leaf)) (.seq (.drw 17 true ⟨[0, 0, 0, 4, 8, 16, 0, 96, 130, 0, 512, 1024, 2048, 0, 8192, 20480, 33024, 131071, 262143, 393215], [0, 0, 0, 4, 8, 16, 0, 96, 130, 0, 512, 1024, 2048, 0, 8192, 20480, 33024, 1, 131072, 327680]⟩ [2048, 4096, 8192, 16384, 32768, 65536, 131072, 262144, 524288, 1048576, 2097152, 4194304, 8388608, 16777216, 33554432, 67108864, 134217728, 268435456, 536870912, 0] [1, 0, 1, 8192, 16384, 32768, 32, 196608, 266240, 1, 1048576, 2097152, 4194304, 32, 16777216, 41943040, 67633152, 2048, 268435456, 671088640] (.take 0 (.take 2 (.take 3 (.take 4 (.take 5 (.take 6 (.take 7 (.take 9 (.take 10 (.take 11 (.take 12 (.take 13 (.take 14 (.take 15 (.eff 1 (.eff 8 (.eff 16 (.tail [.run, .run, .run]))))))))))))))))))) (.seq (.reg []) .leaf)))))
theorem W.ref20_Farm_DropService_eq (f : Option Addr) (id : Int) (w : World) (Q : Value → World → Prop) : W.ref20_Farm_DropService f id w Q = DF Try.prog tk A.ref20_Farm_DropService Try.f25 [.pointer f, .int .i64 id] w Q := by kernel_rfl
theorem W.ref20_Farm_DropService_ok (f : Option Addr) (id : Int) (w : World) (Q : Value → World → Prop) (h : W.ref20_Farm_DropService f id w Q) : Calls Try.prog F.ref20_Farm_DropService #[.pointer f, .int .i64 id] w fun e w1 => ∃ v, e = .returned v ∧ Q v w1 :=
  calls_of_DF hmix Try.func25 (by kernel_rfl) (Eq.mp (W.ref20_Farm_DropService_eq f id w Q) h)

/-- (*stanchion/stanchionref20.Farm).AddBackend -/
def W.ref20_Farm_AddBackend (f : Option Addr) (id : Int) (b : Array Value) (w : World) (Q : Value → World → Prop) : Prop :=
  Nx (w.alloc (.cells b Ty.api_Backend)) fun w1 => Calls Try.prog F.ref20_Farm_At #[.pointer f, .int .i64 id] w1 fun e3 w2 =>
  ∃ n4 : Int, e3 = .returned (.int .i64 n4) ∧ ((decide ((n4 : Int) < 0)) = true → Q (.int .i64 6) w2) ∧
  (
    (decide ((n4 : Int) < 0)) = false → Nx (w2.drew) fun w5 => ∃ a6 : Addr, f = some a6 ∧
    ¬ False ∧ ∃ s7 : Sl, w5.cell? a6 = some (.slice s7.a s7.len s7.cap) ∧ ∃ a8 : Addr, s7.a = some a8 ∧
    ((0 : Int) ≤ n4 ∧ n4 < ((s7.len : Nat) : Int)) ∧ ¬ False ∧ ∃ l9 : List Value, rdCells w5 (a8.add (Int.toNat n4 * 23)) 0 23 = some l9 ∧
    ¬ False ∧ ∃ l10 : List Value, rdCells w5 ⟨w.heap.size, 0, none⟩ 0 21 = some l10 ∧
    Calls Try.prog F.ref20_Can #[.agg l9.toArray, .agg l10.toArray] w5 fun e12 w11 =>
    ∃ b13 : Bool, e12 = .returned (.bool b13) ∧ ((!b13) = true → Q (.int .i64 1) w11) ∧
    (
      (!b13) = false → Nx (w11.drew) fun w14 => ∃ a15 : Addr, f = some a15 ∧ ¬ False ∧
      ∃ s16 : Sl, w14.cell? a15 = some (.slice s16.a s16.len s16.cap) ∧ ∃ a17 : Addr, s16.a = some a17 ∧
      ((0 : Int) ≤ n4 ∧ n4 < ((s16.len : Nat) : Int)) ∧ ¬ False ∧ ∃ l18 : List Value, rdCells w14 (a17.add (Int.toNat n4 * 23)) 0 23 = some l18 ∧
      ¬ False ∧ ∃ n19 : Int, w14.cell? ⟨w.heap.size, 0, none⟩ = some (.int .i64 n19) ∧
      Calls Try.prog F.ref20_Has #[.agg l18.toArray, .int .i64 n19] w14 fun e21 w20 =>
      ∃ n22 : Int, e21 = .returned (.int .i64 n22) ∧ ((decide ((n22 : Int) ≥ 0)) = true → Q (.int .i64 7) w20) ∧
      (
        (decide ((n22 : Int) ≥ 0)) = false → ∃ a23 : Addr, f = some a23 ∧ ∃ s24 : Sl, w20.cell? a23 = some (.slice s24.a s24.len s24.cap) ∧
        ∃ a25 : Addr, s24.a = some a25 ∧ ((0 : Int) ≤ n4 ∧ n4 < ((s24.len : Nat) : Int)) ∧
        ∃ s26 : Sl, w20.cell? ((a25.add (Int.toNat n4 * 23)).add 22) = some (.slice s26.a s26.len s26.cap) ∧
        ((decide ((((s26.len : Nat) : Int) : Int) ≥ 16)) = true → Q (.int .i64 2) w20) ∧
        (
          (decide ((((s26.len : Nat) : Int) : Int) ≥ 16)) = false → ∃ (I27 : Int → World → Prop) (μ28 : Int → World → Nat), I27 0 w20 ∧
          ∀ (n29 : Int) (w30 : World), I27 n29 w30 → Nx (w30.drew) fun w31 => (
            (decide ((n29 : Int) < ((s26.len : Nat) : Int))) = true → ∃ a32 : Addr, s26.a = some a32 ∧
            ((0 : Int) ≤ n29 ∧ n29 < ((s26.len : Nat) : Int)) ∧ ¬ False ∧ ∃ n33 : Int, w31.cell? (a32.add (Int.toNat n29 * 21)) = some (.int .i64 n33) ∧
            ¬ False ∧ ∃ n34 : Int, w31.cell? ⟨w.heap.size, 0, none⟩ = some (.int .i64 n34) ∧
            (
              (decide ((n33 : Int) < n34)) = true → I27 (IntKind.wrap .i64 (n29 + 1)) w31 ∧
              μ28 (IntKind.wrap .i64 (n29 + 1)) w31 < μ28 n29 w30)
            ∧ (
              (decide ((n33 : Int) < n34)) = false → Nx (w31.drew) fun w35 => ∃ W36 : Nat →
              Prop, ∃ a37 : Addr, f = some a37 ∧ ¬ W36 a37.block ∧ ∃ s38 : Sl, w35.cell? a37 = some (.slice s38.a s38.len s38.cap) ∧
              ((0 : Int) ≤ n29 ∧ n29 ≤ ((s26.cap : Nat) : Int)) ∧ ¬ W36 (⟨w.heap.size, 0, none⟩ : Addr).block ∧
              ∃ l39 : List Value, rdCells w35 ⟨w.heap.size, 0, none⟩ 0 21 = some l39 ∧ ((0 : Int) ≤ n29 ∧ n29 ≤ ((s26.len : Nat) : Int)) ∧
              (
                ∃ s40 : Sl, ∃ w41 : World, Sem.run Try.prog (Instr.buildSlice Ty.Sl_api_Backend 0 #[]) w35 = .ok (.slice s40.a s40.len s40.cap) w41 ∧
                Chg W36 w35 w41 ∧ (
                  ∃ s42 : Sl, ∃ w43 : World, Sem.run Try.prog (
                    Builtin.append_ #[Ty.Sl_api_Backend, Ty.Sl_api_Backend] Ty.Sl_api_Backend #[.slice s40.a s40.len s40.cap, .slice (cutA s26.a 21 0 s26.cap) ((Int.toNat n29) - 0) (s26.cap - 0)])
                  w41 = .ok (.slice s42.a s42.len s42.cap) w43 ∧ Chg W36 w41 w43 ∧ ∃ s44 : Sl, ∃ w45 : World, Sem.run Try.prog (Instr.buildSlice Ty.Sl_api_Backend 1 #[(0, .agg l39.toArray)]) w43 = .ok (.slice s44.a s44.len s44.cap) w45 ∧
                  Chg W36 w43 w45 ∧ ∃ s46 : Sl, ∃ w47 : World, Sem.run Try.prog (
                    Builtin.append_ #[Ty.Sl_api_Backend, Ty.Sl_api_Backend] Ty.Sl_api_Backend #[.slice s42.a s42.len s42.cap, .slice s44.a s44.len s44.cap])
                  w45 = .ok (.slice s46.a s46.len s46.cap) w47 ∧ Chg W36 w45 w47 ∧ ∃ s48 : Sl, ∃ w49 : World, Sem.run Try.prog (
                    Builtin.append_ #[Ty.Sl_api_Backend, Ty.Sl_api_Backend] Ty.Sl_api_Backend #[.slice s46.a s46.len s46.cap, .slice (cutA s26.a 21 (Int.toNat n29) s26.cap) (s26.len - (Int.toNat n29)) (s26.cap - (Int.toNat n29))])
                  w47 = .ok (.slice s48.a s48.len s48.cap) w49 ∧ Chg W36 w47 w49 ∧ ∃ a50 : Addr, s38.a = some a50 ∧
                  ((0 : Int) ≤ n4 ∧ n4 < ((s38.len : Nat) : Int)) ∧ (∃ u : Value, w49.cell? ((a50.add (Int.toNat n4 * 23)).add 22) = some u) ∧
                  w49.frozen? ((a50.add (Int.toNat n4 * 23)).add 22) = false ∧ Nx (w49.setCell ((a50.add (Int.toNat n4 * 23)).add 22) (.slice s48.a s48.len s48.cap)) fun w51 =>
                  Q (.int .i64 0) w51)
                ∧ (
                  ∃ s52 : Sl, ∃ w53 : World, Sem.run Try.prog (Instr.buildSlice Ty.Sl_api_Backend 1 #[(0, .agg l39.toArray)]) w41 = .ok (.slice s52.a s52.len s52.cap) w53 ∧
                  Chg W36 w41 w53 ∧ ∃ s54 : Sl, ∃ w55 : World, Sem.run Try.prog (
                    Builtin.append_ #[Ty.Sl_api_Backend, Ty.Sl_api_Backend] Ty.Sl_api_Backend #[.slice s40.a s40.len s40.cap, .slice (cutA s26.a 21 0 s26.cap) ((Int.toNat n29) - 0) (s26.cap - 0)])
                  w53 = .ok (.slice s54.a s54.len s54.cap) w55 ∧ Chg W36 w53 w55 ∧ ∃ s56 : Sl, ∃ w57 : World, Sem.run Try.prog (
                    Builtin.append_ #[Ty.Sl_api_Backend, Ty.Sl_api_Backend] Ty.Sl_api_Backend #[.slice s54.a s54.len s54.cap, .slice s52.a s52.len s52.cap])
                  w55 = .ok (.slice s56.a s56.len s56.cap) w57 ∧ Chg W36 w55 w57 ∧ ∃ s58 : Sl, ∃ w59 : World, Sem.run Try.prog (
                    Builtin.append_ #[Ty.Sl_api_Backend, Ty.Sl_api_Backend] Ty.Sl_api_Backend #[.slice s56.a s56.len s56.cap, .slice (cutA s26.a 21 (Int.toNat n29) s26.cap) (s26.len - (Int.toNat n29)) (s26.cap - (Int.toNat n29))])
                  w57 = .ok (.slice s58.a s58.len s58.cap) w59 ∧ Chg W36 w57 w59 ∧ ∃ a60 : Addr, s38.a = some a60 ∧
                  ((0 : Int) ≤ n4 ∧ n4 < ((s38.len : Nat) : Int)) ∧ (∃ u : Value, w59.cell? ((a60.add (Int.toNat n4 * 23)).add 22) = some u) ∧
                  w59.frozen? ((a60.add (Int.toNat n4 * 23)).add 22) = false ∧ Nx (w59.setCell ((a60.add (Int.toNat n4 * 23)).add 22) (.slice s58.a s58.len s58.cap)) fun w61 =>
                  Q (.int .i64 0) w61)
                )
              ∧ (
                ∃ s62 : Sl, ∃ w63 : World, Sem.run Try.prog (Instr.buildSlice Ty.Sl_api_Backend 1 #[(0, .agg l39.toArray)]) w35 = .ok (.slice s62.a s62.len s62.cap) w63 ∧
                Chg W36 w35 w63 ∧ ∃ s64 : Sl, ∃ w65 : World, Sem.run Try.prog (Instr.buildSlice Ty.Sl_api_Backend 0 #[]) w63 = .ok (.slice s64.a s64.len s64.cap) w65 ∧
                Chg W36 w63 w65 ∧ ∃ s66 : Sl, ∃ w67 : World, Sem.run Try.prog (
                  Builtin.append_ #[Ty.Sl_api_Backend, Ty.Sl_api_Backend] Ty.Sl_api_Backend #[.slice s64.a s64.len s64.cap, .slice (cutA s26.a 21 0 s26.cap) ((Int.toNat n29) - 0) (s26.cap - 0)])
                w65 = .ok (.slice s66.a s66.len s66.cap) w67 ∧ Chg W36 w65 w67 ∧ ∃ s68 : Sl, ∃ w69 : World, Sem.run Try.prog (
                  Builtin.append_ #[Ty.Sl_api_Backend, Ty.Sl_api_Backend] Ty.Sl_api_Backend #[.slice s66.a s66.len s66.cap, .slice s62.a s62.len s62.cap])
                w67 = .ok (.slice s68.a s68.len s68.cap) w69 ∧ Chg W36 w67 w69 ∧ ∃ s70 : Sl, ∃ w71 : World, Sem.run Try.prog (
                  Builtin.append_ #[Ty.Sl_api_Backend, Ty.Sl_api_Backend] Ty.Sl_api_Backend #[.slice s68.a s68.len s68.cap, .slice (cutA s26.a 21 (Int.toNat n29) s26.cap) (s26.len - (Int.toNat n29)) (s26.cap - (Int.toNat n29))])
                w69 = .ok (.slice s70.a s70.len s70.cap) w71 ∧ Chg W36 w69 w71 ∧ ∃ a72 : Addr, s38.a = some a72 ∧
                ((0 : Int) ≤ n4 ∧ n4 < ((s38.len : Nat) : Int)) ∧ (∃ u : Value, w71.cell? ((a72.add (Int.toNat n4 * 23)).add 22) = some u) ∧
                w71.frozen? ((a72.add (Int.toNat n4 * 23)).add 22) = false ∧ Nx (w71.setCell ((a72.add (Int.toNat n4 * 23)).add 22) (.slice s70.a s70.len s70.cap)) fun w73 =>
                Q (.int .i64 0) w73)
              )
            )
          ∧ (
            (decide ((n29 : Int) < ((s26.len : Nat) : Int))) = false → (
              false = true → I27 (IntKind.wrap .i64 (n29 + 1)) w31 ∧ μ28 (IntKind.wrap .i64 (n29 + 1)) w31 < μ28 n29 w30)
            ∧ (
              false = false → Nx (w31.drew) fun w74 => ∃ W75 : Nat → Prop, ∃ a76 : Addr, f = some a76 ∧
              ¬ W75 a76.block ∧ ∃ s77 : Sl, w74.cell? a76 = some (.slice s77.a s77.len s77.cap) ∧
              ((0 : Int) ≤ n29 ∧ n29 ≤ ((s26.cap : Nat) : Int)) ∧ ¬ W75 (⟨w.heap.size, 0, none⟩ : Addr).block ∧
              ∃ l78 : List Value, rdCells w74 ⟨w.heap.size, 0, none⟩ 0 21 = some l78 ∧ ((0 : Int) ≤ n29 ∧ n29 ≤ ((s26.len : Nat) : Int)) ∧
              (
                ∃ s79 : Sl, ∃ w80 : World, Sem.run Try.prog (Instr.buildSlice Ty.Sl_api_Backend 0 #[]) w74 = .ok (.slice s79.a s79.len s79.cap) w80 ∧
                Chg W75 w74 w80 ∧ (
                  ∃ s81 : Sl, ∃ w82 : World, Sem.run Try.prog (
                    Builtin.append_ #[Ty.Sl_api_Backend, Ty.Sl_api_Backend] Ty.Sl_api_Backend #[.slice s79.a s79.len s79.cap, .slice (cutA s26.a 21 0 s26.cap) ((Int.toNat n29) - 0) (s26.cap - 0)])
                  w80 = .ok (.slice s81.a s81.len s81.cap) w82 ∧ Chg W75 w80 w82 ∧ ∃ s83 : Sl, ∃ w84 : World, Sem.run Try.prog (Instr.buildSlice Ty.Sl_api_Backend 1 #[(0, .agg l78.toArray)]) w82 = .ok (.slice s83.a s83.len s83.cap) w84 ∧
                  Chg W75 w82 w84 ∧ ∃ s85 : Sl, ∃ w86 : World, Sem.run Try.prog (
                    Builtin.append_ #[Ty.Sl_api_Backend, Ty.Sl_api_Backend] Ty.Sl_api_Backend #[.slice s81.a s81.len s81.cap, .slice s83.a s83.len s83.cap])
                  w84 = .ok (.slice s85.a s85.len s85.cap) w86 ∧ Chg W75 w84 w86 ∧ ∃ s87 : Sl, ∃ w88 : World, Sem.run Try.prog (
                    Builtin.append_ #[Ty.Sl_api_Backend, Ty.Sl_api_Backend] Ty.Sl_api_Backend #[.slice s85.a s85.len s85.cap, .slice (cutA s26.a 21 (Int.toNat n29) s26.cap) (s26.len - (Int.toNat n29)) (s26.cap - (Int.toNat n29))])
                  w86 = .ok (.slice s87.a s87.len s87.cap) w88 ∧ Chg W75 w86 w88 ∧ ∃ a89 : Addr, s77.a = some a89 ∧
                  ((0 : Int) ≤ n4 ∧ n4 < ((s77.len : Nat) : Int)) ∧ (∃ u : Value, w88.cell? ((a89.add (Int.toNat n4 * 23)).add 22) = some u) ∧
                  w88.frozen? ((a89.add (Int.toNat n4 * 23)).add 22) = false ∧ Nx (w88.setCell ((a89.add (Int.toNat n4 * 23)).add 22) (.slice s87.a s87.len s87.cap)) fun w90 =>
                  Q (.int .i64 0) w90)
                ∧ (
                  ∃ s91 : Sl, ∃ w92 : World, Sem.run Try.prog (Instr.buildSlice Ty.Sl_api_Backend 1 #[(0, .agg l78.toArray)]) w80 = .ok (.slice s91.a s91.len s91.cap) w92 ∧
                  Chg W75 w80 w92 ∧ ∃ s93 : Sl, ∃ w94 : World, Sem.run Try.prog (
                    Builtin.append_ #[Ty.Sl_api_Backend, Ty.Sl_api_Backend] Ty.Sl_api_Backend #[.slice s79.a s79.len s79.cap, .slice (cutA s26.a 21 0 s26.cap) ((Int.toNat n29) - 0) (s26.cap - 0)])
                  w92 = .ok (.slice s93.a s93.len s93.cap) w94 ∧ Chg W75 w92 w94 ∧ ∃ s95 : Sl, ∃ w96 : World, Sem.run Try.prog (
                    Builtin.append_ #[Ty.Sl_api_Backend, Ty.Sl_api_Backend] Ty.Sl_api_Backend #[.slice s93.a s93.len s93.cap, .slice s91.a s91.len s91.cap])
                  w94 = .ok (.slice s95.a s95.len s95.cap) w96 ∧ Chg W75 w94 w96 ∧ ∃ s97 : Sl, ∃ w98 : World, Sem.run Try.prog (
                    Builtin.append_ #[Ty.Sl_api_Backend, Ty.Sl_api_Backend] Ty.Sl_api_Backend #[.slice s95.a s95.len s95.cap, .slice (cutA s26.a 21 (Int.toNat n29) s26.cap) (s26.len - (Int.toNat n29)) (s26.cap - (Int.toNat n29))])
                  w96 = .ok (.slice s97.a s97.len s97.cap) w98 ∧ Chg W75 w96 w98 ∧ ∃ a99 : Addr, s77.a = some a99 ∧
                  ((0 : Int) ≤ n4 ∧ n4 < ((s77.len : Nat) : Int)) ∧ (∃ u : Value, w98.cell? ((a99.add (Int.toNat n4 * 23)).add 22) = some u) ∧
                  w98.frozen? ((a99.add (Int.toNat n4 * 23)).add 22) = false ∧ Nx (w98.setCell ((a99.add (Int.toNat n4 * 23)).add 22) (.slice s97.a s97.len s97.cap)) fun w100 =>
                  Q (.int .i64 0) w100)
                )
              ∧ (
                ∃ s101 : Sl, ∃ w102 : World, Sem.run Try.prog (Instr.buildSlice Ty.Sl_api_Backend 1 #[(0, .agg l78.toArray)]) w74 = .ok (.slice s101.a s101.len s101.cap) w102 ∧
                Chg W75 w74 w102 ∧ ∃ s103 : Sl, ∃ w104 : World, Sem.run Try.prog (Instr.buildSlice Ty.Sl_api_Backend 0 #[]) w102 = .ok (.slice s103.a s103.len s103.cap) w104 ∧
                Chg W75 w102 w104 ∧ ∃ s105 : Sl, ∃ w106 : World, Sem.run Try.prog (
                  Builtin.append_ #[Ty.Sl_api_Backend, Ty.Sl_api_Backend] Ty.Sl_api_Backend #[.slice s103.a s103.len s103.cap, .slice (cutA s26.a 21 0 s26.cap) ((Int.toNat n29) - 0) (s26.cap - 0)])
                w104 = .ok (.slice s105.a s105.len s105.cap) w106 ∧ Chg W75 w104 w106 ∧ ∃ s107 : Sl, ∃ w108 : World, Sem.run Try.prog (
                  Builtin.append_ #[Ty.Sl_api_Backend, Ty.Sl_api_Backend] Ty.Sl_api_Backend #[.slice s105.a s105.len s105.cap, .slice s101.a s101.len s101.cap])
                w106 = .ok (.slice s107.a s107.len s107.cap) w108 ∧ Chg W75 w106 w108 ∧ ∃ s109 : Sl, ∃ w110 : World, Sem.run Try.prog (
                  Builtin.append_ #[Ty.Sl_api_Backend, Ty.Sl_api_Backend] Ty.Sl_api_Backend #[.slice s107.a s107.len s107.cap, .slice (cutA s26.a 21 (Int.toNat n29) s26.cap) (s26.len - (Int.toNat n29)) (s26.cap - (Int.toNat n29))])
                w108 = .ok (.slice s109.a s109.len s109.cap) w110 ∧ Chg W75 w108 w110 ∧ ∃ a111 : Addr, s77.a = some a111 ∧
                ((0 : Int) ≤ n4 ∧ n4 < ((s77.len : Nat) : Int)) ∧ (∃ u : Value, w110.cell? ((a111.add (Int.toNat n4 * 23)).add 22) = some u) ∧
                w110.frozen? ((a111.add (Int.toNat n4 * 23)).add 22) = false ∧ Nx (w110.setCell ((a111.add (Int.toNat n4 * 23)).add 22) (.slice s109.a s109.len s109.cap)) fun w112 =>
                Q (.int .i64 0) w112)
              )
            )
          )
        )
      )
    )
def A.ref20_Farm_AddBackend : AT := (.seq (.reg []) (.seq (.reg []) (.seq (.seq (.reg []) (.cond (.seq (.reg []) .leaf) .leaf)) (.seq (.seq (.drw 8 false ⟨[0, 1, 2, 4, 0, 24, 32, 0, 192, 256], [0, 1, 2, 4, 0, 24, 32, 0, 192, 256]⟩ [32768, 65536, 131072, 262144, 524288, 1048576, 2097152, 4194304, 8388608, 16777216] [1, 32768, 65536, 131072, 128, 786432, 1048576, 32, 6291456, 8388608] (.take 0 (.take 1 (.take 2 (.take 3 (.take 4 (.take 5 (.take 6 (.take 7 (.tail [.run, .run])))))))))) (.cond (.seq (.reg []) .leaf) .leaf)) (.seq (.seq (.drw 9 false ⟨[0, 1, 2, 4, 0, 24, 32, 0, 128, 320, 512], [0, 1, 2, 4, 0, 24, 32, 0, 128, 320, 512]⟩ [33554432, 67108864, 134217728, 268435456, 536870912, 1073741824, 2147483648, 4294967296, 8589934592, 17179869184, 34359738368] [1, 33554432, 67108864, 134217728, 128, 805306368, 1073741824, 32, 4294967296, 10737418240, 17179869184] (.take 0 (.take 1 (.take 2 (.take 3 (.take 4 (.take 5 (.take 6 (.take 7 (.take 8 (.tail [.run, .run]))))))))))) (.cond (.seq (.reg []) .leaf) .leaf)) (.seq (.reg []) (.seq (.seq (.reg []) (.cond (.seq (.reg []) .leaf) .leaf)) (.seq (.blk (.loop [(9, (.int .i64))] [0, 5, 7, 8] (.seq (.seq (.drw 12 false ⟨[0, 0, 2, 5, 8, 16, 16, 112, 144, 272, 16, 1040, 2576, 4112], [0, 0, 2, 5, 8, 16, 16, 112, 144, 272, 16, 1040, 2576, 4112]⟩ [140737488355328, 281474976710656, 562949953421312, 1125899906842624, 2251799813685248, 4503599627370496, 9007199254740992, 18014398509481984, 36028797018963968, 72057594037927936, 144115188075855872, 288230376151711744, 576460752303423488, 1152921504606846976] [512, 256, 281474976710656, 703687441776640, 1125899906842624, 2251799813685504, 2251799813685760, 15762598695796736, 20266198323167232, 38280596832649216, 2251799813685280, 146366987889541120, 362539770003324928, 578712552117108736] (.take 0 (.take 1 (.take 2 (.take 3 (.take 4 (.sp 51 (.take 5 (.take 6 (.take 7 (.take 8 (.take 9 (.take 10 (.take 11 (.tail [.run, .run])))))))) (.take 5 (.take 6 (.take 7 (.take 8 (.take 9 (.take 10 (.take 11 (.tail [.run, .run]))))))))))))))) (.cond .leaf .leaf)) (.blk (.reg []))))) (.seq (.drw 17 true ⟨[0, 1, 2, 4, 0, 0, 0, 0, 192, 288, 0, 1024, 2560, 0, 0, 24576, 36864, 131071, 262143, 393215], [0, 1, 2, 4, 0, 0, 0, 0, 192, 288, 0, 1024, 2560, 0, 0, 24576, 36864, 24, 131072, 327680]⟩ [9223372036854775808, 18446744073709551616, 36893488147419103232, 73786976294838206464, 147573952589676412928, 295147905179352825856, 590295810358705651712, 1180591620717411303424, 2361183241434822606848, 4722366482869645213696, 9444732965739290427392, 18889465931478580854784, 37778931862957161709568, 75557863725914323419136, 151115727451828646838272, 302231454903657293676544, 604462909807314587353088, 1208925819614629174706176, 2417851639229258349412352, 0] [1, 9223372036854775808, 18446744073709551616, 36893488147419103232, 128, 0, 256, 512, 1770887431076116955136, 2656331146614175432704, 32, 9444732965739290427392, 23611832414348226068480, 256, 512, 226673591177742970257408, 340010386766614455386112, 221360928884514619392, 1208925819614629174706176, 3022314549036572936765440] (.take 0 (.take 1 (.take 2 (.take 3 (.take 4 (.take 6 (.take 7 (.take 8 (.take 10 (.take 13 (.take 14 (.take 15 (.two 5 (.two 9 (.eff 11 (.eff 12 (.eff 16 (.tail [.run, .run, .run])))) 11 (.eff 9 (.eff 12 (.eff 16 (.tail [.run, .run, .run]))))) 11 (.eff 5 (.eff 9 (.eff 12 (.eff 16 (.tail [.run, .run, .run]))))))))))))))))))) (.seq (.reg []) .leaf))))))))))
theorem W.ref20_Farm_AddBackend_eq (f : Option Addr) (id : Int) (b : Array Value) (w : World) (Q : Value → World → Prop) : W.ref20_Farm_AddBackend f id b w Q = DF Try.prog tk A.ref20_Farm_AddBackend Try.f27 [.pointer f, .int .i64 id, .agg b] w Q := by kernel_rfl
theorem W.ref20_Farm_AddBackend_ok (f : Option Addr) (id : Int) (b : Array Value) (w : World) (Q : Value → World → Prop) (h : W.ref20_Farm_AddBackend f id b w Q) : Calls Try.prog F.ref20_Farm_AddBackend #[.pointer f, .int .i64 id, .agg b] w fun e w1 => ∃ v, e = .returned v ∧ Q v w1 :=
  calls_of_DF hmix Try.func27 (by kernel_rfl) (Eq.mp (W.ref20_Farm_AddBackend_eq f id b w Q) h)

/-- (*stanchion/stanchionref20.Farm).Turn -/
def W.ref20_Farm_Turn (f : Option Addr) (id : Int) (backend : Int) (what : Int) (weight : Int) (w : World) (Q : Value → World → Prop) : Prop :=
  Calls Try.prog F.ref20_Farm_At #[.pointer f, .int .i64 id] w fun e2 w1 => ∃ n3 : Int, e2 = .returned (.int .i64 n3) ∧
  ((decide ((n3 : Int) < 0)) = true → Q (.int .i64 6) w1) ∧ (
    (decide ((n3 : Int) < 0)) = false → ∃ a4 : Addr, f = some a4 ∧ ∃ s5 : Sl, w1.cell? a4 = some (.slice s5.a s5.len s5.cap) ∧
    ∃ a6 : Addr, s5.a = some a6 ∧ ((0 : Int) ≤ n3 ∧ n3 < ((s5.len : Nat) : Int)) ∧
    ∃ l7 : List Value, rdCells w1 (a6.add (Int.toNat n3 * 23)) 0 23 = some l7 ∧
    Calls Try.prog F.ref20_Has #[.agg l7.toArray, .int .i64 backend] w1 fun e9 w8 =>
    ∃ n10 : Int, e9 = .returned (.int .i64 n10) ∧ ((decide ((n10 : Int) < 0)) = true → Q (.int .i64 6) w8) ∧
    (
      (decide ((n10 : Int) < 0)) = false → (
        (((what : Int) == 3) && ((decide ((weight : Int) < 0)) || (decide ((weight : Int) > 10)))) = true →
        Q (.int .i64 1) w8)
      ∧ (
        (((what : Int) == 3) && ((decide ((weight : Int) < 0)) || (decide ((weight : Int) > 10)))) = false →
        ∃ s11 : Sl, ∃ w12 : World, Sem.run Try.prog (Instr.buildSlice Ty.Sl_api_Backend 0 #[]) w8 = .ok (.slice s11.a s11.len s11.cap) w12 ∧
        ∃ a13 : Addr, f = some a13 ∧ ∃ s14 : Sl, w12.cell? a13 = some (.slice s14.a s14.len s14.cap) ∧
        ∃ a15 : Addr, s14.a = some a15 ∧ ((0 : Int) ≤ n3 ∧ n3 < ((s14.len : Nat) : Int)) ∧
        ∃ s16 : Sl, w12.cell? ((a15.add (Int.toNat n3 * 23)).add 22) = some (.slice s16.a s16.len s16.cap) ∧
        ∃ s17 : Sl, ∃ w18 : World, Sem.run Try.prog (
          Builtin.append_ #[Ty.Sl_api_Backend, Ty.Sl_api_Backend] Ty.Sl_api_Backend #[.slice s11.a s11.len s11.cap, .slice s16.a s16.len s16.cap])
        w12 = .ok (.slice s17.a s17.len s17.cap) w18 ∧ Jn (
          fun k19 : World → Prop => (
            (((what : Int) == 1) || ((what : Int) == 2)) = true → ∃ a20 : Addr, s17.a = some a20 ∧
            ((0 : Int) ≤ n10 ∧ n10 < ((s17.len : Nat) : Int)) ∧ (∃ u : Value, w18.cell? ((a20.add (Int.toNat n10 * 21)).add 20) = some u) ∧
            w18.frozen? ((a20.add (Int.toNat n10 * 21)).add 20) = false ∧ Nx (w18.setCell ((a20.add (Int.toNat n10 * 21)).add 20) (.bool ((what : Int) == 1))) fun w21 =>
            k19 w21)
          ∧ ((((what : Int) == 1) || ((what : Int) == 2)) = false → k19 w18))
        (
          fun  (w22 : World) => Jn (
            fun k23 : World → Prop => (
              ((what : Int) == 3) = true → ∃ a24 : Addr, s17.a = some a24 ∧ ((0 : Int) ≤ n10 ∧ n10 < ((s17.len : Nat) : Int)) ∧
              (∃ u : Value, w22.cell? ((a24.add (Int.toNat n10 * 21)).add 19) = some u) ∧
              w22.frozen? ((a24.add (Int.toNat n10 * 21)).add 19) = false ∧ Nx (w22.setCell ((a24.add (Int.toNat n10 * 21)).add 19) (.int .i64 weight)) fun w25 =>
              k23 w25)
            ∧ (((what : Int) == 3) = false → k23 w22))
          (
            fun  (w26 : World) => Jn (
              fun k27 : Sl → World → Prop => (
                ((what : Int) == 0) = true → Nx (w26.drew) fun w28 => ((0 : Int) ≤ n10 ∧ n10 ≤ ((s17.cap : Nat) : Int)) ∧
                ((0 : Int) ≤ (IntKind.wrap .i64 (n10 + 1)) ∧ (IntKind.wrap .i64 (n10 + 1)) ≤ ((s17.len : Nat) : Int)) ∧
                ∃ s29 : Sl, ∃ w30 : World, Sem.run Try.prog (
                  Builtin.append_ #[Ty.Sl_api_Backend, Ty.Sl_api_Backend] Ty.Sl_api_Backend #[.slice (cutA s17.a 21 0 s17.cap) ((Int.toNat n10) - 0) (s17.cap - 0), .slice (cutA s17.a 21 (Int.toNat (IntKind.wrap .i64 (n10 + 1))) s17.cap) (s17.len - (Int.toNat (IntKind.wrap .i64 (n10 + 1)))) (s17.cap - (Int.toNat (IntKind.wrap .i64 (n10 + 1))))])
                w28 = .ok (.slice s29.a s29.len s29.cap) w30 ∧ k27 s29 w30)
              ∧ (((what : Int) == 0) = false → k27 s17 w26))
            (
              fun (s31 : Sl) (w32 : World) => ∃ a33 : Addr, f = some a33 ∧ ∃ s34 : Sl, w32.cell? a33 = some (.slice s34.a s34.len s34.cap) ∧
              ∃ a35 : Addr, s34.a = some a35 ∧ ((0 : Int) ≤ n3 ∧ n3 < ((s34.len : Nat) : Int)) ∧
              (∃ u : Value, w32.cell? ((a35.add (Int.toNat n3 * 23)).add 22) = some u) ∧
              w32.frozen? ((a35.add (Int.toNat n3 * 23)).add 22) = false ∧ Nx (w32.setCell ((a35.add (Int.toNat n3 * 23)).add 22) (.slice s31.a s31.len s31.cap)) fun w36 =>
              Q (.int .i64 0) w36)
            )
          )
        )
      )
    )
def A.ref20_Farm_Turn : AT := (.seq (.reg []) (.seq (.reg []) (.seq (.seq (.reg []) (.cond (.seq (.reg []) .leaf) .leaf)) (.seq (.reg []) (.seq (.seq (.reg []) (.cond (.seq (.reg []) .leaf) .leaf)) (.seq (.seq (.reg [.run, .run, .run, .pure 6, .run, .run, .pure 2]) (.cond (.seq (.reg []) .leaf) .leaf)) (.seq (.reg []) (.seq (.jk [] [0, 3, 4, 11, 12, 13] (.seq (.reg [.run, .run, .run, .pure 2]) (.cond (.reg []) .leaf))) (.seq (.jk [] [0, 3, 11, 12, 13] (.seq (.reg []) (.cond (.reg []) .leaf))) (.seq (.jk [(13, .slice)] [0, 11] (.seq (.reg []) (.cond (.drw 7 false ⟨[0, 0, 3, 0, 0, 16, 40, 68, 255], [0, 0, 3, 0, 0, 16, 40, 68, 137]⟩ [2361183241434822606848, 4722366482869645213696, 9444732965739290427392, 18889465931478580854784, 37778931862957161709568, 75557863725914323419136, 151115727451828646838272, 302231454903657293676544, 8192] [8192, 4096, 7083549724304467820544, 8192, 4096, 37778931862957161709568, 94447329657392904273920, 160560460417567937265664, 302231454903657293676544] (.take 0 (.take 1 (.take 2 (.take 3 (.take 4 (.take 5 (.take 6 (.tail [.run, .run]))))))))) .leaf))) (.seq (.reg []) (.seq (.reg []) .leaf))))))))))))
theorem W.ref20_Farm_Turn_eq (f : Option Addr) (id : Int) (backend : Int) (what : Int) (weight : Int) (w : World) (Q : Value → World → Prop) : W.ref20_Farm_Turn f id backend what weight w Q = DF Try.prog tk A.ref20_Farm_Turn Try.f29 [.pointer f, .int .i64 id, .int .i64 backend, .int .i64 what, .int .i64 weight] w Q := by kernel_rfl
theorem W.ref20_Farm_Turn_ok (f : Option Addr) (id : Int) (backend : Int) (what : Int) (weight : Int) (w : World) (Q : Value → World → Prop) (h : W.ref20_Farm_Turn f id backend what weight w Q) : Calls Try.prog F.ref20_Farm_Turn #[.pointer f, .int .i64 id, .int .i64 backend, .int .i64 what, .int .i64 weight] w fun e w1 => ∃ v, e = .returned v ∧ Q v w1 :=
  calls_of_DF hmix Try.func29 (by kernel_rfl) (Eq.mp (W.ref20_Farm_Turn_eq f id backend what weight w Q) h)

/-- (*stanchion/stanchionref20.Farm).AddService -/
def W.ref20_Farm_AddService (f : Option Addr) (s : Array Value) (w : World) (Q : Value → World → Prop) : Prop :=
  Nx (w.alloc (.cells s Ty.api_Service)) fun w1 => ∃ l2 : List Value, rdCells w1 ⟨w.heap.size, 0, none⟩ 0 23 = some l2 ∧
  Calls Try.prog F.ref20_May #[.agg l2.toArray] w1 fun e4 w3 => ∃ b5 : Bool, e4 = .returned (.bool b5) ∧
  ((!b5) = true → Q (.int .i64 1) w3) ∧ (
    (!b5) = false → ∃ (I6 : Int → Int → World → Prop) (μ7 : Int → Int → World → Nat), I6 0 0 w3 ∧
    ∀ (n8 : Int) (n9 : Int) (w10 : World), I6 n8 n9 w10 → ∃ a11 : Addr, f = some a11 ∧
    ∃ s12 : Sl, w10.cell? a11 = some (.slice s12.a s12.len s12.cap) ∧ (
      (decide ((n9 : Int) < ((s12.len : Nat) : Int))) = true → Jn (
        fun k13 : Int → World → Prop => ∃ a14 : Addr, f = some a14 ∧ ∃ s15 : Sl, w10.cell? a14 = some (.slice s15.a s15.len s15.cap) ∧
        ∃ a16 : Addr, s15.a = some a16 ∧ ((0 : Int) ≤ n9 ∧ n9 < ((s15.len : Nat) : Int)) ∧
        ∃ l17 : List Value, rdCells w10 (a16.add (Int.toNat n9 * 23)) 0 23 = some l17 ∧
        Nx (
          w10.alloc (
            .cells #[.int .i64 0, .bool false, .int .u8 0, .int .u8 0, .int .u8 0, .int .u8 0, .int .u8 0, .int .u8 0, .int .u8 0, .int .u8 0, .int .u8 0, .int .u8 0, .int .u8 0, .int .u8 0, .int .u8 0, .int .u8 0, .int .u8 0, .int .u8 0, .int .u16 0, .int .u8 0, .int .i64 0, .int .u64 0, .slice none 0 0] Ty.api_Service)
          )
        fun w18 => StoreOk w18 ⟨w10.heap.size, 0, none⟩ (Array.toList l17.toArray) ∧
        Array.size l17.toArray = 23 ∧ Nx (setCells w18 ⟨w10.heap.size, 0, none⟩ 0 (Array.toList l17.toArray)) fun w19 =>
        ∃ n20 : Int, w19.cell? ⟨w10.heap.size, 0, none⟩ = some (.int .i64 n20) ∧ ∃ n21 : Int, w19.cell? ⟨w.heap.size, 0, none⟩ = some (.int .i64 n21) ∧
        Jn (
          fun k22 : Bool → World → Prop => (((n20 : Int) == n21) = true → k22 true w19) ∧
          (
            ((n20 : Int) == n21) = false → ∃ l23 : List Value, rdCells w19 (Addr.add ⟨w10.heap.size, 0, none⟩ 1) 0 17 = some l23 ∧
            ∃ l24 : List Value, rdCells w19 (Addr.add ⟨w.heap.size, 0, none⟩ 1) 0 17 = some l24 ∧
            ∃ b25 : Bool, AggEq Try.prog Ty.api_Addr l23.toArray l24.toArray b25 ∧ Jn (
              fun k26 : Bool → World → Prop => (
                b25 = true → ∃ n27 : Int, w19.cell? (Addr.add ⟨w10.heap.size, 0, none⟩ 18) = some (.int .u16 n27) ∧
                ∃ n28 : Int, w19.cell? (Addr.add ⟨w.heap.size, 0, none⟩ 18) = some (.int .u16 n28) ∧
                k26 ((n27 : Int) == n28) w19)
              ∧ (b25 = false → k26 false w19))
            (
              fun (b29 : Bool) (w30 : World) => Jn (
                fun k31 : Bool → World → Prop => (
                  b29 = true → ∃ n32 : Int, w30.cell? (Addr.add ⟨w10.heap.size, 0, none⟩ 19) = some (.int .u8 n32) ∧
                  ∃ n33 : Int, w30.cell? (Addr.add ⟨w.heap.size, 0, none⟩ 19) = some (.int .u8 n33) ∧
                  k31 ((n32 : Int) == n33) w30)
                ∧ (b29 = false → k31 false w30))
              (fun (b34 : Bool) (w35 : World) => k22 b34 w35))
            )
          )
        (
          fun (b36 : Bool) (w37 : World) => (b36 = true → Q (.int .i64 7) w37) ∧ (
            b36 = false → ∃ n38 : Int, w37.cell? ⟨w10.heap.size, 0, none⟩ = some (.int .i64 n38) ∧
            ∃ n39 : Int, w37.cell? ⟨w.heap.size, 0, none⟩ = some (.int .i64 n39) ∧ ((decide ((n38 : Int) < n39)) = true → k13 (IntKind.wrap .i64 (n9 + 1)) w37) ∧
            ((decide ((n38 : Int) < n39)) = false → k13 n8 w37))
          )
        )
      (
        fun (n40 : Int) (w41 : World) => I6 n40 (IntKind.wrap .i64 (n9 + 1)) w41 ∧
        μ7 n40 (IntKind.wrap .i64 (n9 + 1)) w41 < μ7 n8 n9 w10)
      )
    ∧ (
      (decide ((n9 : Int) < ((s12.len : Nat) : Int))) = false → ∃ a42 : Addr, f = some a42 ∧
      ∃ s43 : Sl, w10.cell? a42 = some (.slice s43.a s43.len s43.cap) ∧ ((decide ((((s43.len : Nat) : Int) : Int) ≥ 8)) = true → Q (.int .i64 2) w10) ∧
      (
        (decide ((((s43.len : Nat) : Int) : Int) ≥ 8)) = false → ∃ s44 : Sl, ∃ w45 : World, Sem.run Try.prog (Instr.buildSlice Ty.Sl_api_Backend 0 #[]) w10 = .ok (.slice s44.a s44.len s44.cap) w45 ∧
        (∃ u : Value, w45.cell? (Addr.add ⟨w.heap.size, 0, none⟩ 22) = some u) ∧ w45.frozen? (Addr.add ⟨w.heap.size, 0, none⟩ 22) = false ∧
        Nx (w45.setCell (Addr.add ⟨w.heap.size, 0, none⟩ 22) (.slice s44.a s44.len s44.cap)) fun w46 =>
        Nx (w46.drew) fun w47 => ∃ W48 : Nat → Prop, ∃ a49 : Addr, f = some a49 ∧
        ¬ W48 a49.block ∧ ∃ s50 : Sl, w47.cell? a49 = some (.slice s50.a s50.len s50.cap) ∧
        ((0 : Int) ≤ n8 ∧ n8 ≤ ((s50.cap : Nat) : Int)) ∧ ¬ W48 (⟨w.heap.size, 0, none⟩ : Addr).block ∧
        ∃ l51 : List Value, rdCells w47 ⟨w.heap.size, 0, none⟩ 0 23 = some l51 ∧ ∃ a52 : Addr, f = some a52 ∧
        ¬ W48 a52.block ∧ ∃ s53 : Sl, w47.cell? a52 = some (.slice s53.a s53.len s53.cap) ∧
        ((0 : Int) ≤ n8 ∧ n8 ≤ ((s53.len : Nat) : Int)) ∧ (
          ∃ s54 : Sl, ∃ w55 : World, Sem.run Try.prog (Instr.buildSlice Ty.Sl_api_Service 0 #[]) w47 = .ok (.slice s54.a s54.len s54.cap) w55 ∧
          Chg W48 w47 w55 ∧ (
            ∃ s56 : Sl, ∃ w57 : World, Sem.run Try.prog (
              Builtin.append_ #[Ty.Sl_api_Service, Ty.Sl_api_Service] Ty.Sl_api_Service #[.slice s54.a s54.len s54.cap, .slice (cutA s50.a 23 0 s50.cap) ((Int.toNat n8) - 0) (s50.cap - 0)])
            w55 = .ok (.slice s56.a s56.len s56.cap) w57 ∧ Chg W48 w55 w57 ∧ ∃ s58 : Sl, ∃ w59 : World, Sem.run Try.prog (Instr.buildSlice Ty.Sl_api_Service 1 #[(0, .agg l51.toArray)]) w57 = .ok (.slice s58.a s58.len s58.cap) w59 ∧
            Chg W48 w57 w59 ∧ ∃ s60 : Sl, ∃ w61 : World, Sem.run Try.prog (
              Builtin.append_ #[Ty.Sl_api_Service, Ty.Sl_api_Service] Ty.Sl_api_Service #[.slice s56.a s56.len s56.cap, .slice s58.a s58.len s58.cap])
            w59 = .ok (.slice s60.a s60.len s60.cap) w61 ∧ Chg W48 w59 w61 ∧ ∃ s62 : Sl, ∃ w63 : World, Sem.run Try.prog (
              Builtin.append_ #[Ty.Sl_api_Service, Ty.Sl_api_Service] Ty.Sl_api_Service #[.slice s60.a s60.len s60.cap, .slice (cutA s53.a 23 (Int.toNat n8) s53.cap) (s53.len - (Int.toNat n8)) (s53.cap - (Int.toNat n8))])
            w61 = .ok (.slice s62.a s62.len s62.cap) w63 ∧ Chg W48 w61 w63 ∧ ∃ a64 : Addr, f = some a64 ∧
            (∃ u : Value, w63.cell? a64 = some u) ∧ w63.frozen? a64 = false ∧ Nx (w63.setCell a64 (.slice s62.a s62.len s62.cap)) fun w65 =>
            Q (.int .i64 0) w65)
          ∧ (
            ∃ s66 : Sl, ∃ w67 : World, Sem.run Try.prog (Instr.buildSlice Ty.Sl_api_Service 1 #[(0, .agg l51.toArray)]) w55 = .ok (.slice s66.a s66.len s66.cap) w67 ∧
            Chg W48 w55 w67 ∧ ∃ s68 : Sl, ∃ w69 : World, Sem.run Try.prog (
              Builtin.append_ #[Ty.Sl_api_Service, Ty.Sl_api_Service] Ty.Sl_api_Service #[.slice s54.a s54.len s54.cap, .slice (cutA s50.a 23 0 s50.cap) ((Int.toNat n8) - 0) (s50.cap - 0)])
            w67 = .ok (.slice s68.a s68.len s68.cap) w69 ∧ Chg W48 w67 w69 ∧ ∃ s70 : Sl, ∃ w71 : World, Sem.run Try.prog (
              Builtin.append_ #[Ty.Sl_api_Service, Ty.Sl_api_Service] Ty.Sl_api_Service #[.slice s68.a s68.len s68.cap, .slice s66.a s66.len s66.cap])
            w69 = .ok (.slice s70.a s70.len s70.cap) w71 ∧ Chg W48 w69 w71 ∧ ∃ s72 : Sl, ∃ w73 : World, Sem.run Try.prog (
              Builtin.append_ #[Ty.Sl_api_Service, Ty.Sl_api_Service] Ty.Sl_api_Service #[.slice s70.a s70.len s70.cap, .slice (cutA s53.a 23 (Int.toNat n8) s53.cap) (s53.len - (Int.toNat n8)) (s53.cap - (Int.toNat n8))])
            w71 = .ok (.slice s72.a s72.len s72.cap) w73 ∧ Chg W48 w71 w73 ∧ ∃ a74 : Addr, f = some a74 ∧
            (∃ u : Value, w73.cell? a74 = some u) ∧ w73.frozen? a74 = false ∧ Nx (w73.setCell a74 (.slice s72.a s72.len s72.cap)) fun w75 =>
            Q (.int .i64 0) w75)
          )
        ∧ (
          ∃ s76 : Sl, ∃ w77 : World, Sem.run Try.prog (Instr.buildSlice Ty.Sl_api_Service 1 #[(0, .agg l51.toArray)]) w47 = .ok (.slice s76.a s76.len s76.cap) w77 ∧
          Chg W48 w47 w77 ∧ ∃ s78 : Sl, ∃ w79 : World, Sem.run Try.prog (Instr.buildSlice Ty.Sl_api_Service 0 #[]) w77 = .ok (.slice s78.a s78.len s78.cap) w79 ∧
          Chg W48 w77 w79 ∧ ∃ s80 : Sl, ∃ w81 : World, Sem.run Try.prog (
            Builtin.append_ #[Ty.Sl_api_Service, Ty.Sl_api_Service] Ty.Sl_api_Service #[.slice s78.a s78.len s78.cap, .slice (cutA s50.a 23 0 s50.cap) ((Int.toNat n8) - 0) (s50.cap - 0)])
          w79 = .ok (.slice s80.a s80.len s80.cap) w81 ∧ Chg W48 w79 w81 ∧ ∃ s82 : Sl, ∃ w83 : World, Sem.run Try.prog (
            Builtin.append_ #[Ty.Sl_api_Service, Ty.Sl_api_Service] Ty.Sl_api_Service #[.slice s80.a s80.len s80.cap, .slice s76.a s76.len s76.cap])
          w81 = .ok (.slice s82.a s82.len s82.cap) w83 ∧ Chg W48 w81 w83 ∧ ∃ s84 : Sl, ∃ w85 : World, Sem.run Try.prog (
            Builtin.append_ #[Ty.Sl_api_Service, Ty.Sl_api_Service] Ty.Sl_api_Service #[.slice s82.a s82.len s82.cap, .slice (cutA s53.a 23 (Int.toNat n8) s53.cap) (s53.len - (Int.toNat n8)) (s53.cap - (Int.toNat n8))])
          w83 = .ok (.slice s84.a s84.len s84.cap) w85 ∧ Chg W48 w83 w85 ∧ ∃ a86 : Addr, f = some a86 ∧
          (∃ u : Value, w85.cell? a86 = some u) ∧ w85.frozen? a86 = false ∧ Nx (w85.setCell a86 (.slice s84.a s84.len s84.cap)) fun w87 =>
          Q (.int .i64 0) w87)
        )
      )
    )
def A.ref20_Farm_AddService : AT := (.seq (.reg []) (.seq (.seq (.reg []) (.cond (.seq (.reg []) .leaf) .leaf)) (.seq (.reg []) (.seq (.seq (.reg []) (.blk (.loop [(5, (.int .i64)), (6, (.int .i64))] [0, 3] (.seq (.seq (.reg []) (.cond .leaf .leaf)) (.seq (.jk [(5, (.int .i64))] [0, 3, 6] (.blk (.seq (.reg []) (.seq (.seq (.reg [.run, .run, .run, .run, .run, .run, .split 19, .run, .run, .run, .run, .run, .split 5, .run, .run, .run, .run, .run, .run, .split 5]) (.cond (.seq (.reg []) .leaf) .leaf)) (.seq (.reg []) (.cond (.reg []) .leaf)))))) (.reg [])))))) (.seq (.seq (.reg []) (.cond (.seq (.reg []) .leaf) .leaf)) (.seq (.reg []) (.seq (.drw 19 true ⟨[0, 0, 0, 4, 8, 16, 0, 96, 130, 0, 512, 1280, 0, 4096, 8192, 16384, 0, 98304, 133120, 524287, 1048575, 1572863], [0, 0, 0, 4, 8, 16, 0, 96, 130, 0, 512, 1280, 0, 4096, 8192, 16384, 0, 98304, 133120, 1, 524288, 1310720]⟩ [295147905179352825856, 590295810358705651712, 1180591620717411303424, 2361183241434822606848, 4722366482869645213696, 9444732965739290427392, 18889465931478580854784, 37778931862957161709568, 75557863725914323419136, 151115727451828646838272, 302231454903657293676544, 604462909807314587353088, 1208925819614629174706176, 2417851639229258349412352, 4835703278458516698824704, 9671406556917033397649408, 19342813113834066795298816, 38685626227668133590597632, 77371252455336267181195264, 154742504910672534362390528, 309485009821345068724781056, 0] [1, 0, 1, 1180591620717411303424, 2361183241434822606848, 4722366482869645213696, 32, 28334198897217871282176, 38369227673315867361280, 8, 151115727451828646838272, 377789318629571617095680, 1, 1208925819614629174706176, 2417851639229258349412352, 4835703278458516698824704, 32, 29014219670751100192948224, 39290089137475448177950720, 295147905179352825856, 154742504910672534362390528, 386856262276681335905976320] (.take 0 (.take 2 (.take 3 (.take 4 (.take 5 (.take 6 (.take 7 (.take 9 (.take 12 (.take 13 (.take 14 (.take 15 (.take 16 (.take 17 (.two 1 (.two 8 (.eff 10 (.eff 11 (.eff 18 (.tail [.run, .run, .run])))) 10 (.eff 8 (.eff 11 (.eff 18 (.tail [.run, .run, .run]))))) 10 (.eff 1 (.eff 8 (.eff 11 (.eff 18 (.tail [.run, .run, .run]))))))))))))))))))))) (.seq (.reg []) .leaf))))))))
theorem W.ref20_Farm_AddService_eq (f : Option Addr) (s : Array Value) (w : World) (Q : Value → World → Prop) : W.ref20_Farm_AddService f s w Q = DF Try.prog tk A.ref20_Farm_AddService Try.f33 [.pointer f, .agg s] w Q := by kernel_rfl
theorem W.ref20_Farm_AddService_ok (f : Option Addr) (s : Array Value) (w : World) (Q : Value → World → Prop) (h : W.ref20_Farm_AddService f s w Q) : Calls Try.prog F.ref20_Farm_AddService #[.pointer f, .agg s] w fun e w1 => ∃ v, e = .returned v ∧ Q v w1 :=
  calls_of_DF hmix Try.func33 (by kernel_rfl) (Eq.mp (W.ref20_Farm_AddService_eq f s w Q) h)

/-- stanchion/stanchionref20.Can -/
def W.ref20_Can (s : Array Value) (b : Array Value) (w : World) (Q : Value → World → Prop) : Prop :=
  Nx (w.alloc (.cells s Ty.api_Service)) fun w1 => Nx (w1.alloc (.cells b Ty.api_Backend)) fun w2 =>
  ∃ n3 : Int, w2.cell? ⟨w1.heap.size, 0, none⟩ = some (.int .i64 n3) ∧ Jn (
    fun k4 : Bool → World → Prop => (
      (decide ((n3 : Int) ≥ 0)) = true → ∃ n5 : Int, w2.cell? ⟨w1.heap.size, 0, none⟩ = some (.int .i64 n5) ∧
      k4 (decide ((n5 : Int) ≤ 65535)) w2)
    ∧ ((decide ((n3 : Int) ≥ 0)) = false → k4 false w2))
  (
    fun (b6 : Bool) (w7 : World) => Jn (
      fun k8 : Bool → World → Prop => (
        b6 = true → ∃ l9 : List Value, rdCells w7 (Addr.add ⟨w1.heap.size, 0, none⟩ 1) 0 17 = some l9 ∧
        Calls Try.prog F.ref12_Good #[.agg l9.toArray] w7 fun e11 w10 => ∃ b12 : Bool, e11 = .returned (.bool b12) ∧
        k8 b12 w10)
      ∧ (b6 = false → k8 false w7))
    (
      fun (b13 : Bool) (w14 : World) => Jn (
        fun k15 : Bool → World → Prop => (
          b13 = true → ∃ b16 : Bool, w14.cell? (Addr.add ⟨w1.heap.size, 0, none⟩ 1) = some (.bool b16) ∧
          ∃ b17 : Bool, w14.cell? (Addr.add ⟨w.heap.size, 0, none⟩ 1) = some (.bool b17) ∧
          k15 (b16 == b17) w14)
        ∧ (b13 = false → k15 false w14))
      (
        fun (b18 : Bool) (w19 : World) => Jn (
          fun k20 : Bool → World → Prop => (
            b18 = true → ∃ n21 : Int, w19.cell? (Addr.add ⟨w1.heap.size, 0, none⟩ 18) = some (.int .u16 n21) ∧
            k20 (decide ((n21 : Int) > 0)) w19)
          ∧ (b18 = false → k20 false w19))
        (
          fun (b22 : Bool) (w23 : World) => Jn (
            fun k24 : Bool → World → Prop => (
              b22 = true → ∃ n25 : Int, w23.cell? (Addr.add ⟨w1.heap.size, 0, none⟩ 19) = some (.int .i64 n25) ∧
              k24 (decide ((n25 : Int) ≥ 0)) w23)
            ∧ (b22 = false → k24 false w23))
          (
            fun (b26 : Bool) (w27 : World) => Jn (
              fun k28 : Bool → World → Prop => (
                b26 = true → ∃ n29 : Int, w27.cell? (Addr.add ⟨w1.heap.size, 0, none⟩ 19) = some (.int .i64 n29) ∧
                k28 (decide ((n29 : Int) ≤ 10)) w27)
              ∧ (b26 = false → k28 false w27))
            (
              fun (b30 : Bool) (w31 : World) => Jn (
                fun k32 : Bool → World → Prop => (
                  b30 = true → ∃ b33 : Bool, w31.cell? (Addr.add ⟨w1.heap.size, 0, none⟩ 20) = some (.bool b33) ∧
                  k32 (!b33) w31)
                ∧ (b30 = false → k32 false w31))
              (fun (b34 : Bool) (w35 : World) => Q (.bool b34) w35))
            )
          )
        )
      )
    )
def A.ref20_Can : AT := (.seq (.reg []) (.seq (.reg [.run, .run, .run, .run, .split 3, .run, .run, .run, .run, .split 3, .run, .run, .run, .run, .split 7, .run, .run, .run, .run, .run, .run, .run, .run, .split 3, .run, .run, .run, .run, .split 3, .run, .run, .run, .run, .split 3, .run, .run, .run, .run, .split 3]) .leaf))
theorem W.ref20_Can_eq (s : Array Value) (b : Array Value) (w : World) (Q : Value → World → Prop) : W.ref20_Can s b w Q = DF Try.prog tk A.ref20_Can Try.f47 [.agg s, .agg b] w Q := by kernel_rfl
theorem W.ref20_Can_ok (s : Array Value) (b : Array Value) (w : World) (Q : Value → World → Prop) (h : W.ref20_Can s b w Q) : Calls Try.prog F.ref20_Can #[.agg s, .agg b] w fun e w1 => ∃ v, e = .returned v ∧ Q v w1 :=
  calls_of_DF hmix Try.func47 (by kernel_rfl) (Eq.mp (W.ref20_Can_eq s b w Q) h)

/-- stanchion/stanchionref20.May -/
def W.ref20_May (s : Array Value) (w : World) (Q : Value → World → Prop) : Prop :=
  Nx (w.alloc (.cells s Ty.api_Service)) fun w1 => Jn (
    fun k2 : Int → World → Prop => ∃ b3 : Bool, w1.cell? (Addr.add ⟨w.heap.size, 0, none⟩ 1) = some (.bool b3) ∧
    (b3 = true → k2 128 w1) ∧ (b3 = false → k2 32 w1))
  (
    fun (n4 : Int) (w5 : World) => ∃ n6 : Int, w5.cell? ⟨w.heap.size, 0, none⟩ = some (.int .i64 n6) ∧
    Jn (
      fun k7 : Bool → World → Prop => (
        (decide ((n6 : Int) ≥ 0)) = true → ∃ n8 : Int, w5.cell? ⟨w.heap.size, 0, none⟩ = some (.int .i64 n8) ∧
        k7 (decide ((n8 : Int) ≤ 65535)) w5)
      ∧ ((decide ((n6 : Int) ≥ 0)) = false → k7 false w5))
    (
      fun (b9 : Bool) (w10 : World) => Jn (
        fun k11 : Bool → World → Prop => (
          b9 = true → ∃ l12 : List Value, rdCells w10 (Addr.add ⟨w.heap.size, 0, none⟩ 1) 0 17 = some l12 ∧
          Calls Try.prog F.ref12_Good #[.agg l12.toArray] w10 fun e14 w13 => ∃ b15 : Bool, e14 = .returned (.bool b15) ∧
          k11 b15 w13)
        ∧ (b9 = false → k11 false w10))
      (
        fun (b16 : Bool) (w17 : World) => Jn (
          fun k18 : Bool → World → Prop => (
            b16 = true → ∃ n19 : Int, w17.cell? (Addr.add ⟨w.heap.size, 0, none⟩ 18) = some (.int .u16 n19) ∧
            k18 (decide ((n19 : Int) > 0)) w17)
          ∧ (b16 = false → k18 false w17))
        (
          fun (b20 : Bool) (w21 : World) => Jn (
            fun k22 : Bool → World → Prop => (
              b20 = true → ∃ n23 : Int, w21.cell? (Addr.add ⟨w.heap.size, 0, none⟩ 19) = some (.int .u8 n23) ∧
              Jn (
                fun k24 : Bool → World → Prop => (((n23 : Int) == 6) = true → k24 true w21) ∧
                (
                  ((n23 : Int) == 6) = false → ∃ n25 : Int, w21.cell? (Addr.add ⟨w.heap.size, 0, none⟩ 19) = some (.int .u8 n25) ∧
                  k24 ((n25 : Int) == 17) w21)
                )
              (fun (b26 : Bool) (w27 : World) => k22 b26 w27))
            ∧ (b20 = false → k22 false w21))
          (
            fun (b28 : Bool) (w29 : World) => Jn (
              fun k30 : Bool → World → Prop => (
                b28 = true → ∃ n31 : Int, w29.cell? (Addr.add ⟨w.heap.size, 0, none⟩ 20) = some (.int .i64 n31) ∧
                k30 (decide ((n31 : Int) ≥ 0)) w29)
              ∧ (b28 = false → k30 false w29))
            (
              fun (b32 : Bool) (w33 : World) => Jn (
                fun k34 : Bool → World → Prop => (
                  b32 = true → ∃ n35 : Int, w33.cell? (Addr.add ⟨w.heap.size, 0, none⟩ 20) = some (.int .i64 n35) ∧
                  k34 (decide ((n35 : Int) ≤ n4)) w33)
                ∧ (b32 = false → k34 false w33))
              (
                fun (b36 : Bool) (w37 : World) => Jn (
                  fun k38 : Bool → World → Prop => (
                    b36 = true → ∃ n39 : Int, w37.cell? (Addr.add ⟨w.heap.size, 0, none⟩ 21) = some (.int .u64 n39) ∧
                    k38 (decide ((n39 : Int) ≥ 1)) w37)
                  ∧ (b36 = false → k38 false w37))
                (
                  fun (b40 : Bool) (w41 : World) => Jn (
                    fun k42 : Bool → World → Prop => (
                      b40 = true → ∃ n43 : Int, w41.cell? (Addr.add ⟨w.heap.size, 0, none⟩ 21) = some (.int .u64 n43) ∧
                      k42 (decide ((n43 : Int) ≤ 1073741824)) w41)
                    ∧ (b40 = false → k42 false w41))
                  (
                    fun (b44 : Bool) (w45 : World) => Jn (
                      fun k46 : Bool → World → Prop => (
                        b44 = true → ∃ s47 : Sl, w45.cell? (Addr.add ⟨w.heap.size, 0, none⟩ 22) = some (.slice s47.a s47.len s47.cap) ∧
                        k46 ((((s47.len : Nat) : Int) : Int) == 0) w45)
                      ∧ (b44 = false → k46 false w45))
                    (fun (b48 : Bool) (w49 : World) => Q (.bool b48) w49))
                  )
                )
              )
            )
          )
        )
      )
    )
def A.ref20_May : AT := (.seq (.reg []) (.seq (.reg []) (.seq (.jk [(3, (.int .i64))] [1] (.seq (.reg []) (.cond (.reg []) .leaf))) (.seq (.reg [.run, .run, .run, .run, .split 3, .run, .run, .run, .run, .split 3, .run, .run, .run, .run, .split 3, .run, .run, .run, .run, .split 8, .run, .run, .run, .split 3, .run, .run, .run, .run, .run, .split 3, .run, .run, .run, .run, .split 4, .run, .run, .run, .run, .run, .split 3, .run, .run, .run, .run, .split 3, .run, .run, .run, .run, .split 4]) .leaf))))
theorem W.ref20_May_eq (s : Array Value) (w : World) (Q : Value → World → Prop) : W.ref20_May s w Q = DF Try.prog tk A.ref20_May Try.f51 [.agg s] w Q := by kernel_rfl
theorem W.ref20_May_ok (s : Array Value) (w : World) (Q : Value → World → Prop) (h : W.ref20_May s w Q) : Calls Try.prog F.ref20_May #[.agg s] w fun e w1 => ∃ v, e = .returned v ∧ Q v w1 :=
  calls_of_DF hmix Try.func51 (by kernel_rfl) (Eq.mp (W.ref20_May_eq s w Q) h)

/-- stanchion/stanchionref12.Good -/
def W.ref12_Good (a : Array Value) (w : World) (Q : Value → World → Prop) : Prop :=
  Nx (w.alloc (.cells a Ty.api_Addr)) fun w1 => ∃ (I2 : Int → World → Prop) (μ3 : Int → World → Nat), I2 0 w1 ∧
  ∀ (n4 : Int) (w5 : World), I2 n4 w5 → (
    (decide ((n4 : Int) < 12)) = true → ∃ b6 : Bool, w5.cell? ⟨w.heap.size, 0, none⟩ = some (.bool b6) ∧
    Jn (
      fun k7 : Bool → World → Prop => (
        (!b6) = true → ((0 : Int) ≤ n4 ∧ n4 < ((16 : Nat) : Int)) ∧ ∃ n8 : Int, w5.cell? (Addr.add (Addr.add ⟨w.heap.size, 0, none⟩ 1) (Int.toNat n4 * 1)) = some (.int .u8 n8) ∧
        k7 ((n8 : Int) != 0) w5)
      ∧ ((!b6) = false → k7 false w5))
    (
      fun (b9 : Bool) (w10 : World) => (b9 = true → Q (.bool false) w10) ∧ (b9 = false → I2 (IntKind.wrap .i64 (n4 + 1)) w10 ∧ μ3 (IntKind.wrap .i64 (n4 + 1)) w10 < μ3 n4 w5))
    )
  ∧ ((decide ((n4 : Int) < 12)) = false → Q (.bool true) w5)
def A.ref12_Good : AT := (.seq (.reg []) (.seq (.seq (.reg []) (.blk (.loop [(3, (.int .i64))] [1] (.seq (.seq (.reg []) (.cond .leaf .leaf)) (.seq (.blk (.seq (.reg [.run, .run, .run, .run, .split 5]) (.cond (.seq (.reg []) .leaf) .leaf))) (.reg [])))))) (.seq (.reg []) .leaf)))
theorem W.ref12_Good_eq (a : Array Value) (w : World) (Q : Value → World → Prop) : W.ref12_Good a w Q = DF Try.prog tk A.ref12_Good Try.f69 [.agg a] w Q := by kernel_rfl
theorem W.ref12_Good_ok (a : Array Value) (w : World) (Q : Value → World → Prop) (h : W.ref12_Good a w Q) : Calls Try.prog F.ref12_Good #[.agg a] w fun e w1 => ∃ v, e = .returned v ∧ Q v w1 :=
  calls_of_DF hmix Try.func69 (by kernel_rfl) (Eq.mp (W.ref12_Good_eq a w Q) h)

end Go.Proofs.Ytldeegpcldhjaaa
